/- The length of the shortest reset word of an automaton of at most MaxSmall states is at most Bound; the word that Reset returns has at most (n^3 - n) / 6 letters, and Bound does not say more. (text 34 of 37) -/
import Derived.Test.YtcpmmkennnjalaaZEulerBoundsp
import Derived.Test.YtcpmmkennnjalaaZEulerBoundss
import Derived.Test.YtcpmmkennnjalaaZEulerBoundsk
import Derived.Test.YtcpmmkennnjalaaZEulerBoundszg
import Derived.Test.YtcpmmkennnjalaaZEulerBoundsze
section
namespace Go.Proofs.Ytcpmmkennnjalaa.Pure
open Go.RowKit Go.Proofs.YtcpmmkennnjalaaW.PrintWords Go.Proofs.YtcpmmkennnjalaaW.PrintLast Go.Proofs.YtcpmmkennnjalaaW.PrintMore Go.Proofs.Ytcpmmkennnjalaa.Q
set_option linter.unusedVariables false
set_option linter.unusedSimpArgs false
/-! ### how long the shortest reset word of an Eulerian or circular automaton is -/
theorem kinds_most : ∀ n, n < 61 → 1 < n → 6 * (n * n + 3 - 3 * n) + n ≤ n * n * n ∧ 6 * ((n - 1) * (n - 1)) + n ≤ n * n * n ∧ 3 * n ≤ n * n + 3 := by decide
theorem most_eq {n : Nat} (hn : n ≤ 60) : mizmazeref03_Most.f (n : Int) = some ((((n * n * n - n) / 6 : Nat)) : Int) := by
  have hnn : n * n ≤ 3600 := Nat.mul_le_mul hn hn
  have hnnn : n * n * n ≤ 216000 := Nat.mul_le_mul hnn hn
  have hle : n ≤ n * n * n := by
    rcases Nat.eq_zero_or_pos n with h | h
    · rw [h]; exact Nat.le_refl _
    · rw [Nat.mul_assoc]; exact Nat.le_mul_of_pos_right n (Nat.mul_pos h h)
  have hd : ((n * n : Nat) : Int) ≤ 3600 := by omega
  generalize ha : n * n * n = c at *
  have hc : ((n : Int) * n) * n = (c : Int) := by rw [← ha, Int.natCast_mul, Int.natCast_mul]
  rw [Int.natCast_mul] at hd
  have hd0 : 0 ≤ ((n * n : Nat) : Int) := by omega
  rw [Int.natCast_mul] at hd0
  unfold mizmazeref03_Most.f
  rw [wrapI (z := (n : Int) * n) (by omega) (by omega), hc, wrapI (z := (c : Int)) (by omega) (by omega), wrapI (z := (c : Int) - n) (by omega) (by omega), Int.tdiv_eq_ediv_of_nonneg (by omega), wrapI (by omega) (by omega)]
  congr 1
  omega
section
variable {rows : List (List Int)} {n m : Nat} (V : VA rows n m)
include V
theorem eul_len (h : ∀ t, t < n → inn rows t = m) {r : List Nat} (hr : Wd m r) (hall : ∀ s t, s < n → t < n → run (nx rows) s r = run (nx rows) t r) : ∃ z, Wd m z ∧ z.length + 3 * n ≤ n * n + 3 ∧ ∀ s t, s < n → t < n → run (nx rows) s z = run (nx rows) t z :=
  kari_short V.m0 (fun s x hs hx => V.nxLt hs hx) (eul_sum V h) hr hall V.n0
theorem cyc_len {x : Nat} (hx : x < m) (hc : Cyc rows n x) {r : List Nat} (hr : Wd m r) (hall : ∀ s t, s < n → t < n → run (nx rows) s r = run (nx rows) t r) : ∃ z, Wd m z ∧ z.length ≤ (n - 1) * (n - 1) ∧ ∀ s t, s < n → t < n → run (nx rows) s z = run (nx rows) t z := by
  have key : ∀ i j, i < j → j < n → wy rows x i = wy rows x j → False := fun i j hij hj he => by
    have h1 := wy_add he (n - j)
    rw [show j + (n - j) = n by omega, hc.1] at h1
    exact hc.2 _ (by omega) (by omega) h1
  refine dub_short (fun s x hs hx => V.nxLt hs hx) hr hall hx (z := wy rows x) (fun i => wy_lt V hx i) (fun i => rfl) (fun i => ?_) (fun i j hi hj he => ?_) V.n0
  · have h1 := wy_add (a := n) (b := 0) (show wy rows x n = wy rows x 0 from hc.1) i
    rw [Nat.zero_add, Nat.add_comm] at h1
    exact h1
  · rcases Nat.lt_trichotomy i j with h | h | h
    · exact absurd (key i j h hj he) id
    · exact h
    · exact absurd (key j i h hi he.symm) id
/-- What Reset and Bound return; a reset word as short as the bound says. -/
theorem bound_val : (∃ (w z : List Nat) (v : Nat), Wd m w ∧ (∀ s t, s < n → t < n → run (nx rows) s w = run (nx rows) t w) ∧ Ev (fun k => reset_Reset.f k rows) (toI w, 0) ∧ 6 * w.length ≤ HH (n - 1) ∧ Wd m z ∧ (∀ s t, s < n → t < n → run (nx rows) s z = run (nx rows) t z) ∧ z.length ≤ v ∧ Ev (fun k => euler_Bound.f k rows) ((v : Int), 0) ∧ (1 < n → v ≤ (n * n * n - n) / 6)) ∨
    (Ev (fun k => reset_Reset.f k rows) ([], 4) ∧ Ev (fun k => euler_Bound.f k rows) (0, 4) ∧ ∀ w, Wd m w → ¬ ∀ s t, s < n → t < n → run (nx rows) s w = run (nx rows) t w) := by
  have hlen := V.len
  have h60 := V.n60
  have hn0 := V.n0
  obtain ⟨b, hb⟩ : ∃ b : Bool, b = true ↔ ∀ t, t < n → inn rows t = m := by
    by_cases h : ∀ t, t < n → inn rows t = m
    · exact ⟨true, fun _ => h, fun _ => rfl⟩
    · exact ⟨false, fun h2 => (by cases h2), fun h2 => absurd h2 h⟩
  have heu := eul_val V hb
  obtain ⟨rc, hc1, _, hc3⟩ := circ_ev V (p := fun x => @decide (Cyc rows n x) (Classical.propDecidable _)) (fun x _ => by simp)
  obtain ⟨x, is⟩ := rc
  have hnn : n * n ≤ 3600 := Nat.mul_le_mul h60 h60
  have hnnn : n * n * n ≤ 216000 := Nat.mul_le_mul hnn h60
  have km := kinds_most n (by omega)
  have hmul : (n : Int) * (n : Int) = ((n * n : Nat) : Int) := (Int.natCast_mul n n).symm
  obtain ⟨r, hr, hev⟩ := reset_ev V
  rcases hr with ⟨w, hw, rfl, hall, hlw⟩ | ⟨rfl, a, b', ha, hb', hab⟩
  · refine .inl ?_
    cases b with
    | true =>
      obtain ⟨z, z1, z2, z3⟩ := eul_len V (hb.1 rfl) hw hall
      have h3 : 3 * n ≤ n * n + 3 := by omega
      refine ⟨w, z, n * n + 3 - 3 * n, hw, hall, hev, hlw, z1, z3, by omega, ?_, fun h => ?_⟩
      · unfold euler_Bound.f
        refine Ev.bind hev ?_
        simp only [if_true, heu, Option.bind_some, hlen, hmul]
        rw [wrapI (z := ((n * n : Nat) : Int)) (by omega) (by omega), wrapI (z := 3 * (n : Int)) (by omega) (by omega), wrapI (z := ((n * n : Nat) : Int) - 3 * (n : Int)) (by omega) (by omega), wrapI (by omega) (by omega)]
        rw [show ((n * n : Nat) : Int) - 3 * (n : Int) + 3 = ((n * n + 3 - 3 * n : Nat) : Int) by omega]
        exact Ev.now _
      · have := km h
        omega
    | false =>
      cases is with
      | true =>
        obtain ⟨xx, hxx, hxm, hcy⟩ : ∃ y : Nat, x = (y : Int) ∧ y < m ∧ Cyc rows n y := by
          rcases hc3 with ⟨h1, _⟩ | ⟨_, h2⟩
          · cases h1
          · exact h2
        obtain ⟨z, z1, z2, z3⟩ := cyc_len V hxm hcy hw hall
        refine ⟨w, z, (n - 1) * (n - 1), hw, hall, hev, hlw, z1, z3, z2, ?_, fun h => ?_⟩
        · have hq : (n - 1) * (n - 1) ≤ 60 * 60 := Nat.mul_le_mul (show n - 1 ≤ 60 by omega) (show n - 1 ≤ 60 by omega)
          unfold euler_Bound.f
          refine Ev.bind hev ?_
          simp only [if_true, heu, Option.bind_some, Bool.false_eq_true, if_false]
          refine Ev.bind hc1 ?_
          simp only [if_true, hlen]
          rw [wrapI (z := (n : Int) - 1) (by omega) (by omega), show (n : Int) - 1 = ((n - 1 : Nat) : Int) by omega, ← Int.natCast_mul, wrapI (by omega) (by omega)]
          exact Ev.now _
        · have := km h
          omega
      | false =>
        refine ⟨w, w, (n * n * n - n) / 6, hw, hall, hev, hlw, hw, hall, ?_, ?_, fun _ => Nat.le_refl _⟩
        · obtain ⟨z, h1, h2⟩ := most_val h60 hn0 hlw
          rw [most_eq h60] at h1
          obtain rfl := Option.some.inj h1
          omega
        · have hm := most_eq h60
          unfold mizmazeref03_Most.f at hm
          unfold euler_Bound.f
          refine Ev.bind hev ?_
          simp only [if_true, heu, Option.bind_some, Bool.false_eq_true, if_false]
          refine Ev.bind hc1 ?_
          simp only [Bool.false_eq_true, if_false, hlen]
          rw [Option.some.inj hm]
          exact Ev.now _
  · refine .inr ⟨hev, ?_, fun w hw hall => hab ⟨w, hw, hall a b' ha hb'⟩⟩
    unfold euler_Bound.f
    refine Ev.bind hev ?_
    simp only [show ¬ ((4 : Int) = 0) by omega, if_false]
    exact Ev.now _
/-- What Shortest returns. -/
theorem short_val (hn : n ≤ 12) : (∃ w, Wd m w ∧ (∀ s t, s < n → t < n → run (nx rows) s w = run (nx rows) t w) ∧ (∀ v, Wd m v → (∀ s t, s < n → t < n → run (nx rows) s v = run (nx rows) t v) → w.length ≤ v.length) ∧ Ev (fun k => short_Shortest.f k rows) (toI w, 0)) ∨
    ((∀ v, Wd m v → ¬ ∀ s t, s < n → t < n → run (nx rows) s v = run (nx rows) t v) ∧ Ev (fun k => short_Shortest.f k rows) ([], 4)) := by
  rcases shortest_ev V hn with ⟨w, hw, h1, h2, _, h3⟩ | ⟨h1, h2⟩
  · refine .inl ⟨w, hw, (rk_one V hw).1 h1, fun v hv hall => ?_, h3⟩
    have hc := h2 v hv ((rk_one V hv).2 hall)
    rcases Nat.lt_or_ge v.length w.length with h | h
    · exact absurd (code_len V.m0 hv hw h) (by omega)
    · exact h
  · exact .inr ⟨fun v hv hall => h1 v hv ((rk_one V hv).2 hall), h2⟩
end
end Go.Proofs.Ytcpmmkennnjalaa.Pure
end
