/- In any Eulerian automaton that has a reset word, whatever set of states, neither empty nor all, is led into by more states with a word of at most n - 1 letters, and its shortest reset word has at most n^2 - 3n + 3 letters; in any circular one at most (n - 1)^2. (At most 9 states) (text 38 of 42) -/
import Derived.Test.YtcpmmkennnjalaaZTopKarizk
import Derived.Test.YtcpmmkennnjalaaZTopKarin
import Derived.Test.YtcpmmkennnjalaaZTopKarik
import Derived.Test.YtcpmmkennnjalaaZTopKarim
import Derived.Test.YtcpmmkennnjalaaZTopKarij
import Derived.Test.YtcpmmkennnjalaaZTopKariw
import Derived.Test.YtcpmmkennnjalaaZTopKarix
import Derived.Test.YtcpmmkennnjalaaZTopKarizd
section
namespace Go.Proofs.Ytcpmmkennnjalaa.Pure
open Go.RowKit Go.Proofs.YtcpmmkennnjalaaW.PrintWords Go.Proofs.YtcpmmkennnjalaaW.PrintLast Go.Proofs.YtcpmmkennnjalaaW.PrintMore Go.Proofs.Ytcpmmkennnjalaa.Q
set_option linter.unusedVariables false
set_option linter.unusedSectionVars false
set_option linter.unusedSimpArgs false
/-! ### sets as numbers: what leads into a set, how many states it has -/
/-- the states below p that a letter leads into a set -/
def bk (f : Nat → Nat → Nat) (s x : Nat) : Nat → Nat
  | 0 => 0
  | p + 1 => if s.testBit (f p x) = true then bk f s x p ||| 2 ^ p else bk f s x p
theorem bk_bit (f : Nat → Nat → Nat) (s x t : Nat) : ∀ p, (bk f s x p).testBit t = (decide (t < p) && s.testBit (f t x))
  | 0 => by simp [bk]
  | p + 1 => by
    unfold bk
    by_cases h : s.testBit (f p x) = true
    · rw [if_pos h, Nat.testBit_or, bk_bit f s x t p, Nat.testBit_two_pow]
      by_cases e : p = t
      · subst e; simp [h]
      · by_cases c : t < p
        · simp [c, e, show t < p + 1 by omega]
        · simp [c, e, show ¬ t < p + 1 by omega]
    · rw [if_neg h, bk_bit f s x t p]
      by_cases e : p = t
      · subst e; simp [Bool.eq_false_iff.2 h]
      · by_cases c : t < p
        · simp [c, show t < p + 1 by omega]
        · simp [c, show ¬ t < p + 1 by omega]
theorem bk_lt (f : Nat → Nat → Nat) (s x n : Nat) : ∀ p, p ≤ n → bk f s x p < 2 ^ n
  | 0, _ => Nat.two_pow_pos n
  | p + 1, hp => by
    have ih := bk_lt f s x n p (by omega)
    unfold bk
    split
    · exact Nat.or_lt_two_pow ih (Nat.pow_lt_pow_right (by decide : 1 < 2) (by omega))
    · exact ih
theorem bit_val {s p : Nat} (hp : p ≤ 16) (hs : s < 65536) : Go.bits .and .u16 (shr .u16 (s : Int) (p : Int)) 1 = if s.testBit p = true then 1 else 0 := by
  have h := bit_test hp hs
  by_cases c : s.testBit p = true
  · rw [if_pos c]; exact h.2 c
  · rw [if_neg c]
    have e1 : shr .u16 (s : Int) (p : Int) = ((s / 2 ^ p : Nat) : Int) := by
      unfold shr
      have : min (p : Int).toNat IntKind.u16.bits = p := by show min p 16 = p; omega
      rw [this]
      norm_cast
    have hlt : s / 2 ^ p < 65536 := Nat.lt_of_le_of_lt (Nat.div_le_self _ _) hs
    have e2 := bits_and_u16_nat (s / 2 ^ p) 1 hlt (by omega)
    have e3 : (((1 : Nat) : Int)) = 1 := rfl
    rw [e3] at e2
    rw [e1, e2, Nat.and_one_is_mod] at h ⊢
    have : ¬ ((s / 2 ^ p % 2 : Nat) : Int) = 1 := fun e => c (h.1 e)
    omega
theorem p12 {n s : Nat} (hn : n ≤ 12) (h : s < 2 ^ n) : s < 4096 := Nat.lt_of_lt_of_le h (Nat.le_trans (Nat.pow_le_pow_right (by decide : 0 < 2) hn) (by decide))
theorem shl_zero (j : Int) : shl .u16 0 j = 0 := by unfold shl; rw [Int.zero_mul]; rfl
section
variable {rows : List (List Int)} {n m : Nat} (V : VA rows n m) (hn : n ≤ 12)
include V hn
theorem back_ev {s x : Nat} (hs : s < 2 ^ n) (hx : x < m) : Ev (fun k => euler_back.f k rows (s : Int) (x : Int)) ((bk (nx rows) s x n : Nat) : Int) := by
  have hlen := V.len
  have hs2 := p12 hn hs
  have key : ∀ d i : Nat, i + d = n → Ev (fun k => euler_back.l0 k (s : Int) (x : Int) ((bk (nx rows) s x i : Nat) : Int) rows (rows.length : Int) (i : Int)) ((bk (nx rows) s x n : Nat) : Int) := by
    intro d
    induction d with
    | zero =>
      intro i hi
      obtain rfl : i = n := by omega
      refine Ev.next (g := fun k => euler_back.l0 k (s : Int) (x : Int) ((bk (nx rows) s x i : Nat) : Int) rows (rows.length : Int) (i : Int)) ?_
      have e : ∀ k, euler_back.l0 (k + 1) (s : Int) (x : Int) ((bk (nx rows) s x i : Nat) : Int) rows (rows.length : Int) (i : Int) = some ((bk (nx rows) s x i : Nat) : Int) := fun k => by
        rw [euler_back.l0, if_neg (by omega)]
      exact Ev.congr e (Ev.now _)
    | succ d ih =>
      intro i hi
      have hin : i < n := by omega
      have hnx := V.nxLt hin hx
      have hrow : (rd_L1 rows (i : Int)).length = m := V.row i hin
      have hb : bk (nx rows) s x i < 65536 := by have := p12 hn (bk_lt (nx rows) s x n i (by omega)); omega
      refine Ev.step (f := fun k => euler_back.l0 k (s : Int) (x : Int) ((bk (nx rows) s x (i + 1) : Nat) : Int) rows (rows.length : Int) ((i + 1 : Nat) : Int)) (fun k => ?_) (ih (i + 1) (by omega))
      have hv : Go.bits .or .u16 ((bk (nx rows) s x i : Nat) : Int) (shl .u16 (if s.testBit (nx rows i x) = true then 1 else 0) (i : Int)) = ((bk (nx rows) s x (i + 1) : Nat) : Int) := by
        rw [bk]
        by_cases c : s.testBit (nx rows i x) = true
        · rw [if_pos c, if_pos c, shl_one (by omega), bits_or_u16_nat _ _ hb (by have := Nat.pow_le_pow_right (show 0 < 2 by decide) (show i ≤ 12 by omega); omega)]
        · rw [if_neg c, if_neg c, shl_zero]
          have := bits_or_u16_nat (bk (nx rows) s x i) 0 hb (by omega)
          rw [Nat.or_zero] at this
          exact this
      rw [euler_back.l0, if_pos (by omega), if_pos (by omega), if_pos (by omega), if_pos (by omega), if_pos (by omega), V.nxE hin hx, if_pos (by omega), bit_val (by omega) (by omega), hv, wrapS (by omega)]
  exact key n 0 (by omega)
end
theorem and_pred {s : Nat} : ∀ n, 0 < s → s < 2 ^ n → Lib.popAux n (s &&& (s - 1)) + 1 = Lib.popAux n s := by
  intro n
  induction n generalizing s with
  | zero => intro h0 h1; simp at h1; omega
  | succ n ih =>
    intro h0 h1
    have hd : (s &&& (s - 1)) / 2 = (s / 2) &&& ((s - 1) / 2) := by
      have := Nat.and_div_two_pow (a := s) (b := s - 1) (n := 1)
      simpa using this
    have hm : (s &&& (s - 1)) % 2 = 0 := by
      have h2 : (s &&& (s - 1)) % 2 = (s % 2) &&& ((s - 1) % 2) := by
        have := Nat.and_mod_two_pow (a := s) (b := s - 1) (n := 1)
        simpa using this
      rw [h2]
      rcases Nat.mod_two_eq_zero_or_one s with c | c
      · rw [c, Nat.zero_and]
      · rw [c, show (s - 1) % 2 = 0 by omega, Nat.and_zero]
    have e1 : Lib.popAux (n + 1) (s &&& (s - 1)) = (s &&& (s - 1)) % 2 + Lib.popAux n ((s &&& (s - 1)) / 2) := rfl
    have e2 : Lib.popAux (n + 1) s = s % 2 + Lib.popAux n (s / 2) := rfl
    rw [e1, e2, hm, hd]
    rcases Nat.mod_two_eq_zero_or_one s with c | c
    · rw [show (s - 1) / 2 = s / 2 - 1 by omega, c]
      have := ih (s := s / 2) (by omega) (by rw [Nat.pow_succ] at h1; omega)
      omega
    · rw [show (s - 1) / 2 = s / 2 by omega, Nat.and_self, c]; omega
theorem size_evE {n : Nat} (hn : n ≤ 12) {s : Nat} (hs : s < 2 ^ n) : Ev (fun k => euler_size.f k (s : Int)) ((card n s : Nat) : Int) := by
  have hz : card n 0 = 0 := by rw [card_pop, popAux_zero]
  have hle : ∀ s, card n s ≤ n := fun s => by unfold card; exact Nat.le_trans (List.length_filter_le _ _) (by simp)
  have key : ∀ d s c : Nat, card n s ≤ d → s < 2 ^ n → c + card n s ≤ n → Ev (fun k => euler_size.l0 k (s : Int) (c : Int)) ((c + card n s : Nat) : Int) := by
    intro d
    induction d with
    | zero =>
      intro s c hc hs hcn
      have h0 : s = 0 := by
        rcases Nat.eq_zero_or_pos s with h | h
        · exact h
        · have := and_pred n h hs
          rw [card_pop] at hc; omega
      subst h0
      refine Ev.next (g := fun k => euler_size.l0 k ((0 : Nat) : Int) (c : Int)) ?_
      have e : ∀ k, euler_size.l0 (k + 1) ((0 : Nat) : Int) (c : Int) = some ((c + card n 0 : Nat) : Int) := fun k => by
        rw [euler_size.l0, if_neg (by omega), hz]; rfl
      exact Ev.congr e (Ev.now _)
    | succ d ih =>
      intro s c hc hs hcn
      rcases Nat.eq_zero_or_pos s with h | h
      · subst h
        refine Ev.next (g := fun k => euler_size.l0 k ((0 : Nat) : Int) (c : Int)) ?_
        have e : ∀ k, euler_size.l0 (k + 1) ((0 : Nat) : Int) (c : Int) = some ((c + card n 0 : Nat) : Int) := fun k => by
          rw [euler_size.l0, if_neg (by omega), hz]; rfl
        exact Ev.congr e (Ev.now _)
      · have hp := and_pred n h hs
        rw [← card_pop, ← card_pop] at hp
        have h12 := p12 hn hs
        have hlt : s &&& (s - 1) < 2 ^ n := Nat.and_lt_two_pow _ (by omega)
        have := ih (s &&& (s - 1)) (c + 1) (by omega) hlt (by omega)
        rw [show c + 1 + card n (s &&& (s - 1)) = c + card n s by omega] at this
        refine Ev.step (f := fun k => euler_size.l0 k ((s &&& (s - 1) : Nat) : Int) ((c + 1 : Nat) : Int)) (fun k => ?_) this
        rw [euler_size.l0, if_pos (by omega), show (s : Int) - 1 = ((s - 1 : Nat) : Int) by omega, show IntKind.u16.wrap ((s - 1 : Nat) : Int) = ((s - 1 : Nat) : Int) from by rw [IntKind.wrap_u16]; omega, bits_and_u16_nat _ _ (by omega) (by omega), wrapS (by omega)]
  have := key n s 0 (hle s) hs (by have := hle s; omega)
  rw [Nat.zero_add] at this
  exact this
/-! ### the first of some words -/
theorem min_ev {l : List (List Int)} (h0 : 0 < l.length) (hl : l.length < 1000000000000000000) (hs : ∀ u ∈ l, u.length < 1000000000000000000) : ∃ o ∈ l, (∀ u ∈ l, cmpW o u ≤ 0) ∧ Ev (fun k => slices_MinFunc.f k l) o := by
  have hget : ∀ i : Nat, ∀ h : i < l.length, rd_L1 l (i : Int) = l[i] := fun i h => rdLE h
  have key : ∀ d i : Nat, i + d = l.length → ∀ c ∈ l, (∀ (j : Nat) (h : j < l.length), j < i → cmpW c l[j] ≤ 0) → ∃ o ∈ l, (∀ u ∈ l, cmpW o u ≤ 0) ∧ Ev (fun k => slices_MinFunc.l0 k l c (i : Int)) o := by
    intro d
    induction d with
    | zero =>
      intro i hi c hc hmin
      refine ⟨c, hc, fun u hu => ?_, ?_⟩
      · obtain ⟨j, hj, rfl⟩ := List.mem_iff_getElem.1 hu
        exact hmin j hj (by omega)
      · refine Ev.next (g := fun k => slices_MinFunc.l0 k l c (i : Int)) ?_
        have e : ∀ k, slices_MinFunc.l0 (k + 1) l c (i : Int) = some c := fun k => by rw [slices_MinFunc.l0, if_neg (by omega)]
        exact Ev.congr e (Ev.now _)
    | succ d ih =>
      intro i hi c hc hmin
      have hil : i < l.length := by omega
      have hm := List.getElem_mem hil
      have hcmp := compare_ev l[i] c (hs _ hm) (hs c hc)
      have hsw := cmpW_swap l[i] c
      by_cases h : cmpW l[i] c < 0
      · obtain ⟨o, h1, h2, h3⟩ := ih (i + 1) (by omega) l[i] hm fun j hj hji => by
          rcases Nat.lt_or_ge j i with c1 | c1
          · exact cmpW_le _ _ _ (by omega) (hmin j hj c1)
          · obtain rfl : j = i := by omega
            rw [cmpW_self]; exact Int.le_refl _
        refine ⟨o, h1, h2, ?_⟩
        refine Ev.step (f := fun k => (slices_Compare_int_int.f k l[i] c).bind fun r => if r < 0 then slices_MinFunc.l0 k l l[i] ((i + 1 : Nat) : Int) else slices_MinFunc.l0 k l c ((i + 1 : Nat) : Int)) (fun k => ?_) (Ev.bind hcmp ?_)
        · rw [slices_MinFunc.l0, if_pos (by omega), if_pos (by omega), hget i hil, wrapS (by omega)]
        · rw [show (fun k => if cmpW l[i] c < 0 then slices_MinFunc.l0 k l l[i] ((i + 1 : Nat) : Int) else slices_MinFunc.l0 k l c ((i + 1 : Nat) : Int)) = fun k => slices_MinFunc.l0 k l l[i] ((i + 1 : Nat) : Int) from funext fun k => if_pos h]
          exact h3
      · obtain ⟨o, h1, h2, h3⟩ := ih (i + 1) (by omega) c hc fun j hj hji => by
          rcases Nat.lt_or_ge j i with c1 | c1
          · exact hmin j hj c1
          · obtain rfl : j = i := by omega
            omega
        refine ⟨o, h1, h2, ?_⟩
        refine Ev.step (f := fun k => (slices_Compare_int_int.f k l[i] c).bind fun r => if r < 0 then slices_MinFunc.l0 k l l[i] ((i + 1 : Nat) : Int) else slices_MinFunc.l0 k l c ((i + 1 : Nat) : Int)) (fun k => ?_) (Ev.bind hcmp ?_)
        · rw [slices_MinFunc.l0, if_pos (by omega), if_pos (by omega), hget i hil, wrapS (by omega)]
        · rw [show (fun k => if cmpW l[i] c < 0 then slices_MinFunc.l0 k l l[i] ((i + 1 : Nat) : Int) else slices_MinFunc.l0 k l c ((i + 1 : Nat) : Int)) = fun k => slices_MinFunc.l0 k l c ((i + 1 : Nat) : Int) from funext fun k => if_neg h]
          exact h3
  have hg0 : rd_L1 l (0 : Int) = l[0] := hget 0 h0
  obtain ⟨o, h1, h2, h3⟩ := key (l.length - 1) 1 (by omega) l[0] (List.getElem_mem h0) fun j hj hj1 => by
    obtain rfl : j = 0 := by omega
    rw [cmpW_self]; exact Int.le_refl _
  refine ⟨o, h1, h2, h3.congr fun k => ?_⟩
  unfold slices_MinFunc.f
  rw [if_pos h0, hg0]; rfl
end Go.Proofs.Ytcpmmkennnjalaa.Pure
end
section
namespace Go.Proofs.Ytcpmmkennnjalaa.Pure
open Go.RowKit Go.Proofs.YtcpmmkennnjalaaW.PrintWords Go.Proofs.YtcpmmkennnjalaaW.PrintLast Go.Proofs.YtcpmmkennnjalaaW.PrintMore Go.Proofs.Ytcpmmkennnjalaa.Q
set_option linter.unusedVariables false
set_option linter.unusedSectionVars false
set_option linter.unusedSimpArgs false
/-! ### how long the shortest reset word of an Eulerian or circular automaton is -/
section
variable {rows : List (List Int)} {n m : Nat} (V : VA rows n m)
include V
theorem eul_len (h : ∀ t, t < n → inn rows t = m) {r : List Nat} (hr : Wd m r) (hall : ∀ s t, s < n → t < n → run (nx rows) s r = run (nx rows) t r) : ∃ z, Wd m z ∧ z.length + 3 * n ≤ n * n + 3 ∧ ∀ s t, s < n → t < n → run (nx rows) s z = run (nx rows) t z :=
  kari_short V.m0 (fun s x hs hx => V.nxLt hs hx) (eul_sum V h) hr hall V.n0
theorem cyc_len {x : Nat} (hx : x < m) (hc : Cyc rows n x) {r : List Nat} (hr : Wd m r) (hall : ∀ s t, s < n → t < n → run (nx rows) s r = run (nx rows) t r) : ∃ z, Wd m z ∧ z.length ≤ (n - 1) * (n - 1) ∧ ∀ s t, s < n → t < n → run (nx rows) s z = run (nx rows) t z := by
  have key : ∀ i j, i < j → j < n → wy rows x i = wy rows x j → False := fun i j hij hj he => by
    have h1 := wy_add he (n - j)
    rw [show j + (n - j) = n by omega, hc.1] at h1
    exact hc.2 _ (by omega) (by omega) h1
  refine dub_short (fun s x hs hx => V.nxLt hs hx) hr hall hx (z := wy rows x) (fun i => wy_lt V hx i) (fun i => rfl) (fun i => ?_) (fun i j hi hj he => ?_) V.n0
  · have h1 := wy_add (a := n) (b := 0) (show wy rows x n = wy rows x 0 from hc.1) i
    rw [Nat.zero_add, Nat.add_comm] at h1
    exact h1
  · rcases Nat.lt_trichotomy i j with h | h | h
    · exact absurd (key i j h hj he) id
    · exact h
    · exact absurd (key j i h hi he.symm) id
/-- What Shortest returns. -/
theorem short_val (hn : n ≤ 12) : (∃ w, Wd m w ∧ (∀ s t, s < n → t < n → run (nx rows) s w = run (nx rows) t w) ∧ (∀ v, Wd m v → (∀ s t, s < n → t < n → run (nx rows) s v = run (nx rows) t v) → w.length ≤ v.length) ∧ Ev (fun k => short_Shortest.f k rows) (toI w, 0)) ∨
    ((∀ v, Wd m v → ¬ ∀ s t, s < n → t < n → run (nx rows) s v = run (nx rows) t v) ∧ Ev (fun k => short_Shortest.f k rows) ([], 4)) := by
  rcases shortest_ev V hn with ⟨w, hw, h1, h2, _, h3⟩ | ⟨h1, h2⟩
  · refine .inl ⟨w, hw, (rk_one V hw).1 h1, fun v hv hall => ?_, h3⟩
    have hc := h2 v hv ((rk_one V hv).2 hall)
    rcases Nat.lt_or_ge v.length w.length with h | h
    · exact absurd (code_len V.m0 hv hw h) (by omega)
    · exact h
  · exact .inr ⟨fun v hv hall => h1 v hv ((rk_one V hv).2 hall), h2⟩
end
end Go.Proofs.Ytcpmmkennnjalaa.Pure
end
