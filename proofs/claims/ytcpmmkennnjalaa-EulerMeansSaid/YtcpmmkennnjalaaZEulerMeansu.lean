/- An automaton is Eulerian exactly if the preimages of each single state by all letters have, together, one state for each letter; and then those of any set the number of letters times the number of states of the set. (text 21 of 22) -/
import Derived.Test.YtcpmmkennnjalaaZEulerMeansh
import Derived.Test.YtcpmmkennnjalaaZEulerMeanst
import Derived.Test.YtcpmmkennnjalaaZEulerMeansn
section
-- Written by xrow.py, a program of this session's. Lean checks it.
namespace Go.Proofs.Ytcpmmkennnjalaa.Q
/-- What is left to prove of the law EulerMeans. -/
def mizmazelaw06_EulerMeans.Pure : Prop := ∀ (l0_0 : List (List Int)), ∀ (l1 : List Int), RowsOk l0_0 → IntsOk l1 → ∃ k, mizmazelaw06_EulerMeans.f k l0_0 l1 = some true
end Go.Proofs.Ytcpmmkennnjalaa.Q
end
section
namespace Go.Proofs.Ytcpmmkennnjalaa.Pure
open Go.RowKit Go.Proofs.YtcpmmkennnjalaaW.PrintWords Go.Proofs.YtcpmmkennnjalaaW.PrintLast Go.Proofs.YtcpmmkennnjalaaW.PrintMore Go.Proofs.Ytcpmmkennnjalaa.Q
set_option linter.unusedVariables false
set_option linter.unusedSimpArgs false
theorem means_end {rows : List (List Int)} {n m : Nat} (V : VA rows n m) {q : List Nat} (hq : ∀ x ∈ q, x < n) (hs : q.Pairwise (· < ·)) (hql : q.length ≤ n) {c : Bool} (hc : c = true ↔ ∀ j, j < n → inn rows j = m) (aw : Ev (fun k => (mizmazelaw06_awake.f k).bind fun t => some t) true) : Ev (fun k => mizmazelaw06_EulerMeans.l0 k (toI q) c c (n : Int) rows) true := by
  have h60 := V.n60
  have hm6 := V.m6
  have hn := V.len
  have hnd : q.Nodup := hs.imp (fun h => Nat.ne_of_lt h)
  have e : ∀ k, mizmazelaw06_EulerMeans.l0 (k + 1) (toI q) c c (n : Int) rows = (mizmazelaw06_together.f k rows (toI q)).bind fun bt552 => (if bt552.2 = true then (if (c == c) = true then (if c = true then ((mizmazeref01_Letters.f rows).bind fun t554 => (if bt552.1 = (wrap64 (t554 * ((toI q).length : Int))) then ((mizmazelaw06_awake.f k).bind fun t555 => (some t555)) else (none))) else ((mizmazelaw06_awake.f k).bind fun t556 => (some t556))) else (none)) else (none)) := fun k => by
    rw [mizmazelaw06_EulerMeans.l0, if_neg (by omega)]
  refine Ev.step e ?_
  refine Ev.bind (together_ev V hq hs (by omega)) ?_
  rw [beq_self_eq_true]
  generalize hT : Tq rows n m q = T
  cases hcc : c with
  | false =>
    refine Ev.congr (fun k => ?_) aw
    rw [if_pos rfl, if_pos rfl, if_neg Bool.false_ne_true]
  | true =>
    have h1 := Tq_all V (hc.1 hcc) hq hnd
    rw [hT] at h1
    have h2 : m * q.length ≤ 6 * 60 := Nat.mul_le_mul hm6 (by omega)
    have h3 : wrap64 ((m : Int) * ((toI q).length : Int)) = ((T : Nat) : Int) := by
      rw [toI_len, ← Int.natCast_mul, h1]
      generalize m * q.length = z at h2
      exact wrapI (by omega) (by omega)
    refine Ev.congr (fun k => ?_) aw
    rw [if_pos rfl, if_pos rfl, if_pos rfl, V.letters, Option.bind_some, h3, if_pos rfl]
theorem means_step {rows : List (List Int)} {n m : Nat} (V : VA rows n m) {q : List Nat} {b : Bool} {i : Nat} (hi : i < n) {c : Bool} {r : Bool} (h : Ev (fun k => mizmazelaw06_EulerMeans.l0 k (toI q) b (if c = true then (((inn rows i : Nat) : Int) == (m : Int)) else false) ((i + 1 : Nat) : Int) rows) r) : Ev (fun k => mizmazelaw06_EulerMeans.l0 k (toI q) b c (i : Int) rows) r := by
  have h60 := V.n60
  have hn := V.len
  have e : ∀ k, mizmazelaw06_EulerMeans.l0 (k + 1) (toI q) b c (i : Int) rows = (mizmazelaw06_together.f k rows (([(i : Int)] : List Int))).bind fun bt560 => (if bt560.2 = true then (if c = true then ((mizmazeref01_Letters.f rows).bind fun t562 => (mizmazelaw06_EulerMeans.l0 k (toI q) b (bt560.1 == t562) ((i + 1 : Nat) : Int) rows)) else (mizmazelaw06_EulerMeans.l0 k (toI q) b false ((i + 1 : Nat) : Int) rows)) else (none)) := fun k => by
    rw [mizmazelaw06_EulerMeans.l0, if_pos (by omega), wrapS (by omega)]
  refine Ev.step e ?_
  have ht := together_ev V (q := [i]) (fun x hx => by rw [List.mem_singleton.1 hx]; omega) (List.pairwise_singleton _ _) (by simp)
  have e2 : toI [i] = [(i : Int)] := rfl
  rw [e2, Tq_one V i] at ht
  refine Ev.bind ht ?_
  refine Ev.congr (fun k => ?_) h
  rw [if_pos rfl, V.letters, Option.bind_some]
  cases c with
  | false => rw [if_neg Bool.false_ne_true, if_neg Bool.false_ne_true]
  | true => rw [if_pos rfl, if_pos rfl]
theorem EulerMeans : Q.mizmazelaw06_EulerMeans.Pure := by
  intro rows l ho hl
  refine Ev.rounds (g := fun k => mizmazelaw06_EulerMeans.f k rows l) ?_
  unfold mizmazelaw06_EulerMeans.f
  have aw : Ev (fun k => (mizmazelaw06_awake.f k).bind fun t => some t) true := Ev.bind awake6 (Ev.now _)
  have out : Ev (fun k => mizmazelaw06_EulerMeans.j0 k l true rows) true := by
    refine Ev.next ?_
    simp only [mizmazelaw06_EulerMeans.j0, if_true]
    exact aw
  refine Ev.bind (ref_valid rows ho) ?_
  cases hv : validB rows with
  | false =>
    simp only [Bool.false_eq_true, if_false]
    exact out
  | true =>
    have V : VA rows rows.length (rd_L1 rows 0).length := validB_iff.1 hv
    generalize hn : rows.length = n at V
    generalize hm : (rd_L1 rows 0).length = m at V
    have h60 := V.n60
    have hm6 := V.m6
    simp only [if_true]
    obtain ⟨b1, hb1, hb2⟩ := ref_set V (l := l)
    refine Ev.bind hb1 ?_
    cases b1 with
    | false => exact out
    | true =>
      obtain ⟨q, hq, hs, hql, rfl⟩ := hb2 rfl
      obtain ⟨b, hb⟩ : ∃ b : Bool, b = true ↔ ∀ t, t < n → inn rows t = m := by
        by_cases h : ∀ t, t < n → inn rows t = m
        · exact ⟨true, fun _ => h, fun _ => rfl⟩
        · exact ⟨false, fun h2 => (by cases h2), fun h2 => absurd h2 h⟩
      have e1 : euler_Eulerian.f rows = some (b, 0) := by
        unfold euler_Eulerian.f; simp [auto_Valid.f, hv, eul_val V hb]
      have key : ∀ d i : Nat, ∀ c : Bool, i + d = n → (c = true ↔ ∀ j, j < i → inn rows j = m) → Ev (fun k => mizmazelaw06_EulerMeans.l0 k (toI q) b c (i : Int) rows) true := by
        intro d
        induction d with
        | zero =>
          intro i c hi hc
          obtain rfl : i = n := by omega
          obtain rfl : b = c := by rw [Bool.eq_iff_iff, hb, hc]
          exact means_end V hq hs hql hc aw
        | succ d ih =>
          intro i c hi hc
          refine means_step V (by omega) (ih (i + 1) _ (by omega) ?_)
          cases hcc : c with
          | false =>
            rw [if_neg Bool.false_ne_true]
            refine ⟨fun h => (by cases h), fun h => ?_⟩
            rw [← hcc]; exact hc.2 fun j hj => h j (by omega)
          | true =>
            rw [if_pos rfl]
            refine ⟨fun h j hj => ?_, fun h => ?_⟩
            · rcases Nat.lt_or_ge j i with h5 | h5
              · exact hc.1 hcc j h5
              · obtain rfl : j = i := by omega
                have := eq_of_beq h
                omega
            · rw [h i (by omega)]; exact beq_self_eq_true _
      refine Ev.next ?_
      simp only [mizmazelaw06_EulerMeans.j0, Bool.not_true, Bool.false_eq_true, if_false, e1, Option.bind_some, if_true]
      exact key n 0 true (by omega) ⟨fun _ j hj => by omega, fun _ => rfl⟩
end Go.Proofs.Ytcpmmkennnjalaa.Pure
end
