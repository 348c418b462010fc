/- What Merge returns merges the two states; no shorter word does, and none of the same length that comes before it, for any automaton, states and word. (text 24 of 25) -/
import Derived.Test.YtogoppejcmaocaaZResetMergedh
import Derived.Test.YtogoppejcmaocaaZResetMergedw
import Derived.Test.YtogoppejcmaocaaZResetMergedt
import Derived.Test.YtogoppejcmaocaaZResetMergedq
/-! Part StmtResetMerged -/
section
-- Written by xrow.py, a program of this session's. Lean checks it.
namespace Go.Proofs.Ytogoppejcmaocaa.Q
/-- What is left to prove of the law ResetMerged. -/
def mizmazelaw03_ResetMerged.Pure : Prop := ∀ (l0_0 : List (List Int)), ∀ (a1 : Int), ∀ (a2 : Int), ∀ (l3 : List Int), RowsOk l0_0 → (-9223372036854775808 ≤ a1 ∧ a1 ≤ 9223372036854775807) → (-9223372036854775808 ≤ a2 ∧ a2 ≤ 9223372036854775807) → IntsOk l3 → ∃ k, mizmazelaw03_ResetMerged.f k l0_0 a1 a2 l3 = some true
end Go.Proofs.Ytogoppejcmaocaa.Q
end
/-! Part MAwake3 -/
section
namespace Go.Proofs.Ytogoppejcmaocaa.Q
open Go.RowKit Go.Proofs.YtogoppejcmaocaaW.PrintWords Go.Proofs.YtogoppejcmaocaaW.PrintLast Go.Proofs.YtogoppejcmaocaaW.PrintMore
set_option maxRecDepth 100000 in
theorem awake3 : Ev (fun k => mizmazelaw03_awake.f k) true := Ev.of (k := 120) (fun k => mizmazelaw03_awake.mono k) (by kernel_rfl)
theorem awake3_end : Ev (fun k => (mizmazelaw03_awake.f k).bind fun t => some t) true := Ev.bind awake3 (Ev.now _)
end Go.Proofs.Ytogoppejcmaocaa.Q
end
/-! Part PureResetMerged -/
section
namespace Go.Proofs.Ytogoppejcmaocaa.Pure
open Go.RowKit Go.Proofs.YtogoppejcmaocaaW.PrintWords Go.Proofs.YtogoppejcmaocaaW.PrintLast Go.Proofs.YtogoppejcmaocaaW.PrintMore Go.Proofs.Ytogoppejcmaocaa.Q
set_option linter.unusedVariables false
set_option linter.unusedSectionVars false
set_option linter.unusedSimpArgs false
/-- Each word's beginning, of up to 200 letters. -/
theorem each_start {rows : List (List Int)} {n m p q : Nat} (V : VA rows n m) (hp : p < n) (hq : q < n) {w : List Nat} (hw : Wd m w) (hwl : w.length ≤ 40000) {best : List Nat} {e : Int}
    (hb : (e = 0 ∧ LM (nx rows) m p q best) ∨ (e = 4 ∧ ¬ Mg (nx rows) m p q)) : ∀ d i : Nat, i + d = 201 → Ev (fun k => mizmazelaw03_ResetMerged.l0 k (p : Int) (q : Int) (toI w) (toI best) e (i : Int) rows) true := by
  have fin : ∀ i : Nat, Ev (fun k => mizmazelaw03_ResetMerged.j3 k (p : Int) (q : Int) (toI w) (toI best) e (i : Int) false rows) true := fun i => by
    refine Ev.next ?_
    simp only [mizmazelaw03_ResetMerged.j3, Bool.false_eq_true, if_false]
    exact awake3_end
  intro d
  induction d with
  | zero =>
    intro i hi
    refine Ev.next ?_
    simp only [mizmazelaw03_ResetMerged.l0, decide_eq_false (show ¬ (i : Int) ≤ 200 by omega), ite_self]
    exact fin i
  | succ d ih =>
    intro i hi
    by_cases hil : i ≤ w.length
    · refine Ev.next ?_
      simp only [mizmazelaw03_ResetMerged.l0, toI_len, if_pos (show (i : Int) ≤ (w.length : Int) by omega), decide_eq_true (show (i : Int) ≤ 200 by omega)]
      refine Ev.next ?_
      have htk : (toI w).take (i : Int).toNat = toI (w.take i) := by rw [Int.toNat_natCast]; unfold toI; rw [List.map_take]
      have hwt : Wd m (w.take i) := fun x hx => hw x (List.mem_of_mem_take hx)
      have hlt : (w.take i).length = i := by rw [List.length_take]; omega
      simp only [mizmazelaw03_ResetMerged.j3, if_true, toI_len, if_pos (show (0 : Int) ≤ (i : Int) by omega), if_pos (show (i : Int) ≤ (w.length : Int) by omega), htk]
      refine Ev.bind (auto_run V hp hwt (by omega)) (Ev.bind (auto_run V hq hwt (by omega)) ?_)
      simp only [if_true]
      refine Ev.next ?_
      have next : Ev (fun k => mizmazelaw03_ResetMerged.l0 k (p : Int) (q : Int) (toI w) (toI best) e (wrap64 ((i : Int) + 1)) rows) true := by
        rw [wrapS (by omega)]; exact ih (i + 1) (by omega)
      simp only [mizmazelaw03_ResetMerged.j4, show ((0 : Int) != 0) = false from rfl, Bool.false_eq_true, if_false]
      by_cases hs : run (nx rows) p (w.take i) = run (nx rows) q (w.take i)
      · rcases hb with ⟨rfl, hL⟩ | ⟨rfl, hno⟩
        · have hdist := hL.dist V.m0
          have hle := hdist.2 _ hwt hs
          rw [hlt] at hle
          simp only [if_pos (show ((run (nx rows) p (w.take i) : Nat) : Int) = ((run (nx rows) q (w.take i) : Nat) : Int) by omega), if_true, toI_len, if_neg (show ¬ (i : Int) < (best.length : Int) by omega)]
          by_cases he : i = best.length
          · simp only [if_pos (show (i : Int) = (best.length : Int) by omega), if_pos (show (0 : Int) ≤ (i : Int) by omega), if_pos (show (i : Int) ≤ (w.length : Int) by omega), htk]
            refine Ev.bind (ref_before hwt hL.wd (by omega) (by omega)) ?_
            have := hL.le _ hwt hs
            simp only [decide_eq_false (show ¬ code m (w.take i) < code m best by omega), Bool.false_eq_true, if_false]
            exact next
          · simp only [if_neg (show ¬ (i : Int) = (best.length : Int) by omega)]
            exact next
        · exact absurd ⟨_, hwt, hs⟩ hno
      · simp only [if_neg (show ¬ ((run (nx rows) p (w.take i) : Nat) : Int) = ((run (nx rows) q (w.take i) : Nat) : Int) by omega)]
        exact next
    · refine Ev.next ?_
      simp only [mizmazelaw03_ResetMerged.l0, toI_len, if_neg (show ¬ (i : Int) ≤ (w.length : Int) by omega)]
      exact fin i
theorem ResetMerged : Q.mizmazelaw03_ResetMerged.Pure := by
  intro rows a1 a2 word ho h1 h2 hwo
  refine Ev.rounds (g := fun k => mizmazelaw03_ResetMerged.f k rows a1 a2 word) ?_
  unfold mizmazelaw03_ResetMerged.f
  refine Ev.bind (ref_valid rows ho) ?_
  have out : Ev (fun k => mizmazelaw03_ResetMerged.j0 k a1 a2 word true rows) true := by
    refine Ev.next ?_
    simp only [mizmazelaw03_ResetMerged.j0, if_true]
    exact awake3_end
  cases hv : validB rows with
  | false => simp only [Bool.false_eq_true, if_false]; exact out
  | true =>
    have V := VA.of' hv
    generalize hn : rows.length = n at V
    generalize hm : (rd_L1 rows 0).length = m at V
    have h60 := V.n60
    simp only [if_true, ref_state, hn, Option.bind_some]
    by_cases ha : 0 ≤ a1 ∧ a1 < (n : Int)
    · by_cases hb : 0 ≤ a2 ∧ a2 < (n : Int)
      · simp only [decide_eq_true ha, decide_eq_true hb, if_true]
        obtain ⟨p, rfl⟩ := Int.eq_ofNat_of_zero_le ha.1
        obtain ⟨q, rfl⟩ := Int.eq_ofNat_of_zero_le hb.1
        refine Ev.bind (ref_word' V word) ?_
        by_cases hwl : word.length ≤ 40000
        · rw [decide_eq_true hwl, Bool.true_and]
          cases hib : inB (m : Int) word with
          | false => exact out
          | true =>
            obtain ⟨w, hwd, rfl⟩ := toI_of hib
            rw [toI_len] at hwl
            refine Ev.next ?_
            simp only [mizmazelaw03_ResetMerged.j0, Bool.not_true, Bool.false_eq_true, if_false]
            rcases merge_ev V (p := p) (q := q) (by omega) (by omega) with ⟨v, hv1, hv2⟩ | ⟨hv1, hv2⟩
            · have hsm := MDist.small V (by omega) (by omega) (hv1.dist V.m0)
              refine Ev.bind hv2 ?_
              simp only [if_true]
              refine Ev.bind (auto_run V (by omega) hv1.wd (by omega)) (Ev.bind (auto_run V (by omega) hv1.wd (by omega)) ?_)
              simp only [if_true, hv1.ends]
              refine Ev.next ?_
              exact each_start V (by omega) (by omega) hwd hwl (Or.inl ⟨rfl, hv1⟩) 201 0 (by omega)
            · refine Ev.bind hv2 ?_
              simp only [if_neg (show ¬ (4 : Int) = 0 by omega)]
              refine Ev.next ?_
              exact each_start (best := []) V (by omega) (by omega) hwd hwl (Or.inr ⟨rfl, hv1⟩) 201 0 (by omega)
        · rw [decide_eq_false hwl, Bool.false_and]
          exact out
      · simp only [decide_eq_true ha, decide_eq_false hb, if_true, Bool.false_eq_true, if_false]
        exact out
    · simp only [decide_eq_false ha, Bool.false_eq_true, if_false]
      exact out
end Go.Proofs.Ytogoppejcmaocaa.Pure
end
