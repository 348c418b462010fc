/- What Merge and Apart return is what the reference says: the first shortest word that merges two states, and the pairs that no word merges, in order, for any automaton and states. (text 24 of 25) -/
import Derived.Test.YtogoppejcmaocaaZResetMergesi
import Derived.Test.YtogoppejcmaocaaZResetMergesw
import Derived.Test.YtogoppejcmaocaaZResetMergesq
import Derived.Test.YtogoppejcmaocaaZResetMergesv
/-! Part StmtResetMerges -/
section
-- Written by xrow.py, a program of this session's. Lean checks it.
namespace Go.Proofs.Ytogoppejcmaocaa.Q
/-- What is left to prove of the law ResetMerges. -/
def mizmazelaw03_ResetMerges.Pure : Prop := ∀ (l0_0 : List (List Int)), ∀ (a1 : Int), ∀ (a2 : Int), RowsOk l0_0 → (-9223372036854775808 ≤ a1 ∧ a1 ≤ 9223372036854775807) → (-9223372036854775808 ≤ a2 ∧ a2 ≤ 9223372036854775807) → ∃ k, mizmazelaw03_ResetMerges.f k l0_0 a1 a2 = some true
end Go.Proofs.Ytogoppejcmaocaa.Q
end
/-! Part PureResetMerges -/
section
namespace Go.Proofs.Ytogoppejcmaocaa.Pure
open Go.RowKit Go.Proofs.YtogoppejcmaocaaW.PrintWords Go.Proofs.YtogoppejcmaocaaW.PrintLast Go.Proofs.YtogoppejcmaocaaW.PrintMore Go.Proofs.Ytogoppejcmaocaa.Q
set_option linter.unusedVariables false
set_option linter.unusedSectionVars false
set_option linter.unusedSimpArgs false
theorem same_refl (l : List Int) (hl : l.length ≤ 1000000) : Ev (fun k => mizmazeref01_Same.f k l l) true := Ev.eq (ref_same l l (by omega)) (by simp)
theorem ResetMerges : Q.mizmazelaw03_ResetMerges.Pure := by
  intro rows a1 a2 ho h1 h2
  refine Ev.rounds (g := fun k => mizmazelaw03_ResetMerges.f k rows a1 a2) ?_
  unfold mizmazelaw03_ResetMerges.f
  cases hv : validB rows with
  | false =>
    refine Ev.bind (merge_form hv a1 a2) (Ev.bind (apart_form hv) (Ev.bind (ref_valid rows ho) ?_))
    rw [hv]
    exact Ev.congr (fun k => by simp) awake3_end
  | true =>
    have V := VA.of' hv
    generalize hn : rows.length = n at V
    generalize hm : (rd_L1 rows 0).length = m at V
    have h60 := V.n60
    have hlen := V.len
    have rest : ∀ r : List Int × Int, Ev (fun k => mizmazelaw03_ResetMerges.j0 k a1 a2 r.1 r.2 false rows) true → Ev (fun k => reset_Merge.f k rows a1 a2) r → Ev (fun k => mizmazelaw03_ResetMerges.f k rows a1 a2) true := by
      intro r h3 h4
      unfold mizmazelaw03_ResetMerges.f
      refine Ev.bind h4 (Ev.bind (apart_ev V) (Ev.bind (ref_valid rows ho) ?_))
      rw [hv]
      simp only [if_true]
      exact Ev.bind (ref_apart V) (Ev.bind (ref_pairs _ (by rw [toS_len]; have := aAll_small V; omega)) h3)
    have fin : ∀ (k : Nat), mizmazeref01_State.f rows a1 = some (decide (0 ≤ a1 ∧ a1 < n)) ∧ mizmazeref01_State.f rows a2 = some (decide (0 ≤ a2 ∧ a2 < n)) := fun k => by
      rw [ref_state, ref_state, hlen]; exact ⟨rfl, rfl⟩
    by_cases hin : (0 ≤ a1 ∧ a1 < n) ∧ 0 ≤ a2 ∧ a2 < n
    · obtain ⟨⟨ha0, ha1⟩, hb0, hb1⟩ := hin
      obtain ⟨p, rfl⟩ := Int.eq_ofNat_of_zero_le ha0
      obtain ⟨q, rfl⟩ := Int.eq_ofNat_of_zero_le hb0
      obtain ⟨tab, T, ht⟩ := ref_table V
      have go : ∀ (r : List Int × Int) (w : List Int × Bool), Ev (fun k => mizmazeref03_Word.f k rows tab (p : Int) (q : Int)) w → (if w.2 = true then r = (w.1, 0) else r = ([], 4)) → r.1.length ≤ 1000000 → Ev (fun k => mizmazelaw03_ResetMerges.j0 k (p : Int) (q : Int) r.1 r.2 false rows) true := by
        intro r w hw hr hl
        refine Ev.next ?_
        simp only [mizmazelaw03_ResetMerges.j0, Bool.false_eq_true, if_false, (fin 0).1, (fin 0).2, Option.bind_some, decide_eq_true (show (0 : Int) ≤ (p : Int) ∧ (p : Int) < (n : Int) from ⟨ha0, ha1⟩), decide_eq_true (show (0 : Int) ≤ (q : Int) ∧ (q : Int) < (n : Int) from ⟨hb0, hb1⟩), if_true]
        refine Ev.next ?_
        simp only [mizmazelaw03_ResetMerges.j1, if_true]
        refine Ev.bind ht (Ev.bind hw ?_)
        obtain ⟨w1, w2⟩ := w
        cases w2 with
        | true =>
          simp only [if_true] at hr
          subst hr
          simp only [if_true]
          refine Ev.bind (same_refl _ hl) ?_
          simp only [if_true]
          exact awake3_end
        | false =>
          simp only [Bool.false_eq_true, if_false] at hr
          subst hr
          simp only [Bool.false_eq_true, if_false, if_true]
          refine Ev.bind (same_refl _ (by simp)) ?_
          simp only [if_true]
          exact awake3_end
      rcases ref_word V T (p := p) (q := q) (by omega) (by omega) with ⟨w, hw1, hw2⟩ | ⟨hw1, hw2⟩
      · rcases merge_ev V (p := p) (q := q) (by omega) (by omega) with ⟨v, hv1, hv2⟩ | ⟨hv1, hv2⟩
        · rw [hv1.uniq hw1] at hv2
          refine rest _ (go (toI w, 0) _ hw2 (by simp) ?_) hv2
          have := MDist.small V (by omega) (by omega) (hw1.dist V.m0)
          rw [toI_len]; omega
        · exact absurd (hw1.dist V.m0).mg hv1
      · rcases merge_ev V (p := p) (q := q) (by omega) (by omega) with ⟨v, hv1, hv2⟩ | ⟨hv1, hv2⟩
        · exact absurd (hv1.dist V.m0).mg hw1
        · exact rest _ (go ([], 4) _ hw2 (by simp) (by simp)) hv2
    · refine rest _ ?_ (merge_bad V hin)
      have last : Ev (fun k => mizmazelaw03_ResetMerges.j1 k a1 a2 [] 2 [] 2 false rows) true := by
        refine Ev.next ?_
        simp only [mizmazelaw03_ResetMerges.j1, Bool.false_eq_true, if_false, if_true]
        refine Ev.bind (same_refl _ (by simp)) ?_
        simp only [if_true]
        exact awake3_end
      refine Ev.next ?_
      simp only [mizmazelaw03_ResetMerges.j0, Bool.false_eq_true, if_false, (fin 0).1, (fin 0).2, Option.bind_some]
      by_cases h3 : 0 ≤ a1 ∧ a1 < (n : Int)
      · have h4 : ¬ (0 ≤ a2 ∧ a2 < (n : Int)) := fun h4 => hin ⟨h3, h4⟩
        simp only [decide_eq_true h3, decide_eq_false h4, if_true]
        exact last
      · simp only [decide_eq_false h3, Bool.false_eq_true, if_false]
        exact last
end Go.Proofs.Ytogoppejcmaocaa.Pure
end
