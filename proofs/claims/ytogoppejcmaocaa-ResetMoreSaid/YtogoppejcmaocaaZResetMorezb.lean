/- A reset word that Reset returns, with any letters before it and after it, leads all states to one, for any automaton and words. (text 28 of 29) -/
import Derived.Test.YtogoppejcmaocaaZResetMoreh
import Derived.Test.YtogoppejcmaocaaZResetMoreza
import Derived.Test.YtogoppejcmaocaaZResetMoreq
import Derived.Test.YtogoppejcmaocaaZResetMorev
import Derived.Test.YtogoppejcmaocaaZResetMoret
import Derived.Test.YtogoppejcmaocaaZResetMorez
/-! Part StmtResetMore -/
section
-- Written by xrow.py, a program of this session's. Lean checks it.
namespace Go.Proofs.Ytogoppejcmaocaa.Q
/-- What is left to prove of the law ResetMore. -/
def mizmazelaw03_ResetMore.Pure : Prop := ∀ (l0_0 : List (List Int)), ∀ (l1 : List Int), ∀ (l2 : List Int), RowsOk l0_0 → IntsOk l1 → IntsOk l2 → ∃ k, mizmazelaw03_ResetMore.f k l0_0 l1 l2 = some true
end Go.Proofs.Ytogoppejcmaocaa.Q
end
/-! Part PureResetMore -/
section
namespace Go.Proofs.Ytogoppejcmaocaa.Pure
open Go.RowKit Go.Proofs.YtogoppejcmaocaaW.PrintWords Go.Proofs.YtogoppejcmaocaaW.PrintLast Go.Proofs.YtogoppejcmaocaaW.PrintMore Go.Proofs.Ytogoppejcmaocaa.Q
set_option linter.unusedVariables false
set_option linter.unusedSectionVars false
set_option linter.unusedSimpArgs false
theorem tidy_one {l : List Nat} {t : Nat} (h : ∀ x ∈ l, x = t) (h0 : ∃ x, x ∈ l) : tidy (toI l) = [(t : Int)] := by
  obtain ⟨Q, h1, h2, h3⟩ := tidy_nat l
  have hm : ∀ x, x ∈ Q ↔ x = t := fun x => by
    rw [h3]
    constructor
    · exact h x
    · rintro rfl; obtain ⟨y, hy⟩ := h0; exact h y hy ▸ hy
  rw [h1]
  match hI : Q with
  | [] => exact absurd ((hm t).2 rfl) (by simp)
  | [x] => rw [(hm x).1 List.mem_cons_self]; rfl
  | x :: y :: l =>
    have e1 := (hm x).1 List.mem_cons_self
    have e2 := (hm y).1 (List.mem_cons_of_mem _ List.mem_cons_self)
    have e3 := (List.pairwise_cons.1 h2).1 y List.mem_cons_self
    omega
theorem ResetMore : Q.mizmazelaw03_ResetMore.Pure := by
  intro rows l1 l2 ho h1 h2
  refine Ev.rounds (g := fun k => mizmazelaw03_ResetMore.f k rows l1 l2) ?_
  unfold mizmazelaw03_ResetMore.f
  refine Ev.bind (ref_valid rows ho) ?_
  have out : Ev (fun k => mizmazelaw03_ResetMore.j0 k l1 l2 true rows) true := by
    refine Ev.next ?_
    simp only [mizmazelaw03_ResetMore.j0, if_true]
    exact awake3_end
  cases hv : validB rows with
  | false => simp only [Bool.false_eq_true, if_false]; exact out
  | true =>
    have V := VA.of' hv
    generalize hn : rows.length = n at V
    generalize hm : (rd_L1 rows 0).length = m at V
    have h60 := V.n60
    have hn0 := V.n0
    simp only [if_true]
    refine Ev.bind (ref_word' V l1) ?_
    by_cases hl1 : l1.length ≤ 40000
    · rw [decide_eq_true hl1, Bool.true_and]
      cases hb1 : inB (m : Int) l1 with
      | false => simp only [Bool.false_eq_true, if_false]; exact out
      | true =>
        simp only [if_true]
        refine Ev.bind (ref_word' V l2) ?_
        by_cases hl2 : l2.length ≤ 40000
        · rw [decide_eq_true hl2, Bool.true_and]
          cases hb2 : inB (m : Int) l2 with
          | false => exact out
          | true =>
            obtain ⟨u, hu, rfl⟩ := toI_of hb1
            obtain ⟨v, hvw, rfl⟩ := toI_of hb2
            rw [toI_len] at hl1 hl2
            refine Ev.next ?_
            simp only [mizmazelaw03_ResetMore.j0, Bool.not_true, Bool.false_eq_true, if_false]
            obtain ⟨r, hr, hev⟩ := reset_ev V
            refine Ev.bind hev ?_
            have out1 : ∀ l : List Int, Ev (fun k => mizmazelaw03_ResetMore.j1 k (toI u) (toI v) l true rows) true := fun l => by
              refine Ev.next ?_
              simp only [mizmazelaw03_ResetMore.j1, if_true]
              exact awake3_end
            rcases hr with ⟨w, hw, rfl, hall, hlw⟩ | ⟨rfl, _⟩
            · have hH := HH60 (show n - 1 ≤ 60 by omega)
              simp only [if_true, toI_len, wrapI (z := (u.length : Int) + (w.length : Int)) (by omega) (by omega), wrapI (z := (u.length : Int) + (w.length : Int) + (v.length : Int)) (by omega) (by omega)]
              by_cases hsum : (u.length : Int) + (w.length : Int) + (v.length : Int) > 40000
              · rw [decide_eq_true hsum]; exact out1 _
              · rw [decide_eq_false hsum]
                refine Ev.next ?_
                have e1 : [] ++ toI u ++ toI w ++ toI v = toI (u ++ w ++ v) := by simp [toI]
                have hwd : Wd m (u ++ w ++ v) := (hu.app hw).app hvw
                have ht : ∀ s, s < n → run (nx rows) s (u ++ w ++ v) = run (nx rows) 0 (u ++ w ++ v) := fun s hs => by
                  rw [run_app, run_app, run_app, run_app, hall _ _ (runLt (fun s x => V.nxLt) u s hs hu) (runLt (fun s x => V.nxLt) u 0 hn0 hu)]
                simp only [mizmazelaw03_ResetMore.j1, Bool.false_eq_true, if_false, Option.bind_some, List.length_append, List.length_nil, toI_len, if_pos (show 0 + u.length < 17592186044416 by omega), if_pos (show 0 + u.length + w.length < 17592186044416 by omega), if_pos (show 0 + u.length + w.length + v.length < 17592186044416 by omega), e1, hn]
                refine Ev.bind (ref_all n (by omega)) (Ev.bind (auto_image V (q := List.range n) (fun x hx => List.mem_range.1 hx) List.pairwise_lt_range (by simp; omega) hwd (by simp; omega)) ?_)
                rw [tidy_one (t := run (nx rows) 0 (u ++ w ++ v)) (fun x hx => by
                  obtain ⟨s, hs, rfl⟩ := List.mem_map.1 hx
                  exact ht s (List.mem_range.1 hs)) ⟨_, List.mem_map.2 ⟨0, List.mem_range.2 hn0, rfl⟩⟩]
                exact Ev.congr (fun k => by simp) awake3_end
            · simp only [if_neg (show ¬ (4 : Int) = 0 by omega)]
              exact out1 _
        · rw [decide_eq_false hl2, Bool.false_and]
          exact out
    · rw [decide_eq_false hl1, Bool.false_and]
      simp only [Bool.false_eq_true, if_false]
      exact out
end Go.Proofs.Ytogoppejcmaocaa.Pure
end
