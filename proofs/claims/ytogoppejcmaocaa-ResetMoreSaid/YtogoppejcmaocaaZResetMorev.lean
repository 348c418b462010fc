/- A reset word that Reset returns, with any letters before it and after it, leads all states to one, for any automaton and words. (text 22 of 29) -/
import Derived.Test.YtogoppejcmaocaaZResetMoreh
import Derived.Test.YtogoppejcmaocaaZResetMoreu
import Derived.Test.YtogoppejcmaocaaZResetMoreg
/-! Part MRefImg -/
section
namespace Go.Proofs.Ytogoppejcmaocaa.Q
open Go.RowKit Go.Proofs.YtogoppejcmaocaaW.PrintWords Go.Proofs.YtogoppejcmaocaaW.PrintLast Go.Proofs.YtogoppejcmaocaaW.PrintMore
set_option linter.unusedVariables false
set_option linter.unusedSectionVars false
set_option linter.unusedSimpArgs false
/-! ### reference 1: words and images -/
theorem ref_word' {rows : List (List Int)} {n m : Nat} (V : VA rows n m) (l : List Int) : Ev (fun k => mizmazeref01_Word.f k rows l) (decide (l.length ≤ 40000) && inB (m : Int) l) := by
  unfold mizmazeref01_Word.f
  by_cases h : l.length ≤ 40000
  · simp only [if_pos (by omega : (l.length : Int) ≤ 40000), V.letters, Option.bind_some]
    rw [decide_eq_true h, Bool.true_and]
    exact Ev.bind (ref_below _ _ (by omega)) (Ev.now _)
  · simp only [if_neg (by omega : ¬ (l.length : Int) ≤ 40000)]
    rw [decide_eq_false h, Bool.false_and]; exact Ev.now _
end Go.Proofs.Ytogoppejcmaocaa.Q
end
