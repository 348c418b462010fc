/- Colorings returns the number of different colourings, or the documented error, for any automaton. (text 27 of 28) -/
import Derived.Test.YtjgdalhdiohclaaZColorCountsi
import Derived.Test.YtjgdalhdiohclaaZColorCountsz
import Derived.Test.YtjgdalhdiohclaaZColorCountsx
/-! Part StmtColorCounts -/
section
namespace Go.Proofs.Ytjgdalhdiohclaa.Q
def mizmazelaw05_ColorCounts.Pure : Prop := ∀ (l0_0 : List (List Int)), RowsOk l0_0 → ∃ k, mizmazelaw05_ColorCounts.f k l0_0 = some true
end Go.Proofs.Ytjgdalhdiohclaa.Q
end
/-! Part PureColorCounts -/
section
namespace Go.Proofs.Ytjgdalhdiohclaa.Pure
open Go.RowKit Go.Proofs.YtjgdalhdiohclaaW.PrintWords Go.Proofs.YtjgdalhdiohclaaW.PrintLast Go.Proofs.YtjgdalhdiohclaaW.PrintMore Go.Proofs.Ytjgdalhdiohclaa.Q
theorem ColorCounts : Q.mizmazelaw05_ColorCounts.Pure := by
 intro a ha
 refine Ev.rounds (g := fun k => mizmazelaw05_ColorCounts.f k a) ?_
 unfold mizmazelaw05_ColorCounts.f
 have aw : Ev (fun k => (mizmazelaw05_awake.f k).bind fun t => some t) true := Ev.bind awake5 (Ev.now _)
 cases va : validB a with
 | false =>
  have h1 : Ev (fun k => color_Colorings.f k a) (0, 1) := by
   unfold color_Colorings.f
   simp only [auto_Valid.f, va, Option.bind_some, Bool.false_eq_true, if_false]
   exact Ev.now _
  refine Ev.bind h1 (Ev.bind (va ▸ ref_valid a ha) ?_)
  simp only [Bool.false_eq_true, if_false, if_true]
  exact aw
 | true =>
  have V := VA.of5 va
  refine Ev.bind (colorings_ev V) (Ev.bind (va ▸ ref_valid a ha) ?_)
  simp only [if_true]
  refine Ev.bind (ref_colorings (lim := 1152921504606846976) V (Nat.le_refl _) (by omega)) ?_
  cases h : (prodS 1152921504606846976 (waysL a) 1).2 with
  | true => simp only [if_true]; exact aw
  | false => simp only [Bool.false_eq_true, if_false, if_true]; exact aw
end Go.Proofs.Ytjgdalhdiohclaa.Pure
end
