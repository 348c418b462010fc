/- The law ShortFinds holds: Shortest returns the first shortest reset word, or the documented error, for any automaton; no bound on the argument beyond its type's. (text 18 of 31) -/
import Derived.Test.YtogoppejcmaocaaZShortFindsn
import Derived.Test.YtogoppejcmaocaaZShortFindsh
import Derived.Test.YtogoppejcmaocaaZShortFindsi
import Derived.Test.YtogoppejcmaocaaZShortFindsq
/-! Part XMergeF -/
section
namespace Go.Proofs.Ytogoppejcmaocaa.Q
open Go.RowKit Go.Proofs.YtogoppejcmaocaaW.PrintWords Go.Proofs.YtogoppejcmaocaaW.PrintLast Go.Proofs.YtogoppejcmaocaaW.PrintMore
set_option linter.unusedVariables false
set_option linter.unusedSectionVars false
set_option linter.unusedSimpArgs false
/-! ### Merge, Apart, Reset, as functions -/
theorem newMerger.mono_b : ∀ k, (∀ y0 y1 y2 y3, LeO (newMerger.b0 k y0 y1 y2 y3) (newMerger.b0 (k + 1) y0 y1 y2 y3)) ∧ (∀ y0 y1 y2 y3 y4 y5, LeO (newMerger.b1 k y0 y1 y2 y3 y4 y5) (newMerger.b1 (k + 1) y0 y1 y2 y3 y4 y5))
 | 0 => ⟨fun _ _ _ _ r h => by simp [newMerger.b0] at h, fun _ _ _ _ _ _ r h => by simp [newMerger.b1] at h⟩
 | k + 1 => by
  obtain ⟨ih0, ih1⟩ := newMerger.mono_b k
  refine ⟨?_, ?_⟩
  ·intro y0 y1 y2 y3
   unfold newMerger.b0
   repeat' first
   | (with_reducible exact ih1 _ _ _ _ _ _)
   | (with_reducible exact LeO.refl _)
   | (with_reducible exact LeO.none _)
   | (with_reducible refine LeO.ite ?_ ?_)
  ·intro y0 y1 y2 y3 y4 y5
   unfold newMerger.b1
   repeat' first
   | (with_reducible exact ih0 _ _ _ _)
   | (with_reducible exact ih1 _ _ _ _ _ _)
   | (with_reducible exact LeO.refl _)
   | (with_reducible exact LeO.none _)
   | (with_reducible refine LeO.ite ?_ ?_)
theorem newMerger.mono_l : ∀ k, (∀ y0 y1 y2 y3 y4, LeO (newMerger.l0 k y0 y1 y2 y3 y4) (newMerger.l0 (k + 1) y0 y1 y2 y3 y4)) ∧ (∀ y0 y1 y2 y3 y4 y5, LeO (newMerger.l1 k y0 y1 y2 y3 y4 y5) (newMerger.l1 (k + 1) y0 y1 y2 y3 y4 y5)) ∧ (∀ y0 y1 y2 y3 y4 y5 y6, LeO (newMerger.l2 k y0 y1 y2 y3 y4 y5 y6) (newMerger.l2 (k + 1) y0 y1 y2 y3 y4 y5 y6))
 | 0 => ⟨fun _ _ _ _ _ r h => by simp [newMerger.l0] at h, fun _ _ _ _ _ _ r h => by simp [newMerger.l1] at h, fun _ _ _ _ _ _ _ r h => by simp [newMerger.l2] at h⟩
 | k + 1 => by
  obtain ⟨ih0, ih1, ih2⟩ := newMerger.mono_l k
  have ihb := (newMerger.mono_b k).1
  refine ⟨?_, ?_, ?_⟩
  ·intro y0 y1 y2 y3 y4
   unfold newMerger.l0
   repeat' first
   | (with_reducible exact ih1 _ _ _ _ _ _)
   | (with_reducible exact ihb _ _ _ _)
   | (with_reducible exact LeO.refl _)
   | (with_reducible exact LeO.none _)
   | (with_reducible refine LeO.ite ?_ ?_)
  ·intro y0 y1 y2 y3 y4 y5
   unfold newMerger.l1
   repeat' first
   | (with_reducible exact ih0 _ _ _ _ _)
   | (with_reducible exact ih2 _ _ _ _ _ _ _)
   | (with_reducible exact LeO.refl _)
   | (with_reducible exact LeO.none _)
   | (with_reducible refine LeO.ite ?_ ?_)
  ·intro y0 y1 y2 y3 y4 y5 y6
   unfold newMerger.l2
   repeat' first
   | (with_reducible exact ih1 _ _ _ _ _ _)
   | (with_reducible exact ih2 _ _ _ _ _ _ _)
   | (with_reducible exact LeO.refl _)
   | (with_reducible exact LeO.none _)
   | (with_reducible refine LeO.ite ?_ ?_)
   | (with_reducible refine LeO.bind ?_ (fun _ => ?_))
theorem newMerger.mono : ∀ a0 k, LeO (newMerger.f k a0) (newMerger.f (k + 1) a0) := fun _ k => (newMerger.mono_l k).1 _ _ _ _ _
end Go.Proofs.Ytogoppejcmaocaa.Q
end
