/- In any Eulerian automaton that has a reset word, whatever set of states, neither empty nor all, is led into by more states with a word of at most n - 1 letters, and its shortest reset word has at most n^2 - 3n + 3 letters; in any circular one at most (n - 1)^2. (At most 9 states) (text 25 of 42) -/
import Derived.Test.YtcpmmkennnjalaaZTopKarip
import Derived.Test.YtcpmmkennnjalaaZTopKarij
import Derived.Test.YtcpmmkennnjalaaZTopKariv
section
namespace Go.Proofs.Ytcpmmkennnjalaa.Q
open Go.RowKit Go.Proofs.YtcpmmkennnjalaaW.PrintWords Go.Proofs.YtcpmmkennnjalaaW.PrintLast Go.Proofs.YtcpmmkennnjalaaW.PrintMore
set_option linter.unusedVariables false
set_option linter.unusedSectionVars false
set_option linter.unusedSimpArgs false
/-! ### Merge, Apart, Reset, as functions -/
theorem newMerger.mono_b : ∀ k, (∀ y0 y1 y2 y3, LeO (newMerger.b0 k y0 y1 y2 y3) (newMerger.b0 (k + 1) y0 y1 y2 y3)) ∧ (∀ y0 y1 y2 y3 y4 y5, LeO (newMerger.b1 k y0 y1 y2 y3 y4 y5) (newMerger.b1 (k + 1) y0 y1 y2 y3 y4 y5))
  | 0 => ⟨fun _ _ _ _ r h => by simp [newMerger.b0] at h, fun _ _ _ _ _ _ r h => by simp [newMerger.b1] at h⟩
  | k + 1 => by
    obtain ⟨ih0, ih1⟩ := newMerger.mono_b k
    refine ⟨?_, ?_⟩
    · intro y0 y1 y2 y3
      unfold newMerger.b0
      repeat' first
      | (with_reducible exact ih1 _ _ _ _ _ _)
      | (with_reducible exact LeO.refl _)
      | (with_reducible exact LeO.none _)
      | (with_reducible refine LeO.ite ?_ ?_)
    · intro y0 y1 y2 y3 y4 y5
      unfold newMerger.b1
      repeat' first
      | (with_reducible exact ih0 _ _ _ _)
      | (with_reducible exact ih1 _ _ _ _ _ _)
      | (with_reducible exact LeO.refl _)
      | (with_reducible exact LeO.none _)
      | (with_reducible refine LeO.ite ?_ ?_)
theorem newMerger.mono_l : ∀ k, (∀ y0 y1 y2 y3 y4, LeO (newMerger.l0 k y0 y1 y2 y3 y4) (newMerger.l0 (k + 1) y0 y1 y2 y3 y4)) ∧ (∀ y0 y1 y2 y3 y4 y5, LeO (newMerger.l1 k y0 y1 y2 y3 y4 y5) (newMerger.l1 (k + 1) y0 y1 y2 y3 y4 y5)) ∧ (∀ y0 y1 y2 y3 y4 y5 y6, LeO (newMerger.l2 k y0 y1 y2 y3 y4 y5 y6) (newMerger.l2 (k + 1) y0 y1 y2 y3 y4 y5 y6))
  | 0 => ⟨fun _ _ _ _ _ r h => by simp [newMerger.l0] at h, fun _ _ _ _ _ _ r h => by simp [newMerger.l1] at h, fun _ _ _ _ _ _ _ r h => by simp [newMerger.l2] at h⟩
  | k + 1 => by
    obtain ⟨ih0, ih1, ih2⟩ := newMerger.mono_l k
    have ihb := (newMerger.mono_b k).1
    refine ⟨?_, ?_, ?_⟩
    · intro y0 y1 y2 y3 y4
      unfold newMerger.l0
      repeat' first
      | (with_reducible exact ih1 _ _ _ _ _ _)
      | (with_reducible exact ihb _ _ _ _)
      | (with_reducible exact LeO.refl _)
      | (with_reducible exact LeO.none _)
      | (with_reducible refine LeO.ite ?_ ?_)
    · intro y0 y1 y2 y3 y4 y5
      unfold newMerger.l1
      repeat' first
      | (with_reducible exact ih0 _ _ _ _ _)
      | (with_reducible exact ih2 _ _ _ _ _ _ _)
      | (with_reducible exact LeO.refl _)
      | (with_reducible exact LeO.none _)
      | (with_reducible refine LeO.ite ?_ ?_)
    · intro y0 y1 y2 y3 y4 y5 y6
      unfold newMerger.l2
      repeat' first
      | (with_reducible exact ih1 _ _ _ _ _ _)
      | (with_reducible exact ih2 _ _ _ _ _ _ _)
      | (with_reducible exact LeO.refl _)
      | (with_reducible exact LeO.none _)
      | (with_reducible refine LeO.ite ?_ ?_)
      | (with_reducible refine LeO.bind ?_ (fun _ => ?_))
theorem newMerger.mono : ∀ a0 k, LeO (newMerger.f k a0) (newMerger.f (k + 1) a0) := fun _ k => (newMerger.mono_l k).1 _ _ _ _ _
theorem merger_word.mono_l : ∀ k, (∀ y0 y1 y2 y3 y4, LeO (merger_word.l0 k y0 y1 y2 y3 y4) (merger_word.l0 (k + 1) y0 y1 y2 y3 y4)) ∧ (∀ y0 y1 y2 y3 y4 y5, LeO (merger_word.l1 k y0 y1 y2 y3 y4 y5) (merger_word.l1 (k + 1) y0 y1 y2 y3 y4 y5))
  | 0 => ⟨fun _ _ _ _ _ r h => by simp [merger_word.l0] at h, fun _ _ _ _ _ _ r h => by simp [merger_word.l1] at h⟩
  | k + 1 => by
    obtain ⟨ih0, ih1⟩ := merger_word.mono_l k
    refine ⟨?_, ?_⟩
    · intro y0 y1 y2 y3 y4
      unfold merger_word.l0
      repeat' first
      | (with_reducible exact ih1 _ _ _ _ _ _)
      | (with_reducible exact LeO.refl _)
      | (with_reducible exact LeO.none _)
      | (with_reducible refine LeO.ite ?_ ?_)
    · intro y0 y1 y2 y3 y4 y5
      unfold merger_word.l1
      repeat' first
      | (with_reducible exact ih0 _ _ _ _ _)
      | (with_reducible exact ih1 _ _ _ _ _ _)
      | (with_reducible exact LeO.refl _)
      | (with_reducible exact LeO.none _)
      | (with_reducible refine LeO.ite ?_ ?_)
      | (with_reducible refine LeO.bind ?_ (fun _ => ?_))
theorem merger_word.mono : ∀ a0 a1 a2 a3 k, LeO (merger_word.f k a0 a1 a2 a3) (merger_word.f (k + 1) a0 a1 a2 a3) := by
  intro a0 a1 a2 a3 k
  unfold merger_word.f
  repeat' first
  | (with_reducible exact (merger_word.mono_l k).1 _ _ _ _ _)
  | (with_reducible exact LeO.refl _)
  | (with_reducible refine LeO.ite ?_ ?_)
theorem merger_nearest.mono_l : ∀ k, (∀ y0 y1 y2 y3 y4 y5 y6, LeO (merger_nearest.l0 k y0 y1 y2 y3 y4 y5 y6) (merger_nearest.l0 (k + 1) y0 y1 y2 y3 y4 y5 y6)) ∧ (∀ y0 y1 y2 y3 y4 y5 y6 y7 y8 y9, LeO (merger_nearest.l1 k y0 y1 y2 y3 y4 y5 y6 y7 y8 y9) (merger_nearest.l1 (k + 1) y0 y1 y2 y3 y4 y5 y6 y7 y8 y9))
  | 0 => ⟨fun _ _ _ _ _ _ _ r h => by simp [merger_nearest.l0] at h, fun _ _ _ _ _ _ _ _ _ _ r h => by simp [merger_nearest.l1] at h⟩
  | k + 1 => by
    obtain ⟨ih0, ih1⟩ := merger_nearest.mono_l k
    refine ⟨?_, ?_⟩
    · intro y0 y1 y2 y3 y4 y5 y6
      unfold merger_nearest.l0
      repeat' first
      | (with_reducible exact ih1 _ _ _ _ _ _ _ _ _ _)
      | (with_reducible exact LeO.refl _)
      | (with_reducible exact LeO.none _)
      | (with_reducible refine LeO.ite ?_ ?_)
    · intro y0 y1 y2 y3 y4 y5 y6 y7 y8 y9
      unfold merger_nearest.l1
      repeat' first
      | (with_reducible exact ih0 _ _ _ _ _ _ _)
      | (with_reducible exact ih1 _ _ _ _ _ _ _ _ _ _)
      | (with_reducible exact LeO.refl _)
      | (with_reducible exact LeO.none _)
      | (with_reducible refine LeO.ite ?_ ?_)
theorem merger_nearest.mono : ∀ a0 a1 a2 k, LeO (merger_nearest.f k a0 a1 a2) (merger_nearest.f (k + 1) a0 a1 a2) := by
  intro a0 a1 a2 k
  unfold merger_nearest.f
  repeat' first
  | (with_reducible exact (merger_nearest.mono_l k).1 _ _ _ _ _ _ _)
  | (with_reducible exact LeO.refl _)
  | (with_reducible refine LeO.ite ?_ ?_)

def reset_Reset.l1 : Nat → List (List Int) → List Int → List Int → Int → Option (List Int)
  | 0, _, _, _, _ => none
  | k + 1, rows, set, word, i => if i < (set.length : Int) then (if 0 ≤ i then ((auto_Lead.f k rows (rd set i) word).bind fun t => reset_Reset.l1 k rows (set.set i.toNat t) word (wrap64 (i + 1))) else none) else some set
def reset_Reset.l0 : Nat → List (List Int) → List ((Int × Int) × Int) → List Int → List Int → Option (List Int × Int)
  | 0, _, _, _, _ => none
  | k + 1, rows, left, out, set => if (set.length : Int) > 1 then ((merger_nearest.f k rows.length left set).bind fun r => if r.2.2 = true then ((merger_word.f k rows left r.1 r.2.1).bind fun wd => if out.length + wd.1.length < 17592186044416 then (if set.length < 4611686018427387904 then ((reset_Reset.l1 k rows set wd.1 0).bind fun set2 => if set2.length < 4611686018427387904 then (if (tidy set2).length ≤ set2.length then reset_Reset.l0 k rows left (out ++ wd.1) (tidy set2) else none) else none) else none) else none) else some ([], 4)) else some (out, 0)
def reset_Reset.f (k : Nat) (rows : List (List Int)) : Option (List Int × Int) :=
  (auto_Valid.f rows).bind fun v => if v = true then ((newMerger.f k rows).bind fun left => (auto_All.f k rows).bind fun set => reset_Reset.l0 k rows left [] set) else some ([], 1)
theorem reset_Reset.mono_1 : ∀ k, ∀ y0 y1 y2 y3, LeO (reset_Reset.l1 k y0 y1 y2 y3) (reset_Reset.l1 (k + 1) y0 y1 y2 y3)
  | 0 => fun _ _ _ _ r h => by simp [reset_Reset.l1] at h
  | k + 1 => by
    have ih := reset_Reset.mono_1 k
    intro y0 y1 y2 y3
    unfold reset_Reset.l1
    repeat' first
    | (with_reducible exact ih _ _ _ _)
    | (with_reducible exact auto_Lead.mono _ _ _ _)
    | (with_reducible exact LeO.refl _)
    | (with_reducible refine LeO.ite ?_ ?_)
    | (with_reducible refine LeO.bind ?_ (fun _ => ?_))
theorem reset_Reset.mono_0 : ∀ k, ∀ y0 y1 y2 y3, LeO (reset_Reset.l0 k y0 y1 y2 y3) (reset_Reset.l0 (k + 1) y0 y1 y2 y3)
  | 0 => fun _ _ _ _ r h => by simp [reset_Reset.l0] at h
  | k + 1 => by
    have ih := reset_Reset.mono_0 k
    intro y0 y1 y2 y3
    unfold reset_Reset.l0
    repeat' first
    | (with_reducible exact ih _ _ _ _)
    | (with_reducible exact merger_nearest.mono _ _ _ _)
    | (with_reducible exact merger_word.mono _ _ _ _ _)
    | (with_reducible exact reset_Reset.mono_1 _ _ _ _ _)
    | (with_reducible exact LeO.refl _)
    | (with_reducible exact LeO.none _)
    | (with_reducible refine LeO.ite ?_ ?_)
    | (with_reducible refine LeO.bind ?_ (fun _ => ?_))
theorem reset_Reset.mono : ∀ a0 k, LeO (reset_Reset.f k a0) (reset_Reset.f (k + 1) a0) := by
  intro a0 k
  unfold reset_Reset.f
  repeat' first
  | (with_reducible exact newMerger.mono _ _)
  | (with_reducible exact auto_All.mono _ _)
  | (with_reducible exact reset_Reset.mono_0 _ _ _ _ _)
  | (with_reducible exact LeO.refl _)
  | (with_reducible refine LeO.ite ?_ ?_)
  | (with_reducible refine LeO.bind ?_ (fun _ => ?_))
end Go.Proofs.Ytcpmmkennnjalaa.Q
end
