/- The law ResetClosed holds: there is a reset word if and only if Apart is empty, each letter leads the states of a pair of Apart to the two states of a pair of Apart, and Merge of two different states returns ErrNone for these pairs alone; no bound on the arguments beyond their types'. (text 19 of 26) -/
import Derived.Test.YtogoppejcmaocaaZResetClosedg
import Derived.Test.YtogoppejcmaocaaZResetClosedr
import Derived.Test.YtogoppejcmaocaaZResetClosedq
/-! Part QLaw03ResetClosed -/
section
-- Written by xprint.py, a program of this session's, over the kit's print. Lean checks it.
namespace Go.Proofs.Ytogoppejcmaocaa.Q
open Go.RowKit Go.Proofs.YtogoppejcmaocaaW.PrintWords Go.Proofs.YtogoppejcmaocaaW.PrintLast Go.Proofs.YtogoppejcmaocaaW.PrintMore
attribute [local go_sem] max2_int min2_int max_two min_two max_three min_three max_four min_four
set_option linter.unusedVariables false
set_option linter.unusedSimpArgs false

/-! ### mizmazelaw03_ResetClosed: function 10 -/
mutual
def mizmazelaw03_ResetClosed.j0 : Nat → Int → Int → Bool → List (List Int) → Option (Bool)
  | 0, _, _, _, _ => none
  | k + 1, x1, x2, x30, x746000 => if x30 = true then ((mizmazelaw03_awake.f k).bind fun t749 => (some t749)) else ((reset_Reset.f k x746000).bind fun bt750 => ((reset_Apart.f k x746000).bind fun bt754 => (if bt754.2 = 0 then (if bt750.2 = 0 then (mizmazelaw03_ResetClosed.j1 k x1 x2 bt754.1 ((bt750.2 == 0) != ((bt754.1.length : Int) == 0)) x746000) else (if bt750.2 = 4 then (mizmazelaw03_ResetClosed.j1 k x1 x2 bt754.1 ((bt750.2 == 0) != ((bt754.1.length : Int) == 0)) x746000) else (mizmazelaw03_ResetClosed.j1 k x1 x2 bt754.1 true x746000))) else (mizmazelaw03_ResetClosed.j1 k x1 x2 bt754.1 true x746000))))
def mizmazelaw03_ResetClosed.j1 : Nat → Int → Int → List (S49) → Bool → List (List Int) → Option (Bool)
  | 0, _, _, _, _, _ => none
  | k + 1, x1, x2, x9, x59, x746000 => if x59 = true then (some false) else (if 0 ≤ (x746000.length : Int) then (if ((x746000.length : Int) : Int).toNat ≤ 11728124029610 then (mizmazelaw03_ResetClosed.l0 k x1 x2 x9 (List.replicate ((x746000.length : Int) : Int).toNat []) 0 x746000) else (none)) else (none))
def mizmazelaw03_ResetClosed.l0 : Nat → Int → Int → List (S49) → List (List Bool) → Int → List (List Int) → Option (Bool)
  | 0, _, _, _, _, _, _ => none
  | k + 1, x1, x2, x9, x11, x12, x746000 => if x12 < (x11.length : Int) then (if 0 ≤ (x746000.length : Int) then (if ((x746000.length : Int) : Int).toNat ≤ 281474976710656 then (if 0 ≤ x12 then (mizmazelaw03_ResetClosed.l0 k x1 x2 x9 (x11.set (x12 : Int).toNat (List.replicate ((x746000.length : Int) : Int).toNat false)) (wrap64 (x12 + 1)) x746000) else (none)) else (none)) else (none)) else (mizmazelaw03_ResetClosed.l1 k x1 x2 x9 x11 0 x746000)
def mizmazelaw03_ResetClosed.l1 : Nat → Int → Int → List (S49) → List (List Bool) → Int → List (List Int) → Option (Bool)
  | 0, _, _, _, _, _, _ => none
  | k + 1, x1, x2, x9, x11, x13, x746000 => if x13 < (x9.length : Int) then (if 0 ≤ x13 then ((mizmazeref01_State.f x746000 ((rd_T49 x9 x13).f0)).bind fun t766 => (if t766 = true then ((mizmazeref01_State.f x746000 ((rd_T49 x9 x13).f1)).bind fun t768 => (if t768 = true then (if ((rd_T49 x9 x13).f0) ≥ ((rd_T49 x9 x13).f1) then (some false) else (if 0 ≤ ((rd_T49 x9 x13).f0) then (if ((rd_T49 x9 x13).f0) < (x11.length : Int) then (if 0 ≤ ((rd_T49 x9 x13).f1) then (if ((rd_T49 x9 x13).f1) < ((rd_L6 x11 ((rd_T49 x9 x13).f0)).length : Int) then ((some (x11.set (((rd_T49 x9 x13).f0) : Int).toNat ((rd_L6 x11 ((rd_T49 x9 x13).f0)).set (((rd_T49 x9 x13).f1) : Int).toNat true) : List (List Bool))).bind fun y776 => (if ((rd_T49 x9 x13).f1) < (x11.length : Int) then (if ((rd_T49 x9 x13).f0) < ((rd_L6 y776 ((rd_T49 x9 x13).f1)).length : Int) then (mizmazelaw03_ResetClosed.l1 k x1 x2 x9 (y776.set (((rd_T49 x9 x13).f1) : Int).toNat ((rd_L6 y776 ((rd_T49 x9 x13).f1)).set (((rd_T49 x9 x13).f0) : Int).toNat true)) (wrap64 (x13 + 1)) x746000) else (none)) else (none))) else (none)) else (none)) else (none)) else (none))) else (some false))) else (some false))) else (none)) else (mizmazelaw03_ResetClosed.l2 k x1 x2 x9 x11 0 x746000)
def mizmazelaw03_ResetClosed.l2 : Nat → Int → Int → List (S49) → List (List Bool) → Int → List (List Int) → Option (Bool)
  | 0, _, _, _, _, _, _ => none
  | k + 1, x1, x2, x9, x11, x14, x746000 => if x14 < (x9.length : Int) then (mizmazelaw03_ResetClosed.l3 k x1 x2 x9 x11 x14 0 x746000) else ((reset_Merge.f k x746000 x1 x2).bind fun bt783 => (if 0 ≤ x1 then (if x1 < (x11.length : Int) then (if 0 ≤ x2 then (if x2 < ((rd_L6 x11 x1).length : Int) then (if ((bt783.2 == 4) == (rdOf false (rd_L6 x11 x1) x2)) = true then ((mizmazelaw03_awake.f k).bind fun t789 => (some t789)) else (some false)) else (none)) else (none)) else (none)) else (none)))
def mizmazelaw03_ResetClosed.l3 : Nat → Int → Int → List (S49) → List (List Bool) → Int → Int → List (List Int) → Option (Bool)
  | 0, _, _, _, _, _, _, _ => none
  | k + 1, x1, x2, x9, x11, x14, x15, x746000 => (mizmazeref01_Letters.f x746000).bind fun t790 => (if x15 < t790 then (if 0 ≤ x14 then (if x14 < (x9.length : Int) then (if 0 ≤ ((rd_T49 x9 x14).f0) then (if ((rd_T49 x9 x14).f0) < (x746000.length : Int) then (if 0 ≤ x15 then (if x15 < ((rd_L1 x746000 ((rd_T49 x9 x14).f0)).length : Int) then (if 0 ≤ (rd (rd_L1 x746000 ((rd_T49 x9 x14).f0)) x15) then (if (rd (rd_L1 x746000 ((rd_T49 x9 x14).f0)) x15) < (x11.length : Int) then (if 0 ≤ ((rd_T49 x9 x14).f1) then (if ((rd_T49 x9 x14).f1) < (x746000.length : Int) then (if x15 < ((rd_L1 x746000 ((rd_T49 x9 x14).f1)).length : Int) then (if 0 ≤ (rd (rd_L1 x746000 ((rd_T49 x9 x14).f1)) x15) then (if (rd (rd_L1 x746000 ((rd_T49 x9 x14).f1)) x15) < ((rd_L6 x11 (rd (rd_L1 x746000 ((rd_T49 x9 x14).f0)) x15)).length : Int) then (if (rdOf false (rd_L6 x11 (rd (rd_L1 x746000 ((rd_T49 x9 x14).f0)) x15)) (rd (rd_L1 x746000 ((rd_T49 x9 x14).f1)) x15) = true) then (mizmazelaw03_ResetClosed.l3 k x1 x2 x9 x11 x14 (wrap64 (x15 + 1)) x746000) else (some false)) else (none)) else (none)) else (none)) else (none)) else (none)) else (none)) else (none)) else (none)) else (none)) else (none)) else (none)) else (none)) else (none)) else (mizmazelaw03_ResetClosed.l2 k x1 x2 x9 x11 (wrap64 (x14 + 1)) x746000))
end
def mizmazelaw03_ResetClosed.f (k : Nat) (l0_0 : List (List Int)) (a1 : Int) (a2 : Int) : Option (Bool) := (mizmazeref01_Valid.f k l0_0).bind fun t746 => (if t746 = true then ((mizmazeref01_State.f l0_0 a1).bind fun t747 => (if t747 = true then ((mizmazeref01_State.f l0_0 a2).bind fun t748 => (mizmazelaw03_ResetClosed.j0 k a1 a2 (!t748) l0_0)) else (mizmazelaw03_ResetClosed.j0 k a1 a2 true l0_0))) else (mizmazelaw03_ResetClosed.j0 k a1 a2 true l0_0))
theorem mizmazelaw03_ResetClosed.mono_l : ∀ k, (∀ y0 y1 y2 y3, LeO (mizmazelaw03_ResetClosed.j0 k y0 y1 y2 y3) (mizmazelaw03_ResetClosed.j0 (k + 1) y0 y1 y2 y3)) ∧ (∀ y0 y1 y2 y3 y4, LeO (mizmazelaw03_ResetClosed.j1 k y0 y1 y2 y3 y4) (mizmazelaw03_ResetClosed.j1 (k + 1) y0 y1 y2 y3 y4)) ∧ (∀ y0 y1 y2 y3 y4 y5, LeO (mizmazelaw03_ResetClosed.l0 k y0 y1 y2 y3 y4 y5) (mizmazelaw03_ResetClosed.l0 (k + 1) y0 y1 y2 y3 y4 y5)) ∧ (∀ y0 y1 y2 y3 y4 y5, LeO (mizmazelaw03_ResetClosed.l1 k y0 y1 y2 y3 y4 y5) (mizmazelaw03_ResetClosed.l1 (k + 1) y0 y1 y2 y3 y4 y5)) ∧ (∀ y0 y1 y2 y3 y4 y5, LeO (mizmazelaw03_ResetClosed.l2 k y0 y1 y2 y3 y4 y5) (mizmazelaw03_ResetClosed.l2 (k + 1) y0 y1 y2 y3 y4 y5)) ∧ (∀ y0 y1 y2 y3 y4 y5 y6, LeO (mizmazelaw03_ResetClosed.l3 k y0 y1 y2 y3 y4 y5 y6) (mizmazelaw03_ResetClosed.l3 (k + 1) y0 y1 y2 y3 y4 y5 y6))
  | 0 => ⟨fun _ _ _ _ r h => by simp [mizmazelaw03_ResetClosed.j0] at h, fun _ _ _ _ _ r h => by simp [mizmazelaw03_ResetClosed.j1] at h, fun _ _ _ _ _ _ r h => by simp [mizmazelaw03_ResetClosed.l0] at h, fun _ _ _ _ _ _ r h => by simp [mizmazelaw03_ResetClosed.l1] at h, fun _ _ _ _ _ _ r h => by simp [mizmazelaw03_ResetClosed.l2] at h, fun _ _ _ _ _ _ _ r h => by simp [mizmazelaw03_ResetClosed.l3] at h⟩
  | k + 1 => by
    obtain ⟨ih0, ih1, ih2, ih3, ih4, ih5⟩ := mizmazelaw03_ResetClosed.mono_l k
    refine ⟨?_, ?_, ?_, ?_, ?_, ?_⟩
    · intro y0 y1 y2 y3
      unfold mizmazelaw03_ResetClosed.j0
      repeat' first
      | (with_reducible exact ih0 _ _ _ _)
      | (with_reducible exact ih1 _ _ _ _ _)
      | (with_reducible exact ih2 _ _ _ _ _ _)
      | (with_reducible exact ih3 _ _ _ _ _ _)
      | (with_reducible exact ih4 _ _ _ _ _ _)
      | (with_reducible exact ih5 _ _ _ _ _ _ _)
      | (with_reducible exact mizmazelaw03_awake.mono _)
      | (with_reducible exact mizmazeref01_Valid.mono _ _)
      | (with_reducible exact reset_Apart.mono _ _)
      | (with_reducible exact reset_Merge.mono _ _ _ _)
      | (with_reducible exact reset_Reset.mono _ _)
      | (with_reducible exact LeO.refl _)
      | (with_reducible exact LeO.none _)
      | (with_reducible refine LeO.ite ?_ ?_)
      | (with_reducible refine LeO.bind ?_ (fun _ => ?_))
      | exact ih0 _ _ _ _
      | exact ih1 _ _ _ _ _
      | exact ih2 _ _ _ _ _ _
      | exact ih3 _ _ _ _ _ _
      | exact ih4 _ _ _ _ _ _
      | exact ih5 _ _ _ _ _ _ _
      | exact mizmazelaw03_awake.mono _
      | exact mizmazeref01_Valid.mono _ _
      | exact reset_Apart.mono _ _
      | exact reset_Merge.mono _ _ _ _
      | exact reset_Reset.mono _ _
      | exact LeO.none _
      | refine LeO.ite ?_ ?_
      | refine LeO.bind ?_ (fun _ => ?_)
    · intro y0 y1 y2 y3 y4
      unfold mizmazelaw03_ResetClosed.j1
      repeat' first
      | (with_reducible exact ih0 _ _ _ _)
      | (with_reducible exact ih1 _ _ _ _ _)
      | (with_reducible exact ih2 _ _ _ _ _ _)
      | (with_reducible exact ih3 _ _ _ _ _ _)
      | (with_reducible exact ih4 _ _ _ _ _ _)
      | (with_reducible exact ih5 _ _ _ _ _ _ _)
      | (with_reducible exact mizmazelaw03_awake.mono _)
      | (with_reducible exact mizmazeref01_Valid.mono _ _)
      | (with_reducible exact reset_Apart.mono _ _)
      | (with_reducible exact reset_Merge.mono _ _ _ _)
      | (with_reducible exact reset_Reset.mono _ _)
      | (with_reducible exact LeO.refl _)
      | (with_reducible exact LeO.none _)
      | (with_reducible refine LeO.ite ?_ ?_)
      | (with_reducible refine LeO.bind ?_ (fun _ => ?_))
      | exact ih0 _ _ _ _
      | exact ih1 _ _ _ _ _
      | exact ih2 _ _ _ _ _ _
      | exact ih3 _ _ _ _ _ _
      | exact ih4 _ _ _ _ _ _
      | exact ih5 _ _ _ _ _ _ _
      | exact mizmazelaw03_awake.mono _
      | exact mizmazeref01_Valid.mono _ _
      | exact reset_Apart.mono _ _
      | exact reset_Merge.mono _ _ _ _
      | exact reset_Reset.mono _ _
      | exact LeO.none _
      | refine LeO.ite ?_ ?_
      | refine LeO.bind ?_ (fun _ => ?_)
    · intro y0 y1 y2 y3 y4 y5
      unfold mizmazelaw03_ResetClosed.l0
      repeat' first
      | (with_reducible exact ih0 _ _ _ _)
      | (with_reducible exact ih1 _ _ _ _ _)
      | (with_reducible exact ih2 _ _ _ _ _ _)
      | (with_reducible exact ih3 _ _ _ _ _ _)
      | (with_reducible exact ih4 _ _ _ _ _ _)
      | (with_reducible exact ih5 _ _ _ _ _ _ _)
      | (with_reducible exact mizmazelaw03_awake.mono _)
      | (with_reducible exact mizmazeref01_Valid.mono _ _)
      | (with_reducible exact reset_Apart.mono _ _)
      | (with_reducible exact reset_Merge.mono _ _ _ _)
      | (with_reducible exact reset_Reset.mono _ _)
      | (with_reducible exact LeO.refl _)
      | (with_reducible exact LeO.none _)
      | (with_reducible refine LeO.ite ?_ ?_)
      | (with_reducible refine LeO.bind ?_ (fun _ => ?_))
      | exact ih0 _ _ _ _
      | exact ih1 _ _ _ _ _
      | exact ih2 _ _ _ _ _ _
      | exact ih3 _ _ _ _ _ _
      | exact ih4 _ _ _ _ _ _
      | exact ih5 _ _ _ _ _ _ _
      | exact mizmazelaw03_awake.mono _
      | exact mizmazeref01_Valid.mono _ _
      | exact reset_Apart.mono _ _
      | exact reset_Merge.mono _ _ _ _
      | exact reset_Reset.mono _ _
      | exact LeO.none _
      | refine LeO.ite ?_ ?_
      | refine LeO.bind ?_ (fun _ => ?_)
    · intro y0 y1 y2 y3 y4 y5
      unfold mizmazelaw03_ResetClosed.l1
      repeat' first
      | (with_reducible exact ih0 _ _ _ _)
      | (with_reducible exact ih1 _ _ _ _ _)
      | (with_reducible exact ih2 _ _ _ _ _ _)
      | (with_reducible exact ih3 _ _ _ _ _ _)
      | (with_reducible exact ih4 _ _ _ _ _ _)
      | (with_reducible exact ih5 _ _ _ _ _ _ _)
      | (with_reducible exact mizmazelaw03_awake.mono _)
      | (with_reducible exact mizmazeref01_Valid.mono _ _)
      | (with_reducible exact reset_Apart.mono _ _)
      | (with_reducible exact reset_Merge.mono _ _ _ _)
      | (with_reducible exact reset_Reset.mono _ _)
      | (with_reducible exact LeO.refl _)
      | (with_reducible exact LeO.none _)
      | (with_reducible refine LeO.ite ?_ ?_)
      | (with_reducible refine LeO.bind ?_ (fun _ => ?_))
      | exact ih0 _ _ _ _
      | exact ih1 _ _ _ _ _
      | exact ih2 _ _ _ _ _ _
      | exact ih3 _ _ _ _ _ _
      | exact ih4 _ _ _ _ _ _
      | exact ih5 _ _ _ _ _ _ _
      | exact mizmazelaw03_awake.mono _
      | exact mizmazeref01_Valid.mono _ _
      | exact reset_Apart.mono _ _
      | exact reset_Merge.mono _ _ _ _
      | exact reset_Reset.mono _ _
      | exact LeO.none _
      | refine LeO.ite ?_ ?_
      | refine LeO.bind ?_ (fun _ => ?_)
    · intro y0 y1 y2 y3 y4 y5
      unfold mizmazelaw03_ResetClosed.l2
      repeat' first
      | (with_reducible exact ih0 _ _ _ _)
      | (with_reducible exact ih1 _ _ _ _ _)
      | (with_reducible exact ih2 _ _ _ _ _ _)
      | (with_reducible exact ih3 _ _ _ _ _ _)
      | (with_reducible exact ih4 _ _ _ _ _ _)
      | (with_reducible exact ih5 _ _ _ _ _ _ _)
      | (with_reducible exact mizmazelaw03_awake.mono _)
      | (with_reducible exact mizmazeref01_Valid.mono _ _)
      | (with_reducible exact reset_Apart.mono _ _)
      | (with_reducible exact reset_Merge.mono _ _ _ _)
      | (with_reducible exact reset_Reset.mono _ _)
      | (with_reducible exact LeO.refl _)
      | (with_reducible exact LeO.none _)
      | (with_reducible refine LeO.ite ?_ ?_)
      | (with_reducible refine LeO.bind ?_ (fun _ => ?_))
      | exact ih0 _ _ _ _
      | exact ih1 _ _ _ _ _
      | exact ih2 _ _ _ _ _ _
      | exact ih3 _ _ _ _ _ _
      | exact ih4 _ _ _ _ _ _
      | exact ih5 _ _ _ _ _ _ _
      | exact mizmazelaw03_awake.mono _
      | exact mizmazeref01_Valid.mono _ _
      | exact reset_Apart.mono _ _
      | exact reset_Merge.mono _ _ _ _
      | exact reset_Reset.mono _ _
      | exact LeO.none _
      | refine LeO.ite ?_ ?_
      | refine LeO.bind ?_ (fun _ => ?_)
    · intro y0 y1 y2 y3 y4 y5 y6
      unfold mizmazelaw03_ResetClosed.l3
      repeat' first
      | (with_reducible exact ih0 _ _ _ _)
      | (with_reducible exact ih1 _ _ _ _ _)
      | (with_reducible exact ih2 _ _ _ _ _ _)
      | (with_reducible exact ih3 _ _ _ _ _ _)
      | (with_reducible exact ih4 _ _ _ _ _ _)
      | (with_reducible exact ih5 _ _ _ _ _ _ _)
      | (with_reducible exact mizmazelaw03_awake.mono _)
      | (with_reducible exact mizmazeref01_Valid.mono _ _)
      | (with_reducible exact reset_Apart.mono _ _)
      | (with_reducible exact reset_Merge.mono _ _ _ _)
      | (with_reducible exact reset_Reset.mono _ _)
      | (with_reducible exact LeO.refl _)
      | (with_reducible exact LeO.none _)
      | (with_reducible refine LeO.ite ?_ ?_)
      | (with_reducible refine LeO.bind ?_ (fun _ => ?_))
      | exact ih0 _ _ _ _
      | exact ih1 _ _ _ _ _
      | exact ih2 _ _ _ _ _ _
      | exact ih3 _ _ _ _ _ _
      | exact ih4 _ _ _ _ _ _
      | exact ih5 _ _ _ _ _ _ _
      | exact mizmazelaw03_awake.mono _
      | exact mizmazeref01_Valid.mono _ _
      | exact reset_Apart.mono _ _
      | exact reset_Merge.mono _ _ _ _
      | exact reset_Reset.mono _ _
      | exact LeO.none _
      | refine LeO.ite ?_ ?_
      | refine LeO.bind ?_ (fun _ => ?_)
theorem mizmazelaw03_ResetClosed.mono : ∀ a0 a1 a2 k, LeO (mizmazelaw03_ResetClosed.f k a0 a1 a2) (mizmazelaw03_ResetClosed.f (k + 1) a0 a1 a2) := by
  intro a0 a1 a2 k
  obtain ⟨ih0, ih1, ih2, ih3, ih4, ih5⟩ := mizmazelaw03_ResetClosed.mono_l k
  unfold mizmazelaw03_ResetClosed.f
  repeat' first
      | (with_reducible exact ih0 _ _ _ _)
      | (with_reducible exact ih1 _ _ _ _ _)
      | (with_reducible exact ih2 _ _ _ _ _ _)
      | (with_reducible exact ih3 _ _ _ _ _ _)
      | (with_reducible exact ih4 _ _ _ _ _ _)
      | (with_reducible exact ih5 _ _ _ _ _ _ _)
      | (with_reducible exact mizmazelaw03_awake.mono _)
      | (with_reducible exact mizmazeref01_Valid.mono _ _)
      | (with_reducible exact reset_Apart.mono _ _)
      | (with_reducible exact reset_Merge.mono _ _ _ _)
      | (with_reducible exact reset_Reset.mono _ _)
      | (with_reducible exact LeO.refl _)
      | (with_reducible exact LeO.none _)
      | (with_reducible refine LeO.ite ?_ ?_)
      | (with_reducible refine LeO.bind ?_ (fun _ => ?_))
      | exact ih0 _ _ _ _
      | exact ih1 _ _ _ _ _
      | exact ih2 _ _ _ _ _ _
      | exact ih3 _ _ _ _ _ _
      | exact ih4 _ _ _ _ _ _
      | exact ih5 _ _ _ _ _ _ _
      | exact mizmazelaw03_awake.mono _
      | exact mizmazeref01_Valid.mono _ _
      | exact reset_Apart.mono _ _
      | exact reset_Merge.mono _ _ _ _
      | exact reset_Reset.mono _ _
      | exact LeO.none _
      | refine LeO.ite ?_ ?_
      | refine LeO.bind ?_ (fun _ => ?_)
def mizmazelaw03_ResetClosed.T15 : Bool × List (List Nat × List Nat) := (true, [([], []), ([], []), ([], []), ([1, 2], [1, 2]), ([3], [3]), ([4], [4]), ([0, 5], [0, 5]), ([6], [6]), ([7, 6], [7]), ([8], [8]), ([8], [8]), ([8], [8]), ([10, 11, 8], [8, 10, 11]), ([12, 8], [8, 12]), ([13, 8], [8, 13]), ([9, 14, 8, 8], [8, 9, 14]), ([15, 8], [8, 15]), ([8, 16], [8, 16]), ([17, 15], [17]), ([18], [18]), ([18], [18]), ([19, 20, 18], [18, 19, 20]), ([21, 18], [18, 21]), ([22, 18], [18, 22]), ([18], [18]), ([18], [18]), ([24, 25, 18], [18, 24, 25]), ([26, 18], [18, 26]), ([27, 18], [18, 27]), ([23, 28, 18], [18, 23, 28]), ([18, 29], [18, 29])])
def mizmazelaw03_ResetClosed.B15 : List Nat := [0, 0, 0, 6, 14, 30, 63, 127, 255, 511, 511, 511, 3583, 7679, 15871, 32767, 65535, 131071, 262143, 524287, 524287, 2097151, 4194303, 8388607, 524287, 524287, 50855935, 117964799, 252182527, 536870911, 1073741823]
theorem mizmazelaw03_ResetClosed.tab15 : rtab .any (opsOf Try.f10 15) = mizmazelaw03_ResetClosed.T15 := by kernel_rfl
theorem mizmazelaw03_ResetClosed.bits15 : waitsOk mizmazelaw03_ResetClosed.T15.2 mizmazelaw03_ResetClosed.B15 = true := by kernel_rfl
def mizmazelaw03_ResetClosed.T24 : Bool × List (List Nat × List Nat) := (true, [([], []), ([], []), ([1], [1]), ([], []), ([], []), ([3, 4], [3, 4]), ([5], [5]), ([6], [6]), ([2, 7], [2, 7]), ([8], [8]), ([], []), ([9, 10], [9, 10]), ([11], [11]), ([0, 12], [0, 12]), ([13], [13]), ([], []), ([15], [15]), ([], []), ([], []), ([17, 18], [17, 18]), ([19], [19]), ([20], [20]), ([16, 21], [16, 21]), ([22], [22]), ([], []), ([23, 24], [23, 24]), ([25], [25]), ([14, 26], [14, 26]), ([27], [27]), ([28], [28])])
def mizmazelaw03_ResetClosed.B24 : List Nat := [0, 0, 2, 0, 0, 24, 56, 120, 254, 510, 0, 2046, 4094, 8191, 16383, 0, 32768, 0, 0, 393216, 917504, 1966080, 4161536, 8355840, 0, 33521664, 67076096, 134217727, 268435455, 536870911]
theorem mizmazelaw03_ResetClosed.tab24 : rtab .any (opsOf Try.f10 24) = mizmazelaw03_ResetClosed.T24 := by kernel_rfl
theorem mizmazelaw03_ResetClosed.bits24 : waitsOk mizmazelaw03_ResetClosed.T24.2 mizmazelaw03_ResetClosed.B24 = true := by kernel_rfl
def lrc0 : Array Bool := #[false, true, false, false, false, false, false, false, false, false, false, false, false, false, false, false, false, false, false, false, false, false, false, false, false, false, false, false, false, false, false]
def lrc1 : Array Bool := #[false, true, true, false, false, false, false, false, false, false, false, false, false, false, false, false, false, false, false, false, false, false, false, false, false, false, false, false, false, false, false]
def lrc2 : Array Bool := #[false, true, true, true, false, false, false, false, false, false, false, false, false, false, false, false, false, false, false, false, false, false, false, false, false, false, false, false, false, false, false]
def lrc3 : Array Bool := #[false, true, true, true, true, false, false, false, false, false, false, false, false, false, false, false, false, false, false, false, false, false, false, false, false, false, false, false, false, false, false]
def lrc4 : Array Bool := #[true, true, true, true, true, false, false, false, false, false, false, false, false, false, false, false, false, false, false, false, false, false, false, false, false, false, false, false, false, false, false]
def lrc5 : Array Bool := #[true, true, true, true, true, true, false, false, false, false, false, false, false, false, false, false, false, false, false, false, false, false, false, false, false, false, false, false, false, false, false]
def lrc6 : Array Bool := #[true, true, true, true, true, true, true, false, false, false, false, false, false, false, false, false, false, false, false, false, false, false, false, false, false, false, false, false, false, false, false]
def lrc7 : Array Bool := #[true, true, true, true, true, true, true, true, false, false, false, false, false, false, false, false, false, false, false, false, false, false, false, false, false, false, false, false, false, false, false]
def lrc8 : Array Bool := #[true, true, true, true, true, true, true, true, true, false, false, false, false, false, false, false, false, false, false, false, false, false, false, false, false, false, false, false, false, false, false]
def lrc9 : Array Bool := #[true, true, true, true, true, true, true, true, true, false, true, false, false, false, false, false, false, false, false, false, false, false, false, false, false, false, false, false, false, false, false]
def lrc10 : Array Bool := #[true, true, true, true, true, true, true, true, true, false, true, true, false, false, false, false, false, false, false, false, false, false, false, false, false, false, false, false, false, false, false]
def lrc11 : Array Bool := #[true, true, true, true, true, true, true, true, true, false, true, true, true, false, false, false, false, false, false, false, false, false, false, false, false, false, false, false, false, false, false]
def lrc12 : Array Bool := #[true, true, true, true, true, true, true, true, true, false, true, true, true, true, false, false, false, false, false, false, false, false, false, false, false, false, false, false, false, false, false]
def lrc13 : Array Bool := #[true, true, true, true, true, true, true, true, true, true, true, true, true, true, false, false, false, false, false, false, false, false, false, false, false, false, false, false, false, false, false]
def lrc14 : Array Bool := #[true, true, true, true, true, true, true, true, true, true, true, true, true, true, true, false, false, false, false, false, false, false, false, false, false, false, false, false, false, false, false]
def lrc15 : Array Bool := #[true, true, true, true, true, true, true, true, true, true, true, true, true, true, true, true, false, false, false, false, false, false, false, false, false, false, false, false, false, false, false]
def lrc16 : Array Bool := #[true, true, true, true, true, true, true, true, true, true, true, true, true, true, true, true, true, false, false, false, false, false, false, false, false, false, false, false, false, false, false]
def lrc17 : Array Bool := #[true, true, true, true, true, true, true, true, true, true, true, true, true, true, true, true, true, true, false, false, false, false, false, false, false, false, false, false, false, false, false]
def lrc18 : Array Bool := #[true, true, true, true, true, true, true, true, true, true, true, true, true, true, true, true, true, true, true, false, false, false, false, false, false, false, false, false, false, false, false]
def lrc19 : Array Bool := #[true, true, true, true, true, true, true, true, true, true, true, true, true, true, true, true, true, true, true, true, false, false, false, false, false, false, false, false, false, false, false]
def lrc20 : Array Bool := #[true, true, true, true, true, true, true, true, true, true, true, true, true, true, true, true, true, true, true, true, true, false, false, false, false, false, false, false, false, false, false]
def lrc21 : Array Bool := #[true, true, true, true, true, true, true, true, true, true, true, true, true, true, true, true, true, true, true, true, true, true, false, false, false, false, false, false, false, false, false]
def lrc22 : Array Bool := #[true, true, true, true, true, true, true, true, true, true, true, true, true, true, true, true, true, true, true, true, true, true, true, false, false, false, false, false, false, false, false]
def lrc23 : Array Bool := #[true, true, true, true, true, true, true, true, true, true, true, true, true, true, true, true, true, true, true, true, true, true, true, false, true, false, false, false, false, false, false]
def lrc24 : Array Bool := #[true, true, true, true, true, true, true, true, true, true, true, true, true, true, true, true, true, true, true, true, true, true, true, false, true, true, false, false, false, false, false]
def lrc25 : Array Bool := #[true, true, true, true, true, true, true, true, true, true, true, true, true, true, true, true, true, true, true, true, true, true, true, false, true, true, true, false, false, false, false]
def lrc26 : Array Bool := #[true, true, true, true, true, true, true, true, true, true, true, true, true, true, true, true, true, true, true, true, true, true, true, false, true, true, true, true, false, false, false]
def lrc27 : Array Bool := #[true, true, true, true, true, true, true, true, true, true, true, true, true, true, true, true, true, true, true, true, true, true, true, true, true, true, true, true, false, false, false]
def lrc28 : Array Bool := #[true, true, true, true, true, true, true, true, true, true, true, true, true, true, true, true, true, true, true, true, true, true, true, true, true, true, true, true, true, false, false]
def lrc29 : Array Bool := #[true, true, true, true, true, true, true, true, true, true, true, true, true, true, true, true, true, true, true, true, true, true, true, true, true, true, true, true, true, true, false]
def lrc30 : Array Bool := #[true, true, true, true, true, true, true, true, true, true, true, true, true, true, true, true, true, true, true, true, true, true, true, true, true, true, true, true, true, true, true]
def lrc31 : Array Bool := #[true, false, false, false, false, false, false, false, false, false, false, false, false, false, false, false, false, false, false, false, false, false, false, false, false, false, false, false, false, false]
def lrc32 : Array Bool := #[true, true, false, false, false, false, false, false, false, false, false, false, false, false, false, false, false, false, false, false, false, false, false, false, false, false, false, false, false, false]
def lrc33 : Array Bool := #[true, true, true, false, false, false, false, false, false, false, false, false, false, false, false, false, false, false, false, false, false, false, false, false, false, false, false, false, false, false]
def lrc34 : Array Bool := #[true, true, true, true, false, false, false, false, false, false, false, false, false, false, false, false, false, false, false, false, false, false, false, false, false, false, false, false, false, false]
def lrc35 : Array Bool := #[true, true, true, true, true, false, false, false, false, false, false, false, false, false, false, false, false, false, false, false, false, false, false, false, false, false, false, false, false, false]
def lrc36 : Array Bool := #[true, true, true, true, true, false, false, false, true, false, false, false, false, false, false, false, false, false, false, false, false, false, false, false, false, false, false, false, false, false]
def lrc37 : Array Bool := #[true, true, true, true, true, false, false, false, true, true, false, false, false, false, false, false, false, false, false, false, false, false, false, false, false, false, false, false, false, false]
def lrc38 : Array Bool := #[true, true, true, true, true, false, false, false, true, true, true, false, false, false, false, false, false, false, false, false, false, false, false, false, false, false, false, false, false, false]
def lrc39 : Array Bool := #[true, true, true, true, true, false, false, false, true, true, true, true, false, false, false, false, false, false, false, false, false, false, false, false, false, false, false, false, false, false]
def lrc40 : Array Bool := #[true, true, true, true, true, false, false, false, true, true, true, true, false, true, false, false, false, false, false, false, false, false, false, false, false, false, false, false, false, false]
def lrc41 : Array Bool := #[true, true, true, true, true, false, false, false, true, true, true, true, false, true, true, false, false, false, false, false, false, false, false, false, false, false, false, false, false, false]
def lrc42 : Array Bool := #[true, true, true, true, true, false, false, false, true, true, true, true, false, true, true, true, false, false, false, false, false, false, false, false, false, false, false, false, false, false]
def lrc43 : Array Bool := #[true, true, true, true, true, false, false, false, true, true, true, true, false, true, true, true, true, false, false, false, false, false, false, false, false, false, false, false, false, false]
def lrc44 : Array Bool := #[true, true, true, true, true, false, false, false, true, true, true, true, false, true, true, true, true, true, false, false, false, false, false, false, false, false, false, false, false, false]
def lrc45 : Array Bool := #[true, true, true, true, true, false, false, false, true, true, true, true, false, true, true, true, true, true, false, false, false, true, false, false, false, false, false, false, false, false]
def lrc46 : Array Bool := #[true, true, true, true, true, false, false, false, true, true, true, true, false, true, true, true, true, true, false, false, false, true, true, false, false, false, false, false, false, false]
def lrc47 : Array Bool := #[true, true, true, true, true, false, false, false, true, true, true, true, false, true, true, true, true, true, false, false, false, true, true, true, false, false, false, false, false, false]
def lrc48 : Array Bool := #[true, true, true, true, true, false, false, false, true, true, true, true, false, true, true, true, true, true, false, false, false, true, true, true, true, false, false, false, false, false]
def lrc49 : Array Bool := #[true, true, true, true, true, true, false, false, true, true, true, true, false, true, true, true, true, true, false, false, false, true, true, true, true, false, false, false, false, false]
def lrc50 : Array Bool := #[true, true, true, true, true, true, true, false, true, true, true, true, false, true, true, true, true, true, false, false, false, true, true, true, true, false, false, false, false, false]
def lrc51 : Array Bool := #[true, true, true, true, true, true, true, true, true, true, true, true, false, true, true, true, true, true, false, false, false, true, true, true, true, false, false, false, false, false]
def lrc52 : Array Bool := #[true, true, true, true, true, true, true, true, true, true, true, true, true, true, true, true, true, true, false, false, false, true, true, true, true, false, false, false, false, false]
def lrc53 : Array Bool := #[true, true, true, true, true, true, true, true, true, true, true, true, true, true, true, true, true, true, true, false, false, true, true, true, true, false, false, false, false, false]
def lrc54 : Array Bool := #[true, true, true, true, true, true, true, true, true, true, true, true, true, true, true, true, true, true, true, true, false, true, true, true, true, false, false, false, false, false]
def lrc55 : Array Bool := #[true, true, true, true, true, true, true, true, true, true, true, true, true, true, true, true, true, true, true, true, true, true, true, true, true, false, false, false, false, false]
def lrc56 : Array Bool := #[true, true, true, true, true, true, true, true, true, true, true, true, true, true, true, true, true, true, true, true, true, true, true, true, true, true, false, false, false, false]
def lrc57 : Array Bool := #[true, true, true, true, true, true, true, true, true, true, true, true, true, true, true, true, true, true, true, true, true, true, true, true, true, true, true, false, false, false]
def lrc58 : Array Bool := #[true, true, true, true, true, true, true, true, true, true, true, true, true, true, true, true, true, true, true, true, true, true, true, true, true, true, true, true, false, false]
def lrc59 : Array Bool := #[true, true, true, true, true, true, true, true, true, true, true, true, true, true, true, true, true, true, true, true, true, true, true, true, true, true, true, true, true, false]
def lrc60 : Array Bool := #[true, true, true, true, true, true, true, true, true, true, true, true, true, true, true, true, true, true, true, true, true, true, true, true, true, true, true, true, true, true]
def lrc61 : Array Bool := #[true, true, true, true, true, true, true, true, true, true, true, true, true, true, true, true, true, true, true, true, true, true, true, true, false, false, false, false, false, false, false]
def lrc62 : Array Bool := #[true, true, true, true, true, true, true, true, true, true, true, true, true, true, true, true, true, true, true, true, true, true, true, true, true, false, false, false, false, false, false]
def lrc63 : Array Bool := #[true, true, true, true, true, true, true, true, true, true, true, true, true, true, true, true, true, true, true, true, true, true, true, true, true, true, false, false, false, false, false]
def lrc64 : Array Bool := #[true, true, true, true, true, true, true, true, true, true, true, true, true, true, true, true, true, true, true, true, true, true, true, true, true, true, true, false, false, false, false]
def lrc65 : Array Bool := #[true, true, true, true, true, true, true, true, true, true, false, false, false, false, false, false, false, false, false, false, false, false, false, false, false, false, false, false, false, false, false]
def lrc66 : Array Bool := #[true, true, true, true, true, true, true, true, true, true, true, false, false, false, false, false, false, false, false, false, false, false, false, false, false, false, false, false, false, false, false]
def lrc67 : Array Bool := #[true, true, true, true, true, true, true, true, true, true, true, true, false, false, false, false, false, false, false, false, false, false, false, false, false, false, false, false, false, false, false]
def lrc68 : Array Bool := #[true, true, true, true, true, true, true, true, true, true, true, true, true, false, false, false, false, false, false, false, false, false, false, false, false, false, false, false, false, false, false]
def lrc69 : Array Bool := #[true, true, false, true, false, false, false, false, false, false, false, false, false, false, false, false, false, false, false, false, false, false, false, false, false, false, false, false, false, false]
def lrc70 : Array Bool := #[true, true, false, true, true, false, false, false, false, false, false, false, false, false, false, false, false, false, false, false, false, false, false, false, false, false, false, false, false, false]
def lrc71 : Array Bool := #[true, true, false, true, true, true, false, false, false, false, false, false, false, false, false, false, false, false, false, false, false, false, false, false, false, false, false, false, false, false]
def lrc72 : Array Bool := #[true, true, false, true, true, true, true, false, false, false, false, false, false, false, false, false, false, false, false, false, false, false, false, false, false, false, false, false, false, false]
def lrc73 : Array Bool := #[true, true, false, true, true, true, true, false, false, false, true, false, false, false, false, false, false, false, false, false, false, false, false, false, false, false, false, false, false, false]
def lrc74 : Array Bool := #[true, true, false, true, true, true, true, false, false, false, true, false, false, false, false, true, false, false, false, false, false, false, false, false, false, false, false, false, false, false]
def lrc75 : Array Bool := #[true, true, false, true, true, true, true, false, false, false, true, false, false, false, false, true, false, true, false, false, false, false, false, false, false, false, false, false, false, false]
def lrc76 : Array Bool := #[true, true, false, true, true, true, true, false, false, false, true, false, false, false, false, true, false, true, true, false, false, false, false, false, false, false, false, false, false, false]
def lrc77 : Array Bool := #[true, true, false, true, true, true, true, false, false, false, true, false, false, false, false, true, false, true, true, true, false, false, false, false, false, false, false, false, false, false]
def lrc78 : Array Bool := #[true, true, false, true, true, true, true, false, false, false, true, false, false, false, false, true, false, true, true, true, true, false, false, false, false, false, false, false, false, false]
def lrc79 : Array Bool := #[true, true, false, true, true, true, true, false, false, false, true, false, false, false, false, true, false, true, true, true, true, false, false, false, true, false, false, false, false, false]
def lrc80 : Array Bool := #[true, true, true, true, true, true, true, false, false, false, true, false, false, false, false, true, false, true, true, true, true, false, false, false, true, false, false, false, false, false]
def lrc81 : Array Bool := #[true, true, true, true, true, true, true, true, false, false, true, false, false, false, false, true, false, true, true, true, true, false, false, false, true, false, false, false, false, false]
def lrc82 : Array Bool := #[true, true, true, true, true, true, true, true, true, false, true, false, false, false, false, true, false, true, true, true, true, false, false, false, true, false, false, false, false, false]
def lrc83 : Array Bool := #[true, true, true, true, true, true, true, true, true, true, true, false, false, false, false, true, false, true, true, true, true, false, false, false, true, false, false, false, false, false]
def lrc84 : Array Bool := #[true, true, true, true, true, true, true, true, true, true, true, true, false, false, false, true, false, true, true, true, true, false, false, false, true, false, false, false, false, false]
def lrc85 : Array Bool := #[true, true, true, true, true, true, true, true, true, true, true, true, true, false, false, true, false, true, true, true, true, false, false, false, true, false, false, false, false, false]
def lrc86 : Array Bool := #[true, true, true, true, true, true, true, true, true, true, true, true, true, true, false, true, false, true, true, true, true, false, false, false, true, false, false, false, false, false]
def lrc87 : Array Bool := #[true, true, true, true, true, true, true, true, true, true, true, true, true, true, true, true, false, true, true, true, true, false, false, false, true, false, false, false, false, false]
def lrc88 : Array Bool := #[true, true, true, true, true, true, true, true, true, true, true, true, true, true, true, true, true, true, true, true, true, false, false, false, true, false, false, false, false, false]
def lrc89 : Array Bool := #[true, true, true, true, true, true, true, true, true, true, true, true, true, true, true, true, true, true, true, true, true, true, false, false, true, false, false, false, false, false]
def lrc90 : Array Bool := #[true, true, true, true, true, true, true, true, true, true, true, true, true, true, true, true, true, true, true, true, true, true, true, false, true, false, false, false, false, false]
set_option maxHeartbeats 8000000 in
set_option maxRecDepth 100000 in
theorem mizmazelaw03_ResetClosed.calls (k : Nat) (A0_0 : Option Addr) (c0_0 : Nat) (l0_0 : List (List Int)) (a1 : Int) (a2 : Int) (r : Bool) (w : World) (hr0_0 : Kd.C (Kd.slice 3 (Kd.int .i64)) w A0_0 l0_0.length l0_0) (hc0_0 : l0_0.length ≤ c0_0) (h : mizmazelaw03_ResetClosed.f k l0_0 a1 a2 = some r) :
    Calls Try.prog 10 #[.agg #[.slice A0_0 l0_0.length c0_0], .int .i64 a1, .int .i64 a2] w fun e w' => e = .returned (.bool r) ∧ Below w.heap.size w w' := by
 have hu24 := Try.underlying24
 have HR0_0 := Aside0.mk hr0_0
 have HC0_0 := Aside0.mk hc0_0
 clear hr0_0 hc0_0
 have HB := Aside0.mk (Below.refl w.heap.size w)
 have H : ((mizmazeref01_Valid.f k l0_0).bind fun t746 => (if t746 = true then ((mizmazeref01_State.f l0_0 a1).bind fun t747 => (if t747 = true then ((mizmazeref01_State.f l0_0 a2).bind fun t748 => (mizmazelaw03_ResetClosed.j0 k a1 a2 (!t748) l0_0)) else (mizmazelaw03_ResetClosed.j0 k a1 a2 true l0_0))) else (mizmazelaw03_ResetClosed.j0 k a1 a2 true l0_0))) = some r := h
 clear h
 have HC4 := Aside0.mk H
 clear H
 go_enter Try.func10, Try.ntmps10
 go_upto_region 1 with (first | ((with_reducible refine gate_dst (N := 3) rfl ?_); (try (refine gate_guard (by rfl) ?_; dsimp only)); refine box_event ?hg (N := 3) ?hd (cs := #[.slice A0_0 l0_0.length c0_0]) (t := 24) ?hr ?_; (case hd => rfl); (case hg => rfl); (case hr => first | (go_simp; done) | (go_simp; rfl)); intro gb745 hg w5 hbox hb; have n0_ := Aside0.mk (below_step (by repeat (first | (with_reducible first | exact HB.out | apply below_alloc | apply pw_below_drewN | apply below_drew1) | exact HB.out)) hb); have n1_ := Aside0.mk (hbox); have n2_ := Aside0.mk ((by rw [hg]; exact (below_size (by repeat (first | (with_reducible first | exact HB.out | apply below_alloc | apply pw_below_drewN | apply below_drew1) | exact HB.out))) : w.heap.size ≤ gb745)); have n3_ := Aside0.mk ((by rw [hg]; exact (below_size (by repeat (first | (with_reducible first | exact HB.out | apply below_alloc | apply pw_below_drewN | apply below_drew1) | exact HB.out))) : w.heap.size ≤ gb745)); clear HB; have HB := n0_; have BK745 := n1_; have GW745 := n2_; have GE745 := n3_; clear n0_ n1_ n2_ n3_; clear hb hbox hg))
 (try simp only [Act.put, List.setIfInBounds_toArray, List.set_cons_zero, List.set_cons_succ])
 go_cut [30] (fun v30 wc => ∃ (kq : Nat) (x30_3 : Bool), v30 = .bool x30_3 ∧ Aside0 (mizmazelaw03_ResetClosed.j0 kq a1 a2 x30_3 l0_0 = some r) ∧ Aside0 (kq ≤ k) ∧ Aside0 (wc.heap[gb745]? = some (.cells #[(.slice A0_0 l0_0.length c0_0)] 24 (0, 0))) ∧ Aside0 (Below w.heap.size w wc))
 case first =>
  have H := HC4.out
  clear HC4
  replace H := Option.bind_eq_some_iff.mp H
  obtain ⟨t746, A60, H⟩ := H
  replace H : (if t746 = true then ((mizmazeref01_State.f l0_0 a1).bind fun t747 => (if t747 = true then ((mizmazeref01_State.f l0_0 a2).bind fun t748 => (mizmazelaw03_ResetClosed.j0 k a1 a2 (!t748) l0_0)) else (mizmazelaw03_ResetClosed.j0 k a1 a2 true l0_0))) else (mizmazelaw03_ResetClosed.j0 k a1 a2 true l0_0)) = some r := H
  have A6 := Aside0.mk A60
  clear A60
  by_cases c7 : t746 = true
  rotate_left
  ·replace c7 := Bool.eq_false_iff.mpr c7
   subst c7
   have H1 : (mizmazelaw03_ResetClosed.j0 k a1 a2 true l0_0) = some r := by rw [if_neg (show ¬ (false = true) by decide)] at H; exact H
   clear H
   have H := H1
   clear H1
   have H' := Aside0.mk H
   clear H
   have hcz21_0 : w5.cell? ⟨gb745, 0, none⟩ = some (.slice A0_0 l0_0.length c0_0) := (blk_cell BK745.out 0).trans rfl
   have hfz21_0 := blk_frozen BK745.out 0
   go_wp2_with (first | ((with_reducible refine gate_callee (f := 16) rfl ?_); refine goesL_ (some 17) rfl rfl Try.func16 (by kernel_rfl) rfl #[.agg #[.slice A0_0 l0_0.length c0_0]] rfl (by (try simp only [List.map_toArray, List.map_cons, List.map_nil]); first | done | rfl | (simp only [List.length_drop, List.length_take]; rfl)) ?_; (with_reducible refine (mizmazeref01_Valid.calls k _ _ l0_0 false _ ?side1 ?side2 A6.out).mono ?_); (case side1 => repeat (first | exact (Kd.C_below HR0_0.out HB.out) | (with_reducible refine Kd.C_alloc ?_ _) | (with_reducible refine Kd.C_drewN ?_ _) | (with_reducible refine Kd.C_drew ?_))); (case side2 => exact HC0_0.out); rintro e w22 ⟨rfl, hb⟩; refine ⟨_, rfl, ?_⟩; have n0_ := Aside0.mk (blk_below (g := gb745) (o := .cells #[.slice A0_0 l0_0.length c0_0] 24 (0, 0)) (by (with_reducible repeat (first | refine blk_drewN ?_ _ | refine blk_drew ?_ | refine blk_alloc ?_ _)); exact BK745.out) hb); have n1_ := Aside0.mk (below_step (by repeat (first | (with_reducible first | exact HB.out | apply below_alloc | apply pw_below_drewN | apply below_drew1 | refine below_set ?_ GE745.out) | exact HB.out)) hb); clear BK745; clear HB; have BK745 := n0_; have HB := n1_; clear n0_ n1_; (try clear hb); (try clear hb2); (try clear hk); (try clear hi)))
   go_meet
   case rel => exact ⟨_, (true), (by first | rfl | (simp; done) | (simp [*]; done)), H', ⟨by first | omega | exact Nat.le_refl _⟩, ⟨by (with_reducible repeat (first | refine blk_drewN ?_ _ | refine blk_drew ?_ | refine blk_alloc ?_ _)); exact BK745.out⟩, ⟨by repeat (first | (with_reducible first | exact HB.out | apply below_alloc | apply pw_below_drewN | apply below_drew1 | refine below_set ?_ GE745.out) | exact HB.out)⟩⟩
  subst c7
  have H1 : ((mizmazeref01_State.f l0_0 a1).bind fun t747 => (if t747 = true then ((mizmazeref01_State.f l0_0 a2).bind fun t748 => (mizmazelaw03_ResetClosed.j0 k a1 a2 (!t748) l0_0)) else (mizmazelaw03_ResetClosed.j0 k a1 a2 true l0_0))) = some r := by rw [if_pos rfl] at H; exact H
  clear H
  have H := H1
  clear H1
  replace H := Option.bind_eq_some_iff.mp H
  obtain ⟨t747, A80, H⟩ := H
  replace H : (if t747 = true then ((mizmazeref01_State.f l0_0 a2).bind fun t748 => (mizmazelaw03_ResetClosed.j0 k a1 a2 (!t748) l0_0)) else (mizmazelaw03_ResetClosed.j0 k a1 a2 true l0_0)) = some r := H
  have A8 := Aside0.mk A80
  clear A80
  by_cases c9 : t747 = true
  rotate_left
  ·replace c9 := Bool.eq_false_iff.mpr c9
   subst c9
   have H1 : (mizmazelaw03_ResetClosed.j0 k a1 a2 true l0_0) = some r := by rw [if_neg (show ¬ (false = true) by decide)] at H; exact H
   clear H
   have H := H1
   clear H1
   have H' := Aside0.mk H
   clear H
   have hcz17_0 : w5.cell? ⟨gb745, 0, none⟩ = some (.slice A0_0 l0_0.length c0_0) := (blk_cell BK745.out 0).trans rfl
   have hfz17_0 := blk_frozen BK745.out 0
   go_wp2_with (first | ((with_reducible refine gate_callee (f := 16) rfl ?_); refine goesL_ (some 17) rfl rfl Try.func16 (by kernel_rfl) rfl #[.agg #[.slice A0_0 l0_0.length c0_0]] rfl (by (try simp only [List.map_toArray, List.map_cons, List.map_nil]); first | done | rfl | (simp only [List.length_drop, List.length_take]; rfl)) ?_; (with_reducible refine (mizmazeref01_Valid.calls k _ _ l0_0 true _ ?side1 ?side2 A6.out).mono ?_); (case side1 => repeat (first | exact (Kd.C_below HR0_0.out HB.out) | (with_reducible refine Kd.C_alloc ?_ _) | (with_reducible refine Kd.C_drewN ?_ _) | (with_reducible refine Kd.C_drew ?_))); (case side2 => exact HC0_0.out); rintro e w18 ⟨rfl, hb⟩; refine ⟨_, rfl, ?_⟩; have n0_ := Aside0.mk (blk_below (g := gb745) (o := .cells #[.slice A0_0 l0_0.length c0_0] 24 (0, 0)) (by (with_reducible repeat (first | refine blk_drewN ?_ _ | refine blk_drew ?_ | refine blk_alloc ?_ _)); exact BK745.out) hb); have n1_ := Aside0.mk (below_step (by repeat (first | (with_reducible first | exact HB.out | apply below_alloc | apply pw_below_drewN | apply below_drew1 | refine below_set ?_ GE745.out) | exact HB.out)) hb); clear BK745; clear HB; have BK745 := n0_; have HB := n1_; clear n0_ n1_; (try clear hb); (try clear hb2); (try clear hk); (try clear hi); have hcz19_0 : w18.cell? ⟨gb745, 0, none⟩ = some (.slice A0_0 l0_0.length c0_0) := (blk_cell BK745.out 0).trans rfl; have hfz19_0 := blk_frozen BK745.out 0) | (go_at_call 40; (with_reducible refine (mizmazeref01_State.calls _ _ l0_0 a1 false _ ?side1 ?side2 A8.out).mono ?_); (case side1 => repeat (first | exact (Kd.C_below HR0_0.out HB.out) | (with_reducible refine Kd.C_alloc ?_ _) | (with_reducible refine Kd.C_drewN ?_ _) | (with_reducible refine Kd.C_drew ?_))); (case side2 => exact HC0_0.out); rintro e w20 ⟨rfl, hb⟩; have n0_ := Aside0.mk (blk_below (g := gb745) (o := .cells #[.slice A0_0 l0_0.length c0_0] 24 (0, 0)) (by (with_reducible repeat (first | refine blk_drewN ?_ _ | refine blk_drew ?_ | refine blk_alloc ?_ _)); exact BK745.out) hb); have n1_ := Aside0.mk (below_step (by repeat (first | (with_reducible first | exact HB.out | apply below_alloc | apply pw_below_drewN | apply below_drew1 | refine below_set ?_ GE745.out) | exact HB.out)) hb); clear BK745; clear HB; have BK745 := n0_; have HB := n1_; clear n0_ n1_; (try clear hb); (try clear hb2); (try clear hk); (try clear hi)))
   go_meet
   case rel => exact ⟨_, (true), (by first | rfl | (simp; done) | (simp [*]; done)), H', ⟨by first | omega | exact Nat.le_refl _⟩, ⟨by (with_reducible repeat (first | refine blk_drewN ?_ _ | refine blk_drew ?_ | refine blk_alloc ?_ _)); exact BK745.out⟩, ⟨by repeat (first | (with_reducible first | exact HB.out | apply below_alloc | apply pw_below_drewN | apply below_drew1 | refine below_set ?_ GE745.out) | exact HB.out)⟩⟩
  subst c9
  have H1 : ((mizmazeref01_State.f l0_0 a2).bind fun t748 => (mizmazelaw03_ResetClosed.j0 k a1 a2 (!t748) l0_0)) = some r := by rw [if_pos rfl] at H; exact H
  clear H
  have H := H1
  clear H1
  replace H := Option.bind_eq_some_iff.mp H
  obtain ⟨t748, A100, H⟩ := H
  replace H : (mizmazelaw03_ResetClosed.j0 k a1 a2 (!t748) l0_0) = some r := H
  have A10 := Aside0.mk A100
  clear A100
  have H' := Aside0.mk H
  clear H
  have hcz11_0 : w5.cell? ⟨gb745, 0, none⟩ = some (.slice A0_0 l0_0.length c0_0) := (blk_cell BK745.out 0).trans rfl
  have hfz11_0 := blk_frozen BK745.out 0
  go_wp2_with (first | ((with_reducible refine gate_callee (f := 16) rfl ?_); refine goesL_ (some 17) rfl rfl Try.func16 (by kernel_rfl) rfl #[.agg #[.slice A0_0 l0_0.length c0_0]] rfl (by (try simp only [List.map_toArray, List.map_cons, List.map_nil]); first | done | rfl | (simp only [List.length_drop, List.length_take]; rfl)) ?_; (with_reducible refine (mizmazeref01_Valid.calls k _ _ l0_0 true _ ?side1 ?side2 A6.out).mono ?_); (case side1 => repeat (first | exact (Kd.C_below HR0_0.out HB.out) | (with_reducible refine Kd.C_alloc ?_ _) | (with_reducible refine Kd.C_drewN ?_ _) | (with_reducible refine Kd.C_drew ?_))); (case side2 => exact HC0_0.out); rintro e w12 ⟨rfl, hb⟩; refine ⟨_, rfl, ?_⟩; have n0_ := Aside0.mk (blk_below (g := gb745) (o := .cells #[.slice A0_0 l0_0.length c0_0] 24 (0, 0)) (by (with_reducible repeat (first | refine blk_drewN ?_ _ | refine blk_drew ?_ | refine blk_alloc ?_ _)); exact BK745.out) hb); have n1_ := Aside0.mk (below_step (by repeat (first | (with_reducible first | exact HB.out | apply below_alloc | apply pw_below_drewN | apply below_drew1 | refine below_set ?_ GE745.out) | exact HB.out)) hb); clear BK745; clear HB; have BK745 := n0_; have HB := n1_; clear n0_ n1_; (try clear hb); (try clear hb2); (try clear hk); (try clear hi); have hcz13_0 : w12.cell? ⟨gb745, 0, none⟩ = some (.slice A0_0 l0_0.length c0_0) := (blk_cell BK745.out 0).trans rfl; have hfz13_0 := blk_frozen BK745.out 0) | (go_at_call 40; (with_reducible refine (mizmazeref01_State.calls _ _ l0_0 a1 true _ ?side1 ?side2 A8.out).mono ?_); (case side1 => repeat (first | exact (Kd.C_below HR0_0.out HB.out) | (with_reducible refine Kd.C_alloc ?_ _) | (with_reducible refine Kd.C_drewN ?_ _) | (with_reducible refine Kd.C_drew ?_))); (case side2 => exact HC0_0.out); rintro e w14 ⟨rfl, hb⟩; have n0_ := Aside0.mk (blk_below (g := gb745) (o := .cells #[.slice A0_0 l0_0.length c0_0] 24 (0, 0)) (by (with_reducible repeat (first | refine blk_drewN ?_ _ | refine blk_drew ?_ | refine blk_alloc ?_ _)); exact BK745.out) hb); have n1_ := Aside0.mk (below_step (by repeat (first | (with_reducible first | exact HB.out | apply below_alloc | apply pw_below_drewN | apply below_drew1 | refine below_set ?_ GE745.out) | exact HB.out)) hb); clear BK745; clear HB; have BK745 := n0_; have HB := n1_; clear n0_ n1_; (try clear hb); (try clear hb2); (try clear hk); (try clear hi); have hcz15_0 : w14.cell? ⟨gb745, 0, none⟩ = some (.slice A0_0 l0_0.length c0_0) := (blk_cell BK745.out 0).trans rfl; have hfz15_0 := blk_frozen BK745.out 0) | (go_at_call 40; (with_reducible refine (mizmazeref01_State.calls _ _ l0_0 a2 t748 _ ?side1 ?side2 A10.out).mono ?_); (case side1 => repeat (first | exact (Kd.C_below HR0_0.out HB.out) | (with_reducible refine Kd.C_alloc ?_ _) | (with_reducible refine Kd.C_drewN ?_ _) | (with_reducible refine Kd.C_drew ?_))); (case side2 => exact HC0_0.out); rintro e w16 ⟨rfl, hb⟩; have n0_ := Aside0.mk (blk_below (g := gb745) (o := .cells #[.slice A0_0 l0_0.length c0_0] 24 (0, 0)) (by (with_reducible repeat (first | refine blk_drewN ?_ _ | refine blk_drew ?_ | refine blk_alloc ?_ _)); exact BK745.out) hb); have n1_ := Aside0.mk (below_step (by repeat (first | (with_reducible first | exact HB.out | apply below_alloc | apply pw_below_drewN | apply below_drew1 | refine below_set ?_ GE745.out) | exact HB.out)) hb); clear BK745; clear HB; have BK745 := n0_; have HB := n1_; clear n0_ n1_; (try clear hb); (try clear hb2); (try clear hk); (try clear hi)))
  go_meet
  case rel => exact ⟨_, (!t748), (by first | rfl | (simp; done) | (simp [*]; done)), H', ⟨by first | omega | exact Nat.le_refl _⟩, ⟨by (with_reducible repeat (first | refine blk_drewN ?_ _ | refine blk_drew ?_ | refine blk_alloc ?_ _)); exact BK745.out⟩, ⟨by repeat (first | (with_reducible first | exact HB.out | apply below_alloc | apply pw_below_drewN | apply below_drew1 | refine below_set ?_ GE745.out) | exact HB.out)⟩⟩
 case rest =>
  clear HC4
  try clear c1
  try clear p2
  try clear c7
  try clear c9
  try clear c10
  try clear c16
  try clear hcz11_0
  try clear hcz13_0
  try clear hcz15_0
  try clear hcz17_0
  try clear hcz19_0
  try clear hcz21_0
  try clear hfz11_0
  try clear hfz13_0
  try clear hfz15_0
  try clear hfz17_0
  try clear hfz19_0
  try clear hfz21_0
  obtain ⟨kq, x30_3, rfl, HA, HJ3, BK745, HB⟩ := hcut
  cases kq with
  | zero => exact absurd HA.out (by simp [mizmazelaw03_ResetClosed.j0])
  | succ kj3 =>
   have H := HA.out
   clear HA
   simp only [mizmazelaw03_ResetClosed.j0] at H
   by_cases c23 : x30_3 = true
   ·subst c23
    have H1 : ((mizmazelaw03_awake.f kj3).bind fun t749 => (some t749)) = some r := by rw [if_pos rfl] at H; exact H
    clear H
    have H := H1
    clear H1
    replace H := Option.bind_eq_some_iff.mp H
    obtain ⟨t749, A240, H⟩ := H
    replace H : (some t749) = some r := H
    have A24 := Aside0.mk A240
    clear A240
    obtain rfl := Option.some.inj H
    go_wp2_with (first | ((with_reducible refine gate_callee (f := 37) rfl ?_); refine goesL_ (some 31) rfl rfl Try.func37 (by kernel_rfl) rfl #[] rfl (by (try simp only [List.map_toArray, List.map_cons, List.map_nil]); first | done | rfl | (simp only [List.length_drop, List.length_take]; rfl)) ?_; (with_reducible refine (mizmazelaw03_awake.calls kj3  t749 _ A24.out).mono ?_); rintro e w25 ⟨rfl, hb⟩; refine ⟨_, rfl, ?_⟩; have n0_ := Aside0.mk (blk_below (g := gb745) (o := .cells #[.slice A0_0 l0_0.length c0_0] 24 (0, 0)) (by (with_reducible repeat (first | refine blk_drewN ?_ _ | refine blk_drew ?_ | refine blk_alloc ?_ _)); exact BK745.out) hb); have n1_ := Aside0.mk (below_step (by repeat (first | (with_reducible first | exact HB.out | apply below_alloc | apply pw_below_drewN | apply below_drew1 | refine below_set ?_ GE745.out) | exact HB.out)) hb); clear BK745; clear HB; have BK745 := n0_; have HB := n1_; clear n0_ n1_; (try clear hb); (try clear hb2); (try clear hk); (try clear hi)))
    go_ret
    exact ⟨by first | rfl | (simp [errW_none, errW_some] <;> rfl) | (simp [*, errW_none, errW_some] <;> rfl), by repeat (first | (with_reducible first | exact HB.out | apply below_alloc | apply pw_below_drewN | apply below_drew1 | refine below_set ?_ GE745.out) | exact HB.out)⟩
   replace c23 := Bool.eq_false_iff.mpr c23
   subst c23
   have H1 : ((reset_Reset.f kj3 l0_0).bind fun bt750 => ((reset_Apart.f kj3 l0_0).bind fun bt754 => (if bt754.2 = 0 then (if bt750.2 = 0 then (mizmazelaw03_ResetClosed.j1 kj3 a1 a2 bt754.1 ((bt750.2 == 0) != ((bt754.1.length : Int) == 0)) l0_0) else (if bt750.2 = 4 then (mizmazelaw03_ResetClosed.j1 kj3 a1 a2 bt754.1 ((bt750.2 == 0) != ((bt754.1.length : Int) == 0)) l0_0) else (mizmazelaw03_ResetClosed.j1 kj3 a1 a2 bt754.1 true l0_0))) else (mizmazelaw03_ResetClosed.j1 kj3 a1 a2 bt754.1 true l0_0)))) = some r := by rw [if_neg (show ¬ (false = true) by decide)] at H; exact H
   clear H
   have H := H1
   clear H1
   replace H := Option.bind_eq_some_iff.mp H
   obtain ⟨⟨t750, t753⟩, A260, H⟩ := H
   replace H : ((reset_Apart.f kj3 l0_0).bind fun bt754 => (if bt754.2 = 0 then (if t753 = 0 then (mizmazelaw03_ResetClosed.j1 kj3 a1 a2 bt754.1 ((t753 == 0) != ((bt754.1.length : Int) == 0)) l0_0) else (if t753 = 4 then (mizmazelaw03_ResetClosed.j1 kj3 a1 a2 bt754.1 ((t753 == 0) != ((bt754.1.length : Int) == 0)) l0_0) else (mizmazelaw03_ResetClosed.j1 kj3 a1 a2 bt754.1 true l0_0))) else (mizmazelaw03_ResetClosed.j1 kj3 a1 a2 bt754.1 true l0_0))) = some r := H
   have A26 := Aside0.mk A260
   clear A260
   replace H := Option.bind_eq_some_iff.mp H
   obtain ⟨⟨t754, t757⟩, A270, H⟩ := H
   replace H : (if t757 = 0 then (if t753 = 0 then (mizmazelaw03_ResetClosed.j1 kj3 a1 a2 t754 ((t753 == 0) != ((t754.length : Int) == 0)) l0_0) else (if t753 = 4 then (mizmazelaw03_ResetClosed.j1 kj3 a1 a2 t754 ((t753 == 0) != ((t754.length : Int) == 0)) l0_0) else (mizmazelaw03_ResetClosed.j1 kj3 a1 a2 t754 true l0_0))) else (mizmazelaw03_ResetClosed.j1 kj3 a1 a2 t754 true l0_0)) = some r := H
   have A27 := Aside0.mk A270
   clear A270
   have HC28 := Aside0.mk H
   clear H
   have hcz29_0 : wc.cell? ⟨gb745, 0, none⟩ = some (.slice A0_0 l0_0.length c0_0) := (blk_cell BK745.out 0).trans rfl
   have hfz29_0 := blk_frozen BK745.out 0
   go_upto_region 5 with (first | ((with_reducible refine gate_callee (f := 29) rfl ?_); refine goesL_ (some 34) rfl rfl Try.func29 (by kernel_rfl) rfl #[.agg #[.slice A0_0 l0_0.length c0_0]] rfl (by (try simp only [List.map_toArray, List.map_cons, List.map_nil]); first | done | rfl | (simp only [List.length_drop, List.length_take]; rfl)) ?_; (with_reducible refine (reset_Reset.calls kj3 _ _ l0_0 t750 t753 _ ?side1 ?side2 A26.out).mono ?_); (case side1 => repeat (first | exact (Kd.C_below HR0_0.out HB.out) | (with_reducible refine Kd.C_alloc ?_ _) | (with_reducible refine Kd.C_drewN ?_ _) | (with_reducible refine Kd.C_drew ?_))); (case side2 => exact HC0_0.out); rintro e w30 ⟨v751, rfl, ho0, hb⟩; refine ⟨_, rfl, ?_⟩; have n0_ := Aside0.mk (Kd.R_lower ho0 (below_size (by repeat (first | (with_reducible first | exact HB.out | apply below_alloc | apply pw_below_drewN | apply below_drew1 | refine below_set ?_ GE745.out) | exact HB.out)))); have n1_ := Aside0.mk (blk_below (g := gb745) (o := .cells #[.slice A0_0 l0_0.length c0_0] 24 (0, 0)) (by (with_reducible repeat (first | refine blk_drewN ?_ _ | refine blk_drew ?_ | refine blk_alloc ?_ _)); exact BK745.out) hb); have n2_ := Aside0.mk (below_step (by repeat (first | (with_reducible first | exact HB.out | apply below_alloc | apply pw_below_drewN | apply below_drew1 | refine below_set ?_ GE745.out) | exact HB.out)) hb); clear BK745; clear HB; have HO752 := n0_; have BK745 := n1_; have HB := n2_; clear n0_ n1_ n2_; (try clear hb); (try clear hb2); (try clear hk); (try clear hi); (try clear ho0); have hcz31_0 : w30.cell? ⟨gb745, 0, none⟩ = some (.slice A0_0 l0_0.length c0_0) := (blk_cell BK745.out 0).trans rfl; have hfz31_0 := blk_frozen BK745.out 0) | ((with_reducible refine gate_callee (f := 30) rfl ?_); refine goesL_ (some 39) rfl rfl Try.func30 (by kernel_rfl) rfl #[.agg #[.slice A0_0 l0_0.length c0_0]] rfl (by (try simp only [List.map_toArray, List.map_cons, List.map_nil]); first | done | rfl | (simp only [List.length_drop, List.length_take]; rfl)) ?_; (with_reducible refine (reset_Apart.calls kj3 _ _ l0_0 t754 t757 _ ?side1 ?side2 A27.out).mono ?_); (case side1 => repeat (first | exact (Kd.C_below HR0_0.out HB.out) | (with_reducible refine Kd.C_alloc ?_ _) | (with_reducible refine Kd.C_drewN ?_ _) | (with_reducible refine Kd.C_drew ?_))); (case side2 => exact HC0_0.out); rintro e w32 ⟨v755, rfl, ho0, hb⟩; refine ⟨_, rfl, ?_⟩; have n0_ := Aside0.mk (Kd.R_below (by (with_reducible repeat (first | apply Kd.R_alloc | apply Kd.R_drewN | apply Kd.R_drew)); exact HO752.out) hb); have n1_ := Aside0.mk (Kd.R_lower ho0 (below_size (by repeat (first | (with_reducible first | exact HB.out | apply below_alloc | apply pw_below_drewN | apply below_drew1 | refine below_set ?_ GE745.out) | exact HB.out)))); have n2_ := Aside0.mk (blk_below (g := gb745) (o := .cells #[.slice A0_0 l0_0.length c0_0] 24 (0, 0)) (by (with_reducible repeat (first | refine blk_drewN ?_ _ | refine blk_drew ?_ | refine blk_alloc ?_ _)); exact BK745.out) hb); have n3_ := Aside0.mk (below_step (by repeat (first | (with_reducible first | exact HB.out | apply below_alloc | apply pw_below_drewN | apply below_drew1 | refine below_set ?_ GE745.out) | exact HB.out)) hb); clear HO752; clear BK745; clear HB; have HO752 := n0_; have HO756 := n1_; have BK745 := n2_; have HB := n3_; clear n0_ n1_ n2_ n3_; (try clear hb); (try clear hb2); (try clear hk); (try clear hi); (try clear ho0)))
   (try simp only [Act.put, List.setIfInBounds_toArray, List.set_cons_zero, List.set_cons_succ])
   go_cut [59] (fun v59 wc => ∃ (kq : Nat) (x59_27 : Bool), v59 = .bool x59_27 ∧ Aside0 (mizmazelaw03_ResetClosed.j1 kq a1 a2 t754 x59_27 l0_0 = some r) ∧ Aside0 (kq ≤ kj3) ∧ Aside0 (Kd.R k49 49 wc w.heap.size (fun _ => True) v755 t754) ∧ Aside0 (wc.heap[gb745]? = some (.cells #[(.slice A0_0 l0_0.length c0_0)] 24 (0, 0))) ∧ Aside0 (Below w.heap.size w wc))
   case first =>
    have H := HC28.out
    clear HC28
    by_cases c33 : t757 = 0
    rotate_left
    ·rw [if_neg c33] at H
     have c33b0 : (t757 == 0) = false := beq_eq_false_iff_ne.mpr c33
     have c33b1 : (t757 != 0) = true := bne_iff_ne.mpr c33
     (first | rw [c33b0] | (simp only [i64_w, i32_w]; rw [c33b0]) | skip)
     have H' := Aside0.mk H
     clear H
     go_wp2
     go_meet
     case rel => exact ⟨_, (true), (by first | rfl | (simp; done) | (simp [*]; done)), H', ⟨by have := HJ3.out; first | omega | exact Nat.le_refl _⟩, ⟨by (with_reducible repeat (first | apply Kd.R_alloc | apply Kd.R_drewN | apply Kd.R_drew)); exact HO756.out⟩, ⟨by (with_reducible repeat (first | refine blk_drewN ?_ _ | refine blk_drew ?_ | refine blk_alloc ?_ _)); exact BK745.out⟩, ⟨by repeat (first | (with_reducible first | exact HB.out | apply below_alloc | apply pw_below_drewN | apply below_drew1 | refine below_set ?_ GE745.out) | exact HB.out)⟩⟩
    rw [if_pos c33] at H
    have c33b0 : (t757 == 0) = true := beq_iff_eq.mpr c33
    have c33b1 : (t757 != 0) = false := bne_eq_false_iff_eq.mpr c33
    clear c33
    (first | rw [c33b0] | (simp only [i64_w, i32_w]; rw [c33b0]) | skip)
    by_cases c34 : t753 = 0
    ·rw [if_pos c34] at H
     have c34b0 : (t753 == 0) = true := beq_iff_eq.mpr c34
     have c34b1 : (t753 != 0) = false := bne_eq_false_iff_eq.mpr c34
     clear c34
     have H' := Aside0.mk H
     clear H
     obtain ⟨Ao35, co35, eo35⟩ := Kd.R_slice HO756.out
     subst eo35
     go_wp2
     go_meet
     case rel => exact ⟨_, (((t753 == 0) != ((t754.length : Int) == 0))), (by first | rfl | (simp; done) | (simp [*]; done)), H', ⟨by have := HJ3.out; first | omega | exact Nat.le_refl _⟩, ⟨by (with_reducible repeat (first | apply Kd.R_alloc | apply Kd.R_drewN | apply Kd.R_drew)); exact HO756.out⟩, ⟨by (with_reducible repeat (first | refine blk_drewN ?_ _ | refine blk_drew ?_ | refine blk_alloc ?_ _)); exact BK745.out⟩, ⟨by repeat (first | (with_reducible first | exact HB.out | apply below_alloc | apply pw_below_drewN | apply below_drew1 | refine below_set ?_ GE745.out) | exact HB.out)⟩⟩
    rw [if_neg c34] at H
    have c34b0 : (t753 == 0) = false := beq_eq_false_iff_ne.mpr c34
    have c34b1 : (t753 != 0) = true := bne_iff_ne.mpr c34
    by_cases c36 : t753 = 4
    rotate_left
    ·rw [if_neg c36] at H
     have c36b0 : (t753 == 4) = false := beq_eq_false_iff_ne.mpr c36
     have c36b1 : (t753 != 4) = true := bne_iff_ne.mpr c36
     have H' := Aside0.mk H
     clear H
     go_wp2
     go_meet
     case rel => exact ⟨_, (true), (by first | rfl | (simp; done) | (simp [*]; done)), H', ⟨by have := HJ3.out; first | omega | exact Nat.le_refl _⟩, ⟨by (with_reducible repeat (first | apply Kd.R_alloc | apply Kd.R_drewN | apply Kd.R_drew)); exact HO756.out⟩, ⟨by (with_reducible repeat (first | refine blk_drewN ?_ _ | refine blk_drew ?_ | refine blk_alloc ?_ _)); exact BK745.out⟩, ⟨by repeat (first | (with_reducible first | exact HB.out | apply below_alloc | apply pw_below_drewN | apply below_drew1 | refine below_set ?_ GE745.out) | exact HB.out)⟩⟩
    rw [if_pos c36] at H
    have c36b0 : (t753 == 4) = true := beq_iff_eq.mpr c36
    have c36b1 : (t753 != 4) = false := bne_eq_false_iff_eq.mpr c36
    clear c36
    have H' := Aside0.mk H
    clear H
    obtain ⟨Ao37, co37, eo37⟩ := Kd.R_slice HO756.out
    subst eo37
    go_wp2
    go_meet
    case rel => exact ⟨_, (((t753 == 0) != ((t754.length : Int) == 0))), (by first | rfl | (simp; done) | (simp [*]; done)), H', ⟨by have := HJ3.out; first | omega | exact Nat.le_refl _⟩, ⟨by (with_reducible repeat (first | apply Kd.R_alloc | apply Kd.R_drewN | apply Kd.R_drew)); exact HO756.out⟩, ⟨by (with_reducible repeat (first | refine blk_drewN ?_ _ | refine blk_drew ?_ | refine blk_alloc ?_ _)); exact BK745.out⟩, ⟨by repeat (first | (with_reducible first | exact HB.out | apply below_alloc | apply pw_below_drewN | apply below_drew1 | refine below_set ?_ GE745.out) | exact HB.out)⟩⟩
   case rest =>
    clear HC28
    try clear c1
    try clear c2
    try clear p2
    try clear c3
    try clear c7
    try clear c9
    try clear c10
    try clear c16
    try clear c23
    try clear c29
    try clear c30
    try clear c33
    try clear c33b0
    try clear c33b1
    try clear c34
    try clear c34b0
    try clear c34b1
    try clear c36
    try clear c36b0
    try clear c36b1
    try clear c37
    try clear hcz11_0
    try clear hcz13_0
    try clear hcz15_0
    try clear hcz17_0
    try clear hcz19_0
    try clear hcz21_0
    try clear hcz29_0
    try clear hcz31_0
    try clear hfz11_0
    try clear hfz13_0
    try clear hfz15_0
    try clear hfz17_0
    try clear hfz19_0
    try clear hfz21_0
    try clear hfz29_0
    try clear hfz31_0
    try clear p2
    obtain ⟨kq, x59_27, rfl, HA, HJ27, HO_9, BK745, HB⟩ := hcut
    cases kq with
    | zero => exact absurd HA.out (by simp [mizmazelaw03_ResetClosed.j1])
    | succ kj27 =>
     have H := HA.out
     clear HA
     simp only [mizmazelaw03_ResetClosed.j1] at H
     by_cases c38 : x59_27 = true
     ·subst c38
      have H1 : (some false) = some r := by rw [if_pos rfl] at H; exact H
      clear H
      have H := H1
      clear H1
      obtain rfl := Option.some.inj H
      go_wp2
      go_ret
      exact ⟨by first | rfl | (simp [errW_none, errW_some] <;> rfl) | (simp [*, errW_none, errW_some] <;> rfl), by repeat (first | (with_reducible first | exact HB.out | apply below_alloc | apply pw_below_drewN | apply below_drew1 | refine below_set ?_ GE745.out) | exact HB.out)⟩
     replace c38 := Bool.eq_false_iff.mpr c38
     subst c38
     have H1 : (if 0 ≤ (l0_0.length : Int) then (if ((l0_0.length : Int) : Int).toNat ≤ 11728124029610 then (mizmazelaw03_ResetClosed.l0 kj27 a1 a2 t754 (List.replicate ((l0_0.length : Int) : Int).toNat []) 0 l0_0) else (none)) else (none)) = some r := by rw [if_neg (show ¬ (false = true) by decide)] at H; exact H
     clear H
     have H := H1
     clear H1
     by_cases c39 : 0 ≤ (l0_0.length : Int)
     rotate_left
     ·rw [if_neg c39] at H
      exact absurd H (by simp)

     rw [if_pos c39] at H
     have c39b0 := eq_true c39
     have c39b1 : decide (0 ≤ (l0_0.length : Int)) = true := decide_eq_true c39
     clear c39
     by_cases c40 : ((l0_0.length : Int) : Int).toNat ≤ 11728124029610
     rotate_left
     ·rw [if_neg c40] at H
      exact absurd H (by simp)
     rw [if_pos c40] at H
     have c40b0 := eq_true c40
     have c40b1 : decide (((l0_0.length : Int) : Int).toNat ≤ 11728124029610) = true := decide_eq_true c40
     clear c40
     obtain ⟨y758, hy758⟩ : ∃ y_ : List (List Bool), y_ = (List.replicate ((l0_0.length : Int) : Int).toNat []) := ⟨_, rfl⟩
     replace H : (mizmazelaw03_ResetClosed.l0 kj27 a1 a2 t754 y758 0 l0_0) = some r := by first | (rw [hy758]; with_reducible exact H) | (have H2_ := (Option.bind_some _ _).symm.trans H; rw [hy758]; with_reducible exact H2_) | (have H2_ := (Option.bind_some _ _).symm.trans H; with_reducible exact H2_) | with_reducible exact H | (rw [hy758]; exact H) | exact H
     have Ny758 := Aside0.mk hy758
     clear hy758
     have H' := Aside0.mk H
     clear H
     have hcz41_0 : wc.cell? ⟨gb745, 0, none⟩ = some (.slice A0_0 l0_0.length c0_0) := (blk_cell BK745.out 0).trans rfl
     have hfz41_0 := blk_frozen BK745.out 0
     go_wp2_with (first | ((with_reducible refine gate_dst (N := 63) rfl ?_); (try (refine gate_guard (by rfl) ?_; dsimp only)); refine Kd.S_make (Kd.slice 4 Kd.bool) _ 61 rfl (N := 63) rfl 60 _ _ rfl (l0_0.length : Int) rfl rfl Try.underlying60 (.slice none 0 0) 24 info61 rfl (by decide) (by omega) [] (ok := fun _ => True) (okp := fun _ => True) ⟨_, rfl, Kd.R_nil _ _ _ _ _⟩ (fun _ hk => hk) trivial (of_decide_eq_true (by first | (with_reducible assumption) | assumption)) (Nat.le_trans (Nat.mul_le_mul_right _ (of_decide_eq_true (by first | (with_reducible assumption) | assumption) : (l0_0.length : Int).toNat ≤ 11728124029610)) (by omega)) (Below.refl _ _) (Nat.le_refl _) ?_; intro v759 w42 ho43 hb hg_ hnew_; clear hg_ hnew_; (first | rw [← Ny758.out] at ho43 | (simp only [Int.reduceToNat] at ho43; rw [← Ny758.out] at ho43)); have n0_ := Aside0.mk (Kd.R_below (by (with_reducible repeat (first | apply Kd.R_alloc | apply Kd.R_drewN | apply Kd.R_drew)); exact HO_9.out) hb); have n1_ := Aside0.mk (Kd.S_lower ho43 (below_size (by repeat (first | (with_reducible first | exact HB.out | apply below_alloc | apply pw_below_drewN | apply below_drew1 | refine below_set ?_ GE745.out) | exact HB.out)))); have n2_ := Aside0.mk (blk_below (g := gb745) (o := .cells #[.slice A0_0 l0_0.length c0_0] 24 (0, 0)) (by (with_reducible repeat (first | refine blk_drewN ?_ _ | refine blk_drew ?_ | refine blk_alloc ?_ _)); exact BK745.out) hb); have n3_ := Aside0.mk (below_step (by repeat (first | (with_reducible first | exact HB.out | apply below_alloc | apply pw_below_drewN | apply below_drew1 | refine below_set ?_ GE745.out) | exact HB.out)) hb); clear HO_9; clear BK745; clear HB; have HO_9 := n0_; have HO760 := n1_; have BK745 := n2_; have HB := n3_; clear n0_ n1_ n2_ n3_; clear hb ho43))
     go_loopg [12] kj27 (fun kq v12 w' => ∃ (x11_3 : List (List Bool)) (x12_3 : Int), v12 = .int .i64 x12_3 ∧ Aside0 (mizmazelaw03_ResetClosed.l0 kq a1 a2 t754 x11_3 x12_3 l0_0 = some r) ∧ Aside0 (kq ≤ kj27) ∧ Aside0 (Kd.R k49 49 w' w.heap.size (fun _ => True) v755 t754) ∧ Aside0 (Kd.S (Kd.slice 4 Kd.bool) 61 w' w.heap.size (fun _ => True) v759 x11_3) ∧ Aside0 (w'.heap[gb745]? = some (.cells #[(.slice A0_0 l0_0.length c0_0)] 24 (0, 0))) ∧ Aside0 (Below w.heap.size w w'))
     case atStart => exact ⟨(y758), (0), (by first | rfl | (simp; done) | (simp [*]; done)), H', ⟨Nat.le_refl _⟩, ⟨by (with_reducible repeat (first | apply Kd.R_alloc | apply Kd.R_drewN | apply Kd.R_drew)); exact HO_9.out⟩, ⟨by (with_reducible repeat (first | apply Kd.S_alloc | apply Kd.S_drewN | apply Kd.S_drew)); exact HO760.out⟩, ⟨by (with_reducible repeat (first | refine blk_drewN ?_ _ | refine blk_drew ?_ | refine blk_alloc ?_ _)); exact BK745.out⟩, ⟨by repeat (first | (with_reducible first | exact HB.out | apply below_alloc | apply pw_below_drewN | apply below_drew1 | refine below_set ?_ GE745.out) | exact HB.out)⟩⟩
     case round => as_aux_lemma =>
      clear H'
      try clear c1
      try clear c2
      try clear p2
      try clear c3
      try clear c4
      try clear c7
      try clear c9
      try clear c10
      try clear c16
      try clear c23
      try clear c29
      try clear c30
      try clear c33
      try clear c33b0
      try clear c33b1
      try clear c34
      try clear c34b0
      try clear c34b1
      try clear c36
      try clear c36b0
      try clear c36b1
      try clear c37
      try clear c38
      try clear c39
      try clear c39b0
      try clear c39b1
      try clear c40
      try clear c40b0
      try clear c40b1
      try clear hcz11_0
      try clear hcz13_0
      try clear hcz15_0
      try clear hcz17_0
      try clear hcz19_0
      try clear hcz21_0
      try clear hcz29_0
      try clear hcz31_0
      try clear hcz41_0
      try clear hfz11_0
      try clear hfz13_0
      try clear hfz15_0
      try clear hfz17_0
      try clear hfz19_0
      try clear hfz21_0
      try clear hfz29_0
      try clear hfz31_0
      try clear hfz41_0
      try clear p2
      obtain ⟨x11_3, x12_3, rfl, HA, HK3, HO_9, HO_11, BK745, HB⟩ := hrel
      cases gk with
      | zero => exact absurd HA.out (by simp [mizmazelaw03_ResetClosed.l0])
      | succ k3 =>
       have H := HA.out
       clear HA
       simp only [mizmazelaw03_ResetClosed.l0] at H
       by_cases c44 : x12_3 < (x11_3.length : Int)
       ·rw [if_pos c44] at H
        have c44b0 : decide (x12_3 < (x11_3.length : Int)) = true := decide_eq_true c44
        clear c44
        by_cases c45 : 0 ≤ (l0_0.length : Int)
        rotate_left
        ·rw [if_neg c45] at H
         exact absurd H (by simp)
        rw [if_pos c45] at H
        have c45b0 := eq_true c45
        have c45b1 : decide (0 ≤ (l0_0.length : Int)) = true := decide_eq_true c45
        clear c45
        by_cases c46 : ((l0_0.length : Int) : Int).toNat ≤ 281474976710656
        rotate_left
        ·rw [if_neg c46] at H
         exact absurd H (by simp)
        rw [if_pos c46] at H
        have c46b0 := eq_true c46
        have c46b1 : decide (((l0_0.length : Int) : Int).toNat ≤ 281474976710656) = true := decide_eq_true c46
        clear c46
        obtain ⟨y761, hy761⟩ : ∃ y_ : List Bool, y_ = (List.replicate ((l0_0.length : Int) : Int).toNat false) := ⟨_, rfl⟩
        replace H : (if 0 ≤ x12_3 then (mizmazelaw03_ResetClosed.l0 k3 a1 a2 t754 (x11_3.set (x12_3 : Int).toNat y761) (wrap64 (x12_3 + 1)) l0_0) else (none)) = some r := by first | (rw [hy761]; with_reducible exact H) | (have H2_ := (Option.bind_some _ _).symm.trans H; rw [hy761]; with_reducible exact H2_) | (have H2_ := (Option.bind_some _ _).symm.trans H; with_reducible exact H2_) | with_reducible exact H | (rw [hy761]; exact H) | exact H
        have Ny761 := Aside0.mk hy761
        clear hy761
        by_cases c47 : 0 ≤ x12_3
        rotate_left
        ·rw [if_neg c47] at H
         exact absurd H (by simp)
        rw [if_pos c47] at H
        have c47b0 : decide (0 ≤ x12_3) = true := decide_eq_true c47
        clear c47
        obtain ⟨y764, hy764⟩ : ∃ y_ : List (List Bool), y_ = (x11_3.set (x12_3 : Int).toNat y761) := ⟨_, rfl⟩
        replace H : (mizmazelaw03_ResetClosed.l0 k3 a1 a2 t754 y764 (wrap64 (x12_3 + 1)) l0_0) = some r := by first | (rw [hy764]; with_reducible exact H) | (have H2_ := (Option.bind_some _ _).symm.trans H; rw [hy764]; with_reducible exact H2_) | (have H2_ := (Option.bind_some _ _).symm.trans H; with_reducible exact H2_) | with_reducible exact H | (rw [hy764]; exact H) | exact H
        have Ny764 := Aside0.mk hy764
        clear hy764
        have H' := Aside0.mk H
        clear H
        obtain ⟨Ao49, co49, eo49⟩ := Kd.S_slice HO_11.out
        subst eo49
        have hcz50_0 : wr.cell? ⟨gb745, 0, none⟩ = some (.slice A0_0 l0_0.length c0_0) := (blk_cell BK745.out 0).trans rfl
        have hfz50_0 := blk_frozen BK745.out 0
        go_wp2_with (first | ((with_reducible refine gate_dst (N := 75) rfl ?_); (try (refine gate_guard (by rfl) ?_; dsimp only)); refine Kd.R_make Kd.bool _ 4 rfl (N := 75) rfl 61 _ _ rfl (l0_0.length : Int) rfl rfl Try.underlying61 (.bool false) 1 info4 rfl (by decide) (by omega) false (ok := fun _ => True) (okp := fun _ => True) rfl (fun _ hk => hk) trivial (of_decide_eq_true (by first | (with_reducible assumption) | assumption)) (Nat.le_trans (Nat.mul_le_mul_right _ (of_decide_eq_true (by first | (with_reducible assumption) | assumption) : (l0_0.length : Int).toNat ≤ 281474976710656)) (by omega)) (Below.refl _ _) (Nat.le_refl _) ?_; intro v762 w51 ho52 hb hg_ hnew_; obtain ⟨Av762, cv762, ev762⟩ := Kd.R_slice ho52; rw [List.length_replicate, Int.toNat_natCast] at ev762; subst ev762; clear hg_ hnew_; (first | rw [← Ny761.out] at ho52 | (simp only [Int.reduceToNat] at ho52; rw [← Ny761.out] at ho52)); have n0_ := Aside0.mk (Kd.R_below (by (with_reducible repeat (first | apply Kd.R_alloc | apply Kd.R_drewN | apply Kd.R_drew)); exact HO_9.out) hb); have n1_ := Aside0.mk (Kd.S_elder' (by (with_reducible repeat (first | apply Kd.S_alloc | apply Kd.S_drewN | apply Kd.S_drew)); exact HO_11.out) (Kd.R_base ho52) hb); have n2_ := Aside0.mk (Kd.R_lower ho52 (below_size (by repeat (first | (with_reducible first | exact HB.out | apply below_alloc | apply pw_below_drewN | apply below_drew1 | refine below_set ?_ GE745.out) | exact HB.out)))); have n3_ := Aside0.mk (blk_below (g := gb745) (o := .cells #[.slice A0_0 l0_0.length c0_0] 24 (0, 0)) (by (with_reducible repeat (first | refine blk_drewN ?_ _ | refine blk_drew ?_ | refine blk_alloc ?_ _)); exact BK745.out) hb); have n4_ := Aside0.mk (below_step (by repeat (first | (with_reducible first | exact HB.out | apply below_alloc | apply pw_below_drewN | apply below_drew1 | refine below_set ?_ GE745.out) | exact HB.out)) hb); clear HO_9; clear HO_11; clear BK745; clear HB; have HO_9 := n0_; have HO_11 := n1_; have HO763 := n2_; have BK745 := n3_; have HB := n4_; clear n0_ n1_ n2_ n3_ n4_; clear hb ho52; have p48 : 0 ≤ (x12_3 : Int) := of_decide_eq_true (by first | (with_reducible assumption) | assumption); have q48 : (x12_3 : Int) < ((x11_3.length : Int) : Int) := of_decide_eq_true (by first | (with_reducible assumption) | assumption); obtain ⟨go48, co48, eo48, gb48, gl48, cl48, HG48⟩ := Kd.S_form HO_11.out (by omega); (first | cases eo48 | (injection eo48 with ea_ en_ ec_; (first | subst ea_ | (injection ea_ with ea_; subst ea_)); subst ec_; clear en_)); have GB48 := Aside0.mk gb48; have GG48 := Aside0.mk HG48; clear gb48 gl48 HG48; obtain ⟨_, ce48, hcl48, hM48, hcc48, hfr48, _, _⟩ := Kd.S_elem HO_11.out [] (x12_3 : Int) p48 q48; obtain ⟨ve48_0, rfl, ge48_0⟩ := hM48; have hx48_0 := hcc48 0 _ rfl; have hf48_0 := hfr48 0; (try simp only [show ((Kd.slice 4 Kd.bool)).sz = 1 from rfl, Nat.mul_one, Nat.add_zero] at hx48_0); (try simp only [show ((Kd.slice 4 Kd.bool)).sz = 1 from rfl, Nat.mul_one, Nat.add_zero] at hf48_0); clear hcl48 hcc48 hfr48; (try clear hM48); replace p48 := eq_true p48; replace q48 := eq_true q48; have n_ := Aside0.mk (Kd.S_mono (ok' := (fun k_ => some k_ ≠ ((.slice Av762 l0_0.length cv762) : Value).ownBlock)) HO_11.out (fun k_ hk => hk.2)); clear HO_11; have HO_11 := n_; clear n_; have HX53 := Aside0.mk (show Kd.S (Kd.slice 4 Kd.bool) 61 w51 w.heap.size (fun k_ => ((fun _ => True)) k_ ∧ ¬ ((fun k_ => some k_ = ((.slice Av762 l0_0.length cv762) : Value).ownBlock)) k_) (.slice (some ⟨go48, 0, none⟩) x11_3.length co49) x11_3 from (by (with_reducible repeat (first | apply Kd.S_alloc | apply Kd.S_drewN | apply Kd.S_drew)); exact Kd.S_mono HO_11.out (fun k_ hk => ⟨trivial, fun e_ => hk e_⟩))); obtain ⟨oki53, ce53, hcl53, hM53, hcc53, hfr53, hoki53, hH53⟩ := Kd.S_elem HX53.out [] (x12_3 : Int) (of_decide_eq_true (by first | (with_reducible assumption) | assumption)) (by have h_ : (x12_3 : Int) < ((x11_3.length : Int) : Int) := of_decide_eq_true (by first | (with_reducible assumption) | assumption); first | exact h_ | (have e_ := (Kd.S_reads' HO_11.out).1; omega) | simpa using h_); obtain ⟨ve53_0, rfl, ge53_0⟩ := hM53; have HP53 := Kd.S_seg hH53 (of_decide_eq_true (by first | (with_reducible assumption) | assumption)) (by have h_ : (x12_3 : Int) < ((x11_3.length : Int) : Int) := of_decide_eq_true (by first | (with_reducible assumption) | assumption); first | exact h_ | (have e_ := (Kd.S_reads' HO_11.out).1; omega) | simpa using h_) (seg := [(.slice Av762 l0_0.length cv762)]) (j := 0) (show 1 ≤ 1 from by decide) (x' := y761) (Kd.M_row (Kd.R_mono (Kd.R_tight rfl (Kd.R_mono (ok' := fun k_ => ((fun _ => True)) k_ ∧ k_ ≠ go48) (Kd.R_apart' (HO763.out) (Kd.S_typed HO_11.out) (by decide)) (fun k_ hk => ⟨trivial, fun e_ => (hk.2) (by rw [e_]; rfl)⟩))) (fun _ h_ => Or.inr (h_)))) (fun _ hk => hk) (fun k_ hk_ => ((Kd.R_mono (ok' := fun k_ => ((fun _ => True)) k_ ∧ k_ ≠ go48) (Kd.R_apart' (HO763.out) (Kd.S_typed HO_11.out) (by decide)) (fun k_ hk => ⟨trivial, fun e_ => (hk.2) (by rw [e_]; rfl)⟩))).1 k_ hk_.symm); have hx53_0 := hcc53 0 _ rfl; (try simp only [show ((Kd.slice 4 Kd.bool)).sz = 1 from rfl, Nat.mul_one, Nat.add_zero] at hx53_0); have hf53_0 := hfr53 0; (try simp only [show ((Kd.slice 4 Kd.bool)).sz = 1 from rfl, Nat.mul_one, Nat.add_zero] at hf53_0); clear hcl53 hcc53 hfr53 hoki53 hH53; (try clear hM53); (try simp only [show ((Kd.slice 4 Kd.bool)).sz = 1 from rfl, Nat.mul_one, Nat.add_zero] at HP53)) | ((with_reducible refine gate_store (t := 61) (p := 76) rfl ?_); refine store_event (t := 61) (p := 76) (v := ?vo_w54) (w1 := (w51.setCell ⟨go48, (x12_3 : Int).toNat, none⟩ ((.slice Av762 l0_0.length cv762)))) ?hg ?ho ?hn ?hr ?_; (case ho => rfl); (case hg => rfl); (case hn => rfl); (case hr => first | (go_simp; done) | (go_simp; rfl)); intro w54 hw; have hg : w51.grownBy w54 (some go48) := (by rw [hw]; exact HP53.2); have hp_ : Kd.S (Kd.slice 4 Kd.bool) 61 w54 w.heap.size (fun _ => True) (.slice (some ⟨go48, 0, none⟩) x11_3.length co49) y764 := (by rw [hw, Ny764.out]; exact HP53.1); clear HP53; have n0_ := Aside0.mk (Kd.R_over' (v := (.slice (some ⟨go48, 0, none⟩) x11_3.length co49)) (by (with_reducible repeat (first | apply Kd.R_alloc | apply Kd.R_drewN | apply Kd.R_drew)); exact HO_9.out) (Kd.S_typed HO_11.out) (by decide) hg); have n1_ := Aside0.mk (hp_); have n2_ := Aside0.mk (blk_grown (g := gb745) (o := .cells #[.slice A0_0 l0_0.length c0_0] 24 (0, 0)) (by (with_reducible repeat (first | refine blk_drewN ?_ _ | refine blk_drew ?_ | refine blk_alloc ?_ _)); exact BK745.out) hg (Kd.S_ne HO_11.out BK745.out (by decide))); have n3_ := Aside0.mk ((by rw [hw]; exact below_set (HB.out) GB48.out : Below w.heap.size w w54)); clear HO_9; clear HO_11; clear BK745; clear HB; clear HO763; have HO_9 := n0_; have HO_11 := n1_; have BK745 := n2_; have HB := n3_; clear n0_ n1_ n2_ n3_; clear hg hw hp_))
        go_roundg k3
        case measure => have := HJ3.out; have := HJ27.out; have := HK3.out; omega
        case rel => exact ⟨(y764), (wrap64 (x12_3 + 1)), (by first | rfl | (simp; done) | (simp [*]; done)), H', ⟨by have := HJ3.out; have := HJ27.out; have := HK3.out; omega⟩, ⟨by (with_reducible repeat (first | apply Kd.R_alloc | apply Kd.R_drewN | apply Kd.R_drew)); exact HO_9.out⟩, ⟨by (with_reducible repeat (first | apply Kd.S_alloc | apply Kd.S_drewN | apply Kd.S_drew)); exact HO_11.out⟩, ⟨by (with_reducible repeat (first | refine blk_drewN ?_ _ | refine blk_drew ?_ | refine blk_alloc ?_ _)); exact BK745.out⟩, ⟨by repeat (first | (with_reducible first | exact HB.out | apply below_alloc | apply pw_below_drewN | apply below_drew1 | refine below_set ?_ GE745.out) | exact HB.out)⟩⟩
       rw [if_neg c44] at H
       have c44b0 : decide (x12_3 < (x11_3.length : Int)) = false := decide_eq_false c44
       clear c44
       have H' := Aside0.mk H
       clear H
       obtain ⟨Ao55, co55, eo55⟩ := Kd.S_slice HO_11.out
       subst eo55
       go_wp2
       go_loopg [13] k3 (fun kq v13 w' => ∃ (x11_4 : List (List Bool)) (x13_4 : Int), v13 = .int .i64 x13_4 ∧ Aside0 (mizmazelaw03_ResetClosed.l1 kq a1 a2 t754 x11_4 x13_4 l0_0 = some r) ∧ Aside0 (kq ≤ k3) ∧ Aside0 (Kd.R k49 49 w' w.heap.size (fun _ => True) v755 t754) ∧ Aside0 (Kd.S (Kd.slice 4 Kd.bool) 61 w' w.heap.size (fun _ => True) (.slice Ao55 x11_3.length co55) x11_4) ∧ Aside0 (w'.heap[gb745]? = some (.cells #[(.slice A0_0 l0_0.length c0_0)] 24 (0, 0))) ∧ Aside0 (Below w.heap.size w w'))
       case atStart => exact ⟨(x11_3), (0), (by first | rfl | (simp; done) | (simp [*]; done)), H', ⟨Nat.le_refl _⟩, ⟨by (with_reducible repeat (first | apply Kd.R_alloc | apply Kd.R_drewN | apply Kd.R_drew)); exact HO_9.out⟩, ⟨by (with_reducible repeat (first | apply Kd.S_alloc | apply Kd.S_drewN | apply Kd.S_drew)); exact HO_11.out⟩, ⟨by (with_reducible repeat (first | refine blk_drewN ?_ _ | refine blk_drew ?_ | refine blk_alloc ?_ _)); exact BK745.out⟩, ⟨by repeat (first | (with_reducible first | exact HB.out | apply below_alloc | apply pw_below_drewN | apply below_drew1 | refine below_set ?_ GE745.out) | exact HB.out)⟩⟩
       case round => as_aux_lemma =>
        clear H'
        try clear c1
        try clear c2
        try clear p2
        try clear c3
        try clear c4
        try clear p4
        try clear q4
        try clear hx4
        try clear hf4
        try clear c5
        try clear hx5
        try clear hf5
        try clear p6
        try clear c7
        try clear c9
        try clear c10
        try clear c16
        try clear c23
        try clear c29
        try clear c30
        try clear c33
        try clear c33b0
        try clear c33b1
        try clear c34
        try clear c34b0
        try clear c34b1
        try clear c36
        try clear c36b0
        try clear c36b1
        try clear c37
        try clear c38
        try clear c39
        try clear c39b0
        try clear c39b1
        try clear c40
        try clear c40b0
        try clear c40b1
        try clear c44
        try clear c44b0
        try clear c45
        try clear c45b0
        try clear c45b1
        try clear c46
        try clear c46b0
        try clear c46b1
        try clear c47
        try clear c47b0
        try clear c48
        try clear p48
        try clear q48
        try clear hx48
        try clear hf48
        try clear c53
        try clear hx53
        try clear hf53
        try clear hcz11_0
        try clear hcz13_0
        try clear hcz15_0
        try clear hcz17_0
        try clear hcz19_0
        try clear hcz21_0
        try clear hcz29_0
        try clear hcz31_0
        try clear hcz41_0
        try clear hcz50_0
        try clear hfz11_0
        try clear hfz13_0
        try clear hfz15_0
        try clear hfz17_0
        try clear hfz19_0
        try clear hfz21_0
        try clear hfz29_0
        try clear hfz31_0
        try clear hfz41_0
        try clear hfz50_0
        try clear hx48_0
        try clear hx53_0
        try clear p2
        try clear p48
        try clear q48
        obtain ⟨x11_4, x13_4, rfl, HA, HK4, HO_9, HO_11, BK745, HB⟩ := hrel
        have hl11_4 := (Kd.S_reads' HO_11.out).1
        rw [hl11_4] at HO_11
        (try simp only [hl11_4])
        (try simp only [hl11_4] at BK745)
        (try simp only [hl11_4] at HO_9)
        cases gk with
        | zero => exact absurd HA.out (by simp [mizmazelaw03_ResetClosed.l1])
        | succ k4 =>
         have H := HA.out
         clear HA
         simp only [mizmazelaw03_ResetClosed.l1] at H
         by_cases c56 : x13_4 < (t754.length : Int)
         rotate_left
         ·rw [if_neg c56] at H
          have c56b0 : decide (x13_4 < (t754.length : Int)) = false := decide_eq_false c56
          clear c56
          have H' := Aside0.mk H
          clear H
          obtain ⟨Ao90, co90, eo90⟩ := Kd.R_slice HO_9.out
          subst eo90
          go_wp2
          go_loopg [14] k4 (fun kq v14 w' => ∃ (x14_5 : Int), v14 = .int .i64 x14_5 ∧ Aside0 (mizmazelaw03_ResetClosed.l2 kq a1 a2 t754 x11_4 x14_5 l0_0 = some r) ∧ Aside0 (kq ≤ k4) ∧ Aside0 (Kd.R k49 49 w' w.heap.size (fun _ => True) (.slice Ao90 t754.length co90) t754) ∧ Aside0 (Kd.S (Kd.slice 4 Kd.bool) 61 w' w.heap.size (fun _ => True) (.slice Ao55 x11_4.length co55) x11_4) ∧ Aside0 (w'.heap[gb745]? = some (.cells #[(.slice A0_0 l0_0.length c0_0)] 24 (0, 0))) ∧ Aside0 (Below w.heap.size w w'))
          case atStart => exact ⟨(0), (by first | rfl | (simp; done) | (simp [*]; done)), H', ⟨Nat.le_refl _⟩, ⟨by (try simp only [hl11_4]); (with_reducible repeat (first | apply Kd.R_alloc | apply Kd.R_drewN | apply Kd.R_drew)); exact HO_9.out⟩, ⟨by (try simp only [hl11_4]); (with_reducible repeat (first | apply Kd.S_alloc | apply Kd.S_drewN | apply Kd.S_drew)); exact HO_11.out⟩, ⟨by (try simp only [hl11_4]); (with_reducible repeat (first | refine blk_drewN ?_ _ | refine blk_drew ?_ | refine blk_alloc ?_ _)); exact BK745.out⟩, ⟨by repeat (first | (with_reducible first | exact HB.out | apply below_alloc | apply pw_below_drewN | apply below_drew1 | refine below_set ?_ GE745.out) | exact HB.out)⟩⟩
          case round => as_aux_lemma =>
           clear H'
           try clear p2
           try clear c4
           try clear c5
           try clear c6
           try clear p6
           try clear c7
           try clear p7
           try clear q7
           try clear hx7
           try clear hf7
           try clear c8
           try clear q8
           try clear c40
           try clear c56
           try clear c56b0
           try clear c57
           try clear c59
           try clear c61
           try clear p64
           try clear c67
           try clear c68
           try clear c69
           try clear c70
           try clear p71
           try clear q71
           try clear hx71
           try clear hf71
           try clear c72
           try clear c73
           try clear p74
           try clear q74
           try clear hx74
           try clear hf74
           try clear p76
           try clear q76
           try clear hx76
           try clear c77
           try clear p77
           try clear q77
           try clear hx77
           try clear c79
           try clear q79
           try clear c81
           try clear q81
           try clear hx71_0
           try clear hx74_0
           try clear hx765_0
           try clear hx765_1
           try clear hx767_0
           try clear hx767_1
           try clear hx772_0
           try clear hx773_0
           try clear hx773_1
           try clear hx777_0
           try clear hx777_1
           try clear hx778_0
           try clear hx779_0
           try clear hx779_1
           try clear p71
           try clear p74
           try clear p765
           try clear p767
           try clear p772
           try clear p773
           try clear p777
           try clear p778
           try clear p779
           try clear q71
           try clear q74
           try clear q765
           try clear q767
           try clear q772
           try clear q773
           try clear q777
           try clear q778
           try clear q779
           obtain ⟨x14_5, rfl, HA, HK5, HO_9, HO_11, BK745, HB⟩ := hrel
           cases gk with
           | zero => exact absurd HA.out (by simp [mizmazelaw03_ResetClosed.l2])
           | succ k5 =>
            have H := HA.out
            clear HA
            simp only [mizmazelaw03_ResetClosed.l2] at H
            by_cases c91 : x14_5 < (t754.length : Int)
            rotate_left
            ·rw [if_neg c91] at H
             have c91b0 : decide (x14_5 < (t754.length : Int)) = false := decide_eq_false c91
             clear c91
             replace H := Option.bind_eq_some_iff.mp H
             obtain ⟨⟨t783, t786⟩, A1170, H⟩ := H
             replace H : (if 0 ≤ a1 then (if a1 < (x11_4.length : Int) then (if 0 ≤ a2 then (if a2 < ((rd_L6 x11_4 a1).length : Int) then (if ((t786 == 4) == (rdOf false (rd_L6 x11_4 a1) a2)) = true then ((mizmazelaw03_awake.f k5).bind fun t789 => (some t789)) else (some false)) else (none)) else (none)) else (none)) else (none)) = some r := H
             have A117 := Aside0.mk A1170
             clear A1170
             by_cases c118 : 0 ≤ a1
             rotate_left
             ·rw [if_neg c118] at H
              exact absurd H (by simp)
             rw [if_pos c118] at H
             have c118b0 : decide (0 ≤ a1) = true := decide_eq_true c118
             clear c118
             by_cases c119 : a1 < (x11_4.length : Int)
             rotate_left
             ·rw [if_neg c119] at H
              exact absurd H (by simp)
             rw [if_pos c119] at H
             have c119b0 : decide (a1 < (x11_4.length : Int)) = true := decide_eq_true c119
             clear c119
             by_cases c120 : 0 ≤ a2
             rotate_left
             ·rw [if_neg c120] at H
              exact absurd H (by simp)
             rw [if_pos c120] at H
             have c120b0 : decide (0 ≤ a2) = true := decide_eq_true c120
             clear c120
             by_cases c121 : a2 < ((rd_L6 x11_4 a1).length : Int)
             rotate_left
             ·rw [if_neg c121] at H
              exact absurd H (by simp)
             rw [if_pos c121] at H
             have c121b0 : decide (a2 < ((rd_L6 x11_4 a1).length : Int)) = true := decide_eq_true c121
             clear c121
             by_cases c122 : ((t786 == 4) == (rdOf false (rd_L6 x11_4 a1) a2)) = true
             rotate_left
             ·rw [if_neg c122] at H
              have c122b0 : ((t786 == 4) == (rdOf false (rd_L6 x11_4 a1) a2)) = false := by simpa using c122
              (try (have c122b1 : decide ((t786 == 4) = (rdOf false (rd_L6 x11_4 a1) a2)) = false := by simpa using c122))
              (try (have c122b2 : ((t786 == 4) == (rdOf false (rd_L6 x11_4 a1) a2)) = false := by simpa using c122))
              (try (have c122b3 : ¬ ((t786 == 4) = (rdOf false (rd_L6 x11_4 a1) a2)) := by simpa using c122))
              clear c122
              obtain rfl := Option.some.inj H
              have hcz127_0 : wr.cell? ⟨gb745, 0, none⟩ = some (.slice A0_0 l0_0.length c0_0) := (blk_cell BK745.out 0).trans rfl
              have hfz127_0 := blk_frozen BK745.out 0
              go_wp2_with (first | ((with_reducible refine gate_callee (f := 36) rfl ?_); refine goesL_ (some 188) rfl rfl Try.func36 (by kernel_rfl) rfl #[.agg #[.slice A0_0 l0_0.length c0_0], .int .i64 a1, .int .i64 a2] rfl (by (try simp only [List.map_toArray, List.map_cons, List.map_nil]); first | done | rfl | (simp only [List.length_drop, List.length_take]; rfl)) ?_; (with_reducible refine (reset_Merge.calls k5 _ _ l0_0 a1 a2 t783 t786 _ ?side1 ?side2 A117.out).mono ?_); (case side1 => repeat (first | exact (Kd.C_below HR0_0.out HB.out) | (with_reducible refine Kd.C_alloc ?_ _) | (with_reducible refine Kd.C_drewN ?_ _) | (with_reducible refine Kd.C_drew ?_))); (case side2 => exact HC0_0.out); rintro e w128 ⟨v784, rfl, ho0, hb⟩; refine ⟨_, rfl, ?_⟩; have n0_ := Aside0.mk (Kd.R_below (by (with_reducible repeat (first | apply Kd.R_alloc | apply Kd.R_drewN | apply Kd.R_drew)); exact HO_9.out) hb); have n1_ := Aside0.mk (Kd.S_below (by (with_reducible repeat (first | apply Kd.S_alloc | apply Kd.S_drewN | apply Kd.S_drew)); exact HO_11.out) hb); have n2_ := Aside0.mk (Kd.R_lower ho0 (below_size (by repeat (first | (with_reducible first | exact HB.out | apply below_alloc | apply pw_below_drewN | apply below_drew1 | refine below_set ?_ GE745.out) | exact HB.out)))); have n3_ := Aside0.mk (blk_below (g := gb745) (o := .cells #[.slice A0_0 l0_0.length c0_0] 24 (0, 0)) (by (with_reducible repeat (first | refine blk_drewN ?_ _ | refine blk_drew ?_ | refine blk_alloc ?_ _)); exact BK745.out) hb); have n4_ := Aside0.mk (below_step (by repeat (first | (with_reducible first | exact HB.out | apply below_alloc | apply pw_below_drewN | apply below_drew1 | refine below_set ?_ GE745.out) | exact HB.out)) hb); clear HO_9; clear HO_11; clear BK745; clear HB; have HO_9 := n0_; have HO_11 := n1_; have HO785 := n2_; have BK745 := n3_; have HB := n4_; clear n0_ n1_ n2_ n3_ n4_; (try clear hb); (try clear hb2); (try clear hk); (try clear hi); (try clear ho0); have p787 : 0 ≤ (a1 : Int) := of_decide_eq_true (by first | (with_reducible assumption) | assumption); have q787 : a1 < (x11_4.length : Int) := of_decide_eq_true (by first | (with_reducible assumption) | assumption); obtain ⟨ad787, A787_0, c787_0, e787, hx787_0, hl787_0, hi787_0⟩ := at_L6 (Kd.S_reads' HO_11.out).2.2 a1 p787 q787; cases e787; obtain ⟨ce787, hce787, hMe787, hcc787⟩ := Kd.S_get HO_11.out [] a1 p787 (by first | exact q787 | exact of_decide_eq_true (by first | (with_reducible assumption) | assumption) | (have e_ := (Kd.S_reads' HO_11.out).1; omega)); obtain ⟨ve787_0, rfl, ge787_0⟩ := hMe787; have hv787_0 := hcc787 0 _ rfl; rw [Nat.add_zero, show ((Kd.slice 4 Kd.bool)).sz = 1 from rfl, Nat.mul_one] at hv787_0; replace hv787_0 := Option.some.inj (hv787_0.symm.trans hx787_0); rw [hv787_0] at ge787_0; have HL787_0 := Aside0.mk (show Kd.R Kd.bool 4 _ _ _ _ (rd_L6 x11_4 a1) from ge787_0); clear hv787_0 ge787_0; have HX787_0 := Aside0.mk hx787_0; clear hcc787 hce787; have HR787_0 := Aside0.mk hi787_0; have HC787_0 := Aside0.mk hl787_0; clear hi787_0 hl787_0; replace p787 := eq_true p787; replace q787 := eq_true q787; have p788 : 0 ≤ (a2 : Int) := of_decide_eq_true (by first | (with_reducible assumption) | assumption); have q788 : a2 < ((rd_L6 x11_4 a1).length : Int) := of_decide_eq_true (by first | (with_reducible assumption) | assumption); obtain ⟨ad788, e788, hx788_0⟩ := Kd.at_bool (by repeat (first | (with_reducible exact HR787_0.out) | (with_reducible refine Kd.C_alloc ?_ _) | (with_reducible refine Kd.C_drewN ?_ _) | (with_reducible refine Kd.C_drew ?_) | exact HR787_0.out)) a2 p788 q788; cases e788; replace p788 := eq_true p788; replace q788 := eq_true q788))
              go_ret
              exact ⟨by first | rfl | (simp [errW_none, errW_some] <;> rfl) | (simp [*, errW_none, errW_some] <;> rfl), by repeat (first | (with_reducible first | exact HB.out | apply below_alloc | apply pw_below_drewN | apply below_drew1 | refine below_set ?_ GE745.out) | exact HB.out)⟩
             rw [if_pos c122] at H
             have c122b0 : ((t786 == 4) == (rdOf false (rd_L6 x11_4 a1) a2)) = true := c122
             (try (have c122b1 : decide ((t786 == 4) = (rdOf false (rd_L6 x11_4 a1) a2)) = true := by simpa using c122))
             (try (have c122b2 : ((t786 == 4) == (rdOf false (rd_L6 x11_4 a1) a2)) = true := by simpa using c122))
             clear c122
             replace H := Option.bind_eq_some_iff.mp H
             obtain ⟨t789, A1230, H⟩ := H
             replace H : (some t789) = some r := H
             have A123 := Aside0.mk A1230
             clear A1230
             obtain rfl := Option.some.inj H
             have hcz124_0 : wr.cell? ⟨gb745, 0, none⟩ = some (.slice A0_0 l0_0.length c0_0) := (blk_cell BK745.out 0).trans rfl
             have hfz124_0 := blk_frozen BK745.out 0
             go_wp2_with (first | ((with_reducible refine gate_callee (f := 36) rfl ?_); refine goesL_ (some 188) rfl rfl Try.func36 (by kernel_rfl) rfl #[.agg #[.slice A0_0 l0_0.length c0_0], .int .i64 a1, .int .i64 a2] rfl (by (try simp only [List.map_toArray, List.map_cons, List.map_nil]); first | done | rfl | (simp only [List.length_drop, List.length_take]; rfl)) ?_; (with_reducible refine (reset_Merge.calls k5 _ _ l0_0 a1 a2 t783 t786 _ ?side1 ?side2 A117.out).mono ?_); (case side1 => repeat (first | exact (Kd.C_below HR0_0.out HB.out) | (with_reducible refine Kd.C_alloc ?_ _) | (with_reducible refine Kd.C_drewN ?_ _) | (with_reducible refine Kd.C_drew ?_))); (case side2 => exact HC0_0.out); rintro e w125 ⟨v784, rfl, ho0, hb⟩; refine ⟨_, rfl, ?_⟩; have n0_ := Aside0.mk (Kd.R_below (by (with_reducible repeat (first | apply Kd.R_alloc | apply Kd.R_drewN | apply Kd.R_drew)); exact HO_9.out) hb); have n1_ := Aside0.mk (Kd.S_below (by (with_reducible repeat (first | apply Kd.S_alloc | apply Kd.S_drewN | apply Kd.S_drew)); exact HO_11.out) hb); have n2_ := Aside0.mk (Kd.R_lower ho0 (below_size (by repeat (first | (with_reducible first | exact HB.out | apply below_alloc | apply pw_below_drewN | apply below_drew1 | refine below_set ?_ GE745.out) | exact HB.out)))); have n3_ := Aside0.mk (blk_below (g := gb745) (o := .cells #[.slice A0_0 l0_0.length c0_0] 24 (0, 0)) (by (with_reducible repeat (first | refine blk_drewN ?_ _ | refine blk_drew ?_ | refine blk_alloc ?_ _)); exact BK745.out) hb); have n4_ := Aside0.mk (below_step (by repeat (first | (with_reducible first | exact HB.out | apply below_alloc | apply pw_below_drewN | apply below_drew1 | refine below_set ?_ GE745.out) | exact HB.out)) hb); clear HO_9; clear HO_11; clear BK745; clear HB; have HO_9 := n0_; have HO_11 := n1_; have HO785 := n2_; have BK745 := n3_; have HB := n4_; clear n0_ n1_ n2_ n3_ n4_; (try clear hb); (try clear hb2); (try clear hk); (try clear hi); (try clear ho0); have p787 : 0 ≤ (a1 : Int) := of_decide_eq_true (by first | (with_reducible assumption) | assumption); have q787 : a1 < (x11_4.length : Int) := of_decide_eq_true (by first | (with_reducible assumption) | assumption); obtain ⟨ad787, A787_0, c787_0, e787, hx787_0, hl787_0, hi787_0⟩ := at_L6 (Kd.S_reads' HO_11.out).2.2 a1 p787 q787; cases e787; obtain ⟨ce787, hce787, hMe787, hcc787⟩ := Kd.S_get HO_11.out [] a1 p787 (by first | exact q787 | exact of_decide_eq_true (by first | (with_reducible assumption) | assumption) | (have e_ := (Kd.S_reads' HO_11.out).1; omega)); obtain ⟨ve787_0, rfl, ge787_0⟩ := hMe787; have hv787_0 := hcc787 0 _ rfl; rw [Nat.add_zero, show ((Kd.slice 4 Kd.bool)).sz = 1 from rfl, Nat.mul_one] at hv787_0; replace hv787_0 := Option.some.inj (hv787_0.symm.trans hx787_0); rw [hv787_0] at ge787_0; have HL787_0 := Aside0.mk (show Kd.R Kd.bool 4 _ _ _ _ (rd_L6 x11_4 a1) from ge787_0); clear hv787_0 ge787_0; have HX787_0 := Aside0.mk hx787_0; clear hcc787 hce787; have HR787_0 := Aside0.mk hi787_0; have HC787_0 := Aside0.mk hl787_0; clear hi787_0 hl787_0; replace p787 := eq_true p787; replace q787 := eq_true q787; have p788 : 0 ≤ (a2 : Int) := of_decide_eq_true (by first | (with_reducible assumption) | assumption); have q788 : a2 < ((rd_L6 x11_4 a1).length : Int) := of_decide_eq_true (by first | (with_reducible assumption) | assumption); obtain ⟨ad788, e788, hx788_0⟩ := Kd.at_bool (by repeat (first | (with_reducible exact HR787_0.out) | (with_reducible refine Kd.C_alloc ?_ _) | (with_reducible refine Kd.C_drewN ?_ _) | (with_reducible refine Kd.C_drew ?_) | exact HR787_0.out)) a2 p788 q788; cases e788; replace p788 := eq_true p788; replace q788 := eq_true q788) | (go_at_call 37; (with_reducible refine (mizmazelaw03_awake.calls k5  t789 _ A123.out).mono ?_); rintro e w126 ⟨rfl, hb⟩; have n0_ := Aside0.mk (Kd.R_below (by (with_reducible repeat (first | apply Kd.R_alloc | apply Kd.R_drewN | apply Kd.R_drew)); exact HO_9.out) hb); have n1_ := Aside0.mk (Kd.S_below (by (with_reducible repeat (first | apply Kd.S_alloc | apply Kd.S_drewN | apply Kd.S_drew)); exact HO_11.out) hb); have n2_ := Aside0.mk (Kd.R_below (by (with_reducible repeat (first | apply Kd.R_alloc | apply Kd.R_drewN | apply Kd.R_drew)); exact HO785.out) hb); have n3_ := Aside0.mk (Kd.R_below (by (with_reducible repeat (first | apply Kd.R_alloc | apply Kd.R_drewN | apply Kd.R_drew)); exact HL787_0.out) hb); have n4_ := Aside0.mk (blk_below (g := gb745) (o := .cells #[.slice A0_0 l0_0.length c0_0] 24 (0, 0)) (by (with_reducible repeat (first | refine blk_drewN ?_ _ | refine blk_drew ?_ | refine blk_alloc ?_ _)); exact BK745.out) hb); have n5_ := Aside0.mk (Kd.C_below (by repeat (first | (with_reducible exact HR787_0.out) | (with_reducible refine Kd.C_alloc ?_ _) | (with_reducible refine Kd.C_drewN ?_ _) | (with_reducible refine Kd.C_drew ?_) | exact HR787_0.out)) hb); have n6_ := Aside0.mk (pw_cell_below hb HX787_0.out); have n7_ := Aside0.mk (below_step (by repeat (first | (with_reducible first | exact HB.out | apply below_alloc | apply pw_below_drewN | apply below_drew1 | refine below_set ?_ GE745.out) | exact HB.out)) hb); clear HO_9; clear HO_11; clear HO785; clear HL787_0; clear BK745; clear HR787_0; clear HX787_0; clear HB; have HO_9 := n0_; have HO_11 := n1_; have HO785 := n2_; have HL787_0 := n3_; have BK745 := n4_; have HR787_0 := n5_; have HX787_0 := n6_; have HB := n7_; clear n0_ n1_ n2_ n3_ n4_ n5_ n6_ n7_; (try clear hb); (try clear hb2); (try clear hk); (try clear hi)))
             go_ret
             exact ⟨by first | rfl | (simp [errW_none, errW_some] <;> rfl) | (simp [*, errW_none, errW_some] <;> rfl), by repeat (first | (with_reducible first | exact HB.out | apply below_alloc | apply pw_below_drewN | apply below_drew1 | refine below_set ?_ GE745.out) | exact HB.out)⟩
            rw [if_pos c91] at H
            have c91b0 : decide (x14_5 < (t754.length : Int)) = true := decide_eq_true c91
            clear c91
            have H' := Aside0.mk H
            clear H
            go_wp2
            go_loopg [15] k5 (fun kq v15 w' => ∃ (x15_6 : Int), v15 = .int .i64 x15_6 ∧ Aside0 (mizmazelaw03_ResetClosed.l3 kq a1 a2 t754 x11_4 x14_5 x15_6 l0_0 = some r) ∧ Aside0 (kq ≤ k5) ∧ Aside0 (Kd.R k49 49 w' w.heap.size (fun _ => True) (.slice Ao90 t754.length co90) t754) ∧ Aside0 (Kd.S (Kd.slice 4 Kd.bool) 61 w' w.heap.size (fun _ => True) (.slice Ao55 x11_4.length co55) x11_4) ∧ Aside0 (w'.heap[gb745]? = some (.cells #[(.slice A0_0 l0_0.length c0_0)] 24 (0, 0))) ∧ Aside0 (Below w.heap.size w w'))
            case atStart => exact ⟨(0), (by first | rfl | (simp; done) | (simp [*]; done)), H', ⟨Nat.le_refl _⟩, ⟨by (try simp only [hl11_4]); (with_reducible repeat (first | apply Kd.R_alloc | apply Kd.R_drewN | apply Kd.R_drew)); exact HO_9.out⟩, ⟨by (try simp only [hl11_4]); (with_reducible repeat (first | apply Kd.S_alloc | apply Kd.S_drewN | apply Kd.S_drew)); exact HO_11.out⟩, ⟨by (try simp only [hl11_4]); (with_reducible repeat (first | refine blk_drewN ?_ _ | refine blk_drew ?_ | refine blk_alloc ?_ _)); exact BK745.out⟩, ⟨by repeat (first | (with_reducible first | exact HB.out | apply below_alloc | apply pw_below_drewN | apply below_drew1 | refine below_set ?_ GE745.out) | exact HB.out)⟩⟩
            case round => as_aux_lemma =>
             clear H'
             try clear p2
             try clear c4
             try clear c5
             try clear c6
             try clear p6
             try clear c7
             try clear p7
             try clear q7
             try clear hx7
             try clear hf7
             try clear c8
             try clear q8
             try clear c9
             try clear c40
             try clear c56
             try clear c56b0
             try clear c57
             try clear c59
             try clear c61
             try clear p64
             try clear c67
             try clear c68
             try clear c69
             try clear c70
             try clear p71
             try clear q71
             try clear hx71
             try clear hf71
             try clear c72
             try clear c73
             try clear p74
             try clear q74
             try clear hx74
             try clear hf74
             try clear p76
             try clear q76
             try clear hx76
             try clear c77
             try clear p77
             try clear q77
             try clear hx77
             try clear c79
             try clear q79
             try clear c81
             try clear q81
             try clear c91
             try clear c91b0
             try clear hx71_0
             try clear hx74_0
             try clear hx765_0
             try clear hx765_1
             try clear hx767_0
             try clear hx767_1
             try clear hx772_0
             try clear hx773_0
             try clear hx773_1
             try clear hx777_0
             try clear hx777_1
             try clear hx778_0
             try clear hx779_0
             try clear hx779_1
             try clear p2
             try clear p6
             try clear p64
             try clear p7
             try clear p71
             try clear p74
             try clear p76
             try clear p765
             try clear p767
             try clear p77
             try clear p772
             try clear p773
             try clear p777
             try clear p778
             try clear p779
             try clear q7
             try clear q71
             try clear q74
             try clear q76
             try clear q765
             try clear q767
             try clear q77
             try clear q772
             try clear q773
             try clear q777
             try clear q778
             try clear q779
             try clear q79
             try clear q8
             try clear q81
             obtain ⟨x15_6, rfl, HA, HK6, HO_9, HO_11, BK745, HB⟩ := hrel
             cases gk with
             | zero => exact absurd HA.out (by simp [mizmazelaw03_ResetClosed.l3])
             | succ k6 =>
              have H := HA.out
              clear HA
              simp only [mizmazelaw03_ResetClosed.l3] at H
              replace H := Option.bind_eq_some_iff.mp H
              obtain ⟨t790, A920, H⟩ := H
              replace H : (if x15_6 < t790 then (if 0 ≤ x14_5 then (if x14_5 < (t754.length : Int) then (if 0 ≤ ((rd_T49 t754 x14_5).f0) then (if ((rd_T49 t754 x14_5).f0) < (l0_0.length : Int) then (if 0 ≤ x15_6 then (if x15_6 < ((rd_L1 l0_0 ((rd_T49 t754 x14_5).f0)).length : Int) then (if 0 ≤ (rd (rd_L1 l0_0 ((rd_T49 t754 x14_5).f0)) x15_6) then (if (rd (rd_L1 l0_0 ((rd_T49 t754 x14_5).f0)) x15_6) < (x11_4.length : Int) then (if 0 ≤ ((rd_T49 t754 x14_5).f1) then (if ((rd_T49 t754 x14_5).f1) < (l0_0.length : Int) then (if x15_6 < ((rd_L1 l0_0 ((rd_T49 t754 x14_5).f1)).length : Int) then (if 0 ≤ (rd (rd_L1 l0_0 ((rd_T49 t754 x14_5).f1)) x15_6) then (if (rd (rd_L1 l0_0 ((rd_T49 t754 x14_5).f1)) x15_6) < ((rd_L6 x11_4 (rd (rd_L1 l0_0 ((rd_T49 t754 x14_5).f0)) x15_6)).length : Int) then (if (rdOf false (rd_L6 x11_4 (rd (rd_L1 l0_0 ((rd_T49 t754 x14_5).f0)) x15_6)) (rd (rd_L1 l0_0 ((rd_T49 t754 x14_5).f1)) x15_6) = true) then (mizmazelaw03_ResetClosed.l3 k6 a1 a2 t754 x11_4 x14_5 (wrap64 (x15_6 + 1)) l0_0) else (some false)) else (none)) else (none)) else (none)) else (none)) else (none)) else (none)) else (none)) else (none)) else (none)) else (none)) else (none)) else (none)) else (none)) else (mizmazelaw03_ResetClosed.l2 k6 a1 a2 t754 x11_4 (wrap64 (x14_5 + 1)) l0_0)) = some r := H
              have A92 := Aside0.mk A920
              clear A920
              by_cases c93 : x15_6 < t790
              rotate_left
              ·rw [if_neg c93] at H
               have c93b0 : decide (x15_6 < t790) = false := decide_eq_false c93
               clear c93
               have H' := Aside0.mk H
               clear H
               have hcz115_0 : wr.cell? ⟨gb745, 0, none⟩ = some (.slice A0_0 l0_0.length c0_0) := (blk_cell BK745.out 0).trans rfl
               have hfz115_0 := blk_frozen BK745.out 0
               go_wp2_with (first | ((with_reducible refine gate_callee (f := 45) rfl ?_); refine goesL_ (some 150) rfl rfl Try.func45 (by kernel_rfl) rfl #[.agg #[.slice A0_0 l0_0.length c0_0]] rfl (by (try simp only [List.map_toArray, List.map_cons, List.map_nil]); first | done | rfl | (simp only [List.length_drop, List.length_take]; rfl)) ?_; (with_reducible refine (mizmazeref01_Letters.calls _ _ l0_0 t790 _ ?side1 ?side2 A92.out).mono ?_); (case side1 => repeat (first | exact (Kd.C_below HR0_0.out HB.out) | (with_reducible refine Kd.C_alloc ?_ _) | (with_reducible refine Kd.C_drewN ?_ _) | (with_reducible refine Kd.C_drew ?_))); (case side2 => exact HC0_0.out); rintro e w116 ⟨rfl, hb⟩; refine ⟨_, rfl, ?_⟩; have n0_ := Aside0.mk (Kd.R_below (by (with_reducible repeat (first | apply Kd.R_alloc | apply Kd.R_drewN | apply Kd.R_drew)); exact HO_9.out) hb); have n1_ := Aside0.mk (Kd.S_below (by (with_reducible repeat (first | apply Kd.S_alloc | apply Kd.S_drewN | apply Kd.S_drew)); exact HO_11.out) hb); have n2_ := Aside0.mk (blk_below (g := gb745) (o := .cells #[.slice A0_0 l0_0.length c0_0] 24 (0, 0)) (by (with_reducible repeat (first | refine blk_drewN ?_ _ | refine blk_drew ?_ | refine blk_alloc ?_ _)); exact BK745.out) hb); have n3_ := Aside0.mk (below_step (by repeat (first | (with_reducible first | exact HB.out | apply below_alloc | apply pw_below_drewN | apply below_drew1 | refine below_set ?_ GE745.out) | exact HB.out)) hb); clear HO_9; clear HO_11; clear BK745; clear HB; have HO_9 := n0_; have HO_11 := n1_; have BK745 := n2_; have HB := n3_; clear n0_ n1_ n2_ n3_; (try clear hb); (try clear hb2); (try clear hk); (try clear hi)))
               go_roundg k6
               case measure => have := HJ3.out; have := HJ27.out; have := HK3.out; have := HK4.out; have := HK5.out; have := HK6.out; omega
               case rel => exact ⟨(wrap64 (x14_5 + 1)), (by first | rfl | (simp; done) | (simp [*]; done)), H', ⟨by have := HJ3.out; have := HJ27.out; have := HK3.out; have := HK4.out; have := HK5.out; have := HK6.out; omega⟩, ⟨by (try simp only [hl11_4]); (with_reducible repeat (first | apply Kd.R_alloc | apply Kd.R_drewN | apply Kd.R_drew)); exact HO_9.out⟩, ⟨by (try simp only [hl11_4]); (with_reducible repeat (first | apply Kd.S_alloc | apply Kd.S_drewN | apply Kd.S_drew)); exact HO_11.out⟩, ⟨by (try simp only [hl11_4]); (with_reducible repeat (first | refine blk_drewN ?_ _ | refine blk_drew ?_ | refine blk_alloc ?_ _)); exact BK745.out⟩, ⟨by repeat (first | (with_reducible first | exact HB.out | apply below_alloc | apply pw_below_drewN | apply below_drew1 | refine below_set ?_ GE745.out) | exact HB.out)⟩⟩
              rw [if_pos c93] at H
              have c93b0 : decide (x15_6 < t790) = true := decide_eq_true c93
              clear c93
              by_cases c94 : 0 ≤ x14_5
              rotate_left
              ·rw [if_neg c94] at H
               exact absurd H (by simp)
              rw [if_pos c94] at H
              have c94b0 : decide (0 ≤ x14_5) = true := decide_eq_true c94
              clear c94
              by_cases c95 : x14_5 < (t754.length : Int)
              rotate_left
              ·rw [if_neg c95] at H
               exact absurd H (by simp)
              rw [if_pos c95] at H
              have c95b0 : decide (x14_5 < (t754.length : Int)) = true := decide_eq_true c95
              clear c95
              by_cases c96 : 0 ≤ ((rd_T49 t754 x14_5).f0)
              rotate_left
              ·rw [if_neg c96] at H
               exact absurd H (by simp)
              rw [if_pos c96] at H
              have c96b0 : decide (0 ≤ ((rd_T49 t754 x14_5).f0)) = true := decide_eq_true c96
              clear c96
              by_cases c97 : ((rd_T49 t754 x14_5).f0) < (l0_0.length : Int)
              rotate_left
              ·rw [if_neg c97] at H
               exact absurd H (by simp)
              rw [if_pos c97] at H
              have c97b0 : decide (((rd_T49 t754 x14_5).f0) < (l0_0.length : Int)) = true := decide_eq_true c97
              clear c97
              by_cases c98 : 0 ≤ x15_6
              rotate_left
              ·rw [if_neg c98] at H
               exact absurd H (by simp)
              rw [if_pos c98] at H
              have c98b0 : decide (0 ≤ x15_6) = true := decide_eq_true c98
              clear c98
              by_cases c99 : x15_6 < ((rd_L1 l0_0 ((rd_T49 t754 x14_5).f0)).length : Int)
              rotate_left
              ·rw [if_neg c99] at H
               exact absurd H (by simp)
              rw [if_pos c99] at H
              have c99b0 : decide (x15_6 < ((rd_L1 l0_0 ((rd_T49 t754 x14_5).f0)).length : Int)) = true := decide_eq_true c99
              clear c99
              by_cases c100 : 0 ≤ (rd (rd_L1 l0_0 ((rd_T49 t754 x14_5).f0)) x15_6)
              rotate_left
              ·rw [if_neg c100] at H
               exact absurd H (by simp)
              rw [if_pos c100] at H
              have c100b0 : decide (0 ≤ (rd (rd_L1 l0_0 ((rd_T49 t754 x14_5).f0)) x15_6)) = true := decide_eq_true c100
              clear c100
              by_cases c101 : (rd (rd_L1 l0_0 ((rd_T49 t754 x14_5).f0)) x15_6) < (x11_4.length : Int)
              rotate_left
              ·rw [if_neg c101] at H
               exact absurd H (by simp)
              rw [if_pos c101] at H
              have c101b0 : decide ((rd (rd_L1 l0_0 ((rd_T49 t754 x14_5).f0)) x15_6) < (x11_4.length : Int)) = true := decide_eq_true c101
              clear c101
              by_cases c102 : 0 ≤ ((rd_T49 t754 x14_5).f1)
              rotate_left
              ·rw [if_neg c102] at H
               exact absurd H (by simp)
              rw [if_pos c102] at H
              have c102b0 : decide (0 ≤ ((rd_T49 t754 x14_5).f1)) = true := decide_eq_true c102
              clear c102
              by_cases c103 : ((rd_T49 t754 x14_5).f1) < (l0_0.length : Int)
              rotate_left
              ·rw [if_neg c103] at H
               exact absurd H (by simp)
              rw [if_pos c103] at H
              have c103b0 : decide (((rd_T49 t754 x14_5).f1) < (l0_0.length : Int)) = true := decide_eq_true c103
              clear c103
              by_cases c104 : x15_6 < ((rd_L1 l0_0 ((rd_T49 t754 x14_5).f1)).length : Int)
              rotate_left
              ·rw [if_neg c104] at H
               exact absurd H (by simp)
              rw [if_pos c104] at H
              have c104b0 : decide (x15_6 < ((rd_L1 l0_0 ((rd_T49 t754 x14_5).f1)).length : Int)) = true := decide_eq_true c104
              clear c104
              by_cases c105 : 0 ≤ (rd (rd_L1 l0_0 ((rd_T49 t754 x14_5).f1)) x15_6)
              rotate_left
              ·rw [if_neg c105] at H
               exact absurd H (by simp)
              rw [if_pos c105] at H
              have c105b0 : decide (0 ≤ (rd (rd_L1 l0_0 ((rd_T49 t754 x14_5).f1)) x15_6)) = true := decide_eq_true c105
              clear c105
              by_cases c106 : (rd (rd_L1 l0_0 ((rd_T49 t754 x14_5).f1)) x15_6) < ((rd_L6 x11_4 (rd (rd_L1 l0_0 ((rd_T49 t754 x14_5).f0)) x15_6)).length : Int)
              rotate_left
              ·rw [if_neg c106] at H
               exact absurd H (by simp)
              rw [if_pos c106] at H
              have c106b0 : decide ((rd (rd_L1 l0_0 ((rd_T49 t754 x14_5).f1)) x15_6) < ((rd_L6 x11_4 (rd (rd_L1 l0_0 ((rd_T49 t754 x14_5).f0)) x15_6)).length : Int)) = true := decide_eq_true c106
              clear c106
              obtain ⟨bq107, hbq107⟩ : ∃ b_ : Bool, b_ = (rdOf false (rd_L6 x11_4 (rd (rd_L1 l0_0 ((rd_T49 t754 x14_5).f0)) x15_6)) (rd (rd_L1 l0_0 ((rd_T49 t754 x14_5).f1)) x15_6)) := ⟨_, rfl⟩
              replace H : (if (bq107 = true) then (mizmazelaw03_ResetClosed.l3 k6 a1 a2 t754 x11_4 x14_5 (wrap64 (x15_6 + 1)) l0_0) else (some false)) = some r := by rw [← hbq107] at H; exact H
              have Nbq107 := Aside0.mk hbq107
              clear hbq107
              by_cases c108 : (bq107 = true)
              rotate_left
              ·replace c108 := Bool.eq_false_iff.mpr c108
               subst c108
               have H1 : (some false) = some r := by rw [if_neg (show ¬ (false = true) by decide)] at H; exact H
               clear H
               have H := H1
               clear H1
               obtain rfl := Option.some.inj H
               have hcz112_0 : wr.cell? ⟨gb745, 0, none⟩ = some (.slice A0_0 l0_0.length c0_0) := (blk_cell BK745.out 0).trans rfl
               have hfz112_0 := blk_frozen BK745.out 0
               try go_wp2_with (first | ((with_reducible refine gate_callee (f := 45) rfl ?_); refine goesL_ (some 150) rfl rfl Try.func45 (by kernel_rfl) rfl #[.agg #[.slice A0_0 l0_0.length c0_0]] rfl (by (try simp only [List.map_toArray, List.map_cons, List.map_nil]); first | done | rfl | (simp only [List.length_drop, List.length_take]; rfl)) ?_; (with_reducible refine (mizmazeref01_Letters.calls _ _ l0_0 t790 _ ?side1 ?side2 A92.out).mono ?_); (case side1 => repeat (first | exact (Kd.C_below HR0_0.out HB.out) | (with_reducible refine Kd.C_alloc ?_ _) | (with_reducible refine Kd.C_drewN ?_ _) | (with_reducible refine Kd.C_drew ?_))); (case side2 => exact HC0_0.out); rintro e w113 ⟨rfl, hb⟩; refine ⟨_, rfl, ?_⟩; have n0_ := Aside0.mk (Kd.R_below (by (with_reducible repeat (first | apply Kd.R_alloc | apply Kd.R_drewN | apply Kd.R_drew)); exact HO_9.out) hb); have n1_ := Aside0.mk (Kd.S_below (by (with_reducible repeat (first | apply Kd.S_alloc | apply Kd.S_drewN | apply Kd.S_drew)); exact HO_11.out) hb); have n2_ := Aside0.mk (blk_below (g := gb745) (o := .cells #[.slice A0_0 l0_0.length c0_0] 24 (0, 0)) (by (with_reducible repeat (first | refine blk_drewN ?_ _ | refine blk_drew ?_ | refine blk_alloc ?_ _)); exact BK745.out) hb); have n3_ := Aside0.mk (below_step (by repeat (first | (with_reducible first | exact HB.out | apply below_alloc | apply pw_below_drewN | apply below_drew1 | refine below_set ?_ GE745.out) | exact HB.out)) hb); clear HO_9; clear HO_11; clear BK745; clear HB; have HO_9 := n0_; have HO_11 := n1_; have BK745 := n2_; have HB := n3_; clear n0_ n1_ n2_ n3_; (try clear hb); (try clear hb2); (try clear hk); (try clear hi)))
               have n0_ := Aside0.mk (Kd.R_drew HO_9.out)
               have n1_ := Aside0.mk (Kd.S_drew HO_11.out)
               have n2_ := Aside0.mk (blk_drew BK745.out)
               have n3_ := Aside0.mk (below_drew1 HB.out)
               clear HO_9
               clear HO_11
               clear BK745
               clear HB
               have HO_9 := n0_
               have HO_11 := n1_
               have BK745 := n2_
               have HB := n3_
               clear n0_ n1_ n2_ n3_
               have p791 : 0 ≤ (x14_5 : Int) := of_decide_eq_true (by first | (with_reducible assumption) | assumption)
               have q791 : x14_5 < (t754.length : Int) := of_decide_eq_true (by first | (with_reducible assumption) | assumption)
               obtain ⟨ad791, e791, hx791_0, hx791_1⟩ := at_T49 (Kd.R_reads' HO_9.out).2.2 x14_5 p791 q791
               cases e791
               replace p791 := eq_true p791
               replace q791 := eq_true q791
               have p792 : 0 ≤ (((rd_T49 t754 x14_5).f0) : Int) := of_decide_eq_true (by first | (with_reducible assumption) | assumption)
               have q792 : ((rd_T49 t754 x14_5).f0) < (l0_0.length : Int) := of_decide_eq_true (by first | (with_reducible assumption) | assumption)
               obtain ⟨ad792, A792_0, c792_0, e792, hx792_0, hl792_0, hi792_0⟩ := at_L1 HR0_0.out ((rd_T49 t754 x14_5).f0) p792 q792
               have hw792_0 := hx792_0
               cases e792
               replace hx792_0 := (HB.out.cell (World.block_lt_of_cell? w _ hx792_0)).trans hx792_0
               have HR792_0 := Aside0.mk hi792_0
               have HC792_0 := Aside0.mk hl792_0
               clear hi792_0 hl792_0
               replace p792 := eq_true p792
               replace q792 := eq_true q792
               have p793 : 0 ≤ (x15_6 : Int) := of_decide_eq_true (by first | (with_reducible assumption) | assumption)
               have q793 : x15_6 < ((rd_L1 l0_0 ((rd_T49 t754 x14_5).f0)).length : Int) := of_decide_eq_true (by first | (with_reducible assumption) | assumption)
               obtain ⟨ad793, e793, hx793_0⟩ := Kd.at_int HR792_0.out x15_6 p793 q793
               have hw793_0 := hx793_0
               cases e793
               replace hx793_0 := (HB.out.cell (World.block_lt_of_cell? w _ hx793_0)).trans hx793_0
               replace p793 := eq_true p793
               replace q793 := eq_true q793
               have p794 : 0 ≤ ((rd (rd_L1 l0_0 ((rd_T49 t754 x14_5).f0)) x15_6) : Int) := of_decide_eq_true (by first | (with_reducible assumption) | assumption)
               have q794 : (rd (rd_L1 l0_0 ((rd_T49 t754 x14_5).f0)) x15_6) < (x11_4.length : Int) := of_decide_eq_true (by first | (with_reducible assumption) | assumption)
               obtain ⟨ad794, A794_0, c794_0, e794, hx794_0, hl794_0, hi794_0⟩ := at_L6 (Kd.S_reads' HO_11.out).2.2 (rd (rd_L1 l0_0 ((rd_T49 t754 x14_5).f0)) x15_6) p794 q794
               cases e794
               obtain ⟨ce794, hce794, hMe794, hcc794⟩ := Kd.S_get HO_11.out [] (rd (rd_L1 l0_0 ((rd_T49 t754 x14_5).f0)) x15_6) p794 (by first | exact q794 | exact of_decide_eq_true (by first | (with_reducible assumption) | assumption) | (have e_ := (Kd.S_reads' HO_11.out).1; omega))
               obtain ⟨ve794_0, rfl, ge794_0⟩ := hMe794
               have hv794_0 := hcc794 0 _ rfl
               rw [Nat.add_zero, show ((Kd.slice 4 Kd.bool)).sz = 1 from rfl, Nat.mul_one] at hv794_0
               replace hv794_0 := Option.some.inj (hv794_0.symm.trans hx794_0)
               rw [hv794_0] at ge794_0
               have HL794_0 := Aside0.mk (show Kd.R Kd.bool 4 _ _ _ _ (rd_L6 x11_4 (rd (rd_L1 l0_0 ((rd_T49 t754 x14_5).f0)) x15_6)) from ge794_0)
               clear hv794_0 ge794_0
               have HX794_0 := Aside0.mk hx794_0
               clear hcc794 hce794
               have HR794_0 := Aside0.mk hi794_0
               have HC794_0 := Aside0.mk hl794_0
               clear hi794_0 hl794_0
               replace p794 := eq_true p794
               replace q794 := eq_true q794
               have p795 : 0 ≤ (x14_5 : Int) := of_decide_eq_true (by first | (with_reducible assumption) | assumption)
               have q795 : x14_5 < (t754.length : Int) := of_decide_eq_true (by first | (with_reducible assumption) | assumption)
               obtain ⟨ad795, e795, hx795_0, hx795_1⟩ := at_T49 (Kd.R_reads' HO_9.out).2.2 x14_5 p795 q795
               obtain rfl : ad791 = ad795 := (by injection e795)
               replace p795 := eq_true p795
               replace q795 := eq_true q795
               have p796 : 0 ≤ (((rd_T49 t754 x14_5).f1) : Int) := of_decide_eq_true (by first | (with_reducible assumption) | assumption)
               have q796 : ((rd_T49 t754 x14_5).f1) < (l0_0.length : Int) := of_decide_eq_true (by first | (with_reducible assumption) | assumption)
               obtain ⟨ad796, A796_0, c796_0, e796, hx796_0, hl796_0, hi796_0⟩ := at_L1 HR0_0.out ((rd_T49 t754 x14_5).f1) p796 q796
               have hw796_0 := hx796_0
               obtain rfl : ad792 = ad796 := (by injection e796)
               replace hx796_0 := (HB.out.cell (World.block_lt_of_cell? w _ hx796_0)).trans hx796_0
               have HR796_0 := Aside0.mk hi796_0
               have HC796_0 := Aside0.mk hl796_0
               clear hi796_0 hl796_0
               replace p796 := eq_true p796
               replace q796 := eq_true q796
               have p797 : 0 ≤ (x15_6 : Int) := of_decide_eq_true (by first | (with_reducible assumption) | assumption)
               have q797 : x15_6 < ((rd_L1 l0_0 ((rd_T49 t754 x14_5).f1)).length : Int) := of_decide_eq_true (by first | (with_reducible assumption) | assumption)
               obtain ⟨ad797, e797, hx797_0⟩ := Kd.at_int HR796_0.out x15_6 p797 q797
               have hw797_0 := hx797_0
               cases e797
               replace hx797_0 := (HB.out.cell (World.block_lt_of_cell? w _ hx797_0)).trans hx797_0
               replace p797 := eq_true p797
               replace q797 := eq_true q797
               have p798 : 0 ≤ ((rd (rd_L1 l0_0 ((rd_T49 t754 x14_5).f1)) x15_6) : Int) := of_decide_eq_true (by first | (with_reducible assumption) | assumption)
               have q798 : (rd (rd_L1 l0_0 ((rd_T49 t754 x14_5).f1)) x15_6) < ((rd_L6 x11_4 (rd (rd_L1 l0_0 ((rd_T49 t754 x14_5).f0)) x15_6)).length : Int) := of_decide_eq_true (by first | (with_reducible assumption) | assumption)
               obtain ⟨ad798, e798, hx798_0⟩ := Kd.at_bool (by repeat (first | (with_reducible exact HR794_0.out) | (with_reducible refine Kd.C_alloc ?_ _) | (with_reducible refine Kd.C_drewN ?_ _) | (with_reducible refine Kd.C_drew ?_) | exact HR794_0.out)) (rd (rd_L1 l0_0 ((rd_T49 t754 x14_5).f1)) x15_6) p798 q798
               (try rw [← Nbq107.out] at hx798_0)
               cases e798
               replace p798 := eq_true p798
               replace q798 := eq_true q798
               refine start_ (n := 30) (S := fun w' => w'.cell? ⟨gb745, 0, none⟩ = some (.slice (some ad792) l0_0.length c0_0) ∧ w'.cell? (ad791.add ((x14_5).toNat * 2)) = some (.int .i64 ((rd_T49 t754 x14_5).f0)) ∧ w'.cell? ⟨(ad791.add ((x14_5).toNat * 2)).block, (ad791.add ((x14_5).toNat * 2)).off + 1, none⟩ = some (.int .i64 ((rd_T49 t754 x14_5).f1)) ∧ w'.cell? (ad792.add (((rd_T49 t754 x14_5).f0)).toNat) = some (.slice (some ad793) (rd_L1 l0_0 ((rd_T49 t754 x14_5).f0)).length c792_0) ∧ w'.cell? (ad793.add (x15_6).toNat) = some (.int .i64 (rd (rd_L1 l0_0 ((rd_T49 t754 x14_5).f0)) x15_6)) ∧ w'.cell? (ad794.add ((rd (rd_L1 l0_0 ((rd_T49 t754 x14_5).f0)) x15_6)).toNat) = some (.slice (some ad798) (rd_L6 x11_4 (rd (rd_L1 l0_0 ((rd_T49 t754 x14_5).f0)) x15_6)).length c794_0) ∧ w'.cell? (ad791.add ((x14_5).toNat * 2)) = some (.int .i64 ((rd_T49 t754 x14_5).f0)) ∧ w'.cell? ⟨(ad791.add ((x14_5).toNat * 2)).block, (ad791.add ((x14_5).toNat * 2)).off + 1, none⟩ = some (.int .i64 ((rd_T49 t754 x14_5).f1)) ∧ w'.cell? (ad792.add (((rd_T49 t754 x14_5).f1)).toNat) = some (.slice (some ad797) (rd_L1 l0_0 ((rd_T49 t754 x14_5).f1)).length c796_0) ∧ w'.cell? (ad797.add (x15_6).toNat) = some (.int .i64 (rd (rd_L1 l0_0 ((rd_T49 t754 x14_5).f1)) x15_6)) ∧ w'.cell? (ad798.add ((rd (rd_L1 l0_0 ((rd_T49 t754 x14_5).f1)) x15_6)).toNat) = some (.bool false)) (ds := []) #[false, false, false, false, false, false, false, false, false, false, false, false, false, false, false, false, false, false, false, false, false, false, false, false, false, false, false, false, false, false] (by kernel_rfl) rfl rfl ⟨(blk_cell BK745.out 0).trans rfl, hx791_0, hx791_1, ((HB.out.cell (World.block_lt_of_cell? w _ hw792_0)).trans hw792_0), ((HB.out.cell (World.block_lt_of_cell? w _ hw793_0)).trans hw793_0), hx794_0, hx795_0, hx795_1, ((HB.out.cell (World.block_lt_of_cell? w _ hw796_0)).trans hw796_0), ((HB.out.cell (World.block_lt_of_cell? w _ hw797_0)).trans hw797_0), hx798_0⟩ (fun hHeld => ?_); refine with_tabW mizmazelaw03_ResetClosed.tab24 mizmazelaw03_ResetClosed.bits24 (fun HT_ HW_ => ?_)
               generalize w113.drew = w114 at HO_9 HO_11 BK745 HB HL794_0 HR792_0 HR794_0 HR796_0 HX794_0 hx791_0 hx791_1 hx792_0 hx793_0 hx794_0 hx795_0 hx795_1 hx796_0 hx797_0 hx798_0 hHeld ⊢
               refine pv_ 0 154 lrc31 HT_ ?_
               refine pv_ 1 155 lrc32 HT_ ?_
               refine pv_ 3 157 lrc69 HT_ ?_
               refine pv_ 4 158 lrc70 HT_ ?_
               refine pv_ 5 159 lrc71 HT_ ?_
               refine pv_ 6 160 lrc72 HT_ ?_
               refine pv_ 10 164 lrc73 HT_ ?_
               refine pv_ 15 169 lrc74 HT_ ?_
               refine pv_ 17 171 lrc75 HT_ ?_
               refine pv_ 18 172 lrc76 HT_ ?_
               refine pv_ 19 173 lrc77 HT_ ?_
               refine pv_ 20 174 lrc78 HT_ ?_
               refine pv_ 24 178 lrc79 HT_ ?_
               refine take_ (i := 2) (N := some 156) (v := ?_) (a' := ?_) lrc80 rfl rfl (take_ofW HT_.out HW_.out (by kernel_rfl)) (fun _ _ _ h => h) (Or.inl ⟨by rfl, ?_⟩) hHeld ?_ ?_
               rotate_left
               ·rintro w' ⟨s0, s1, s2, s3, s4, s5, s6, s7, s8, s9, s10⟩
                go_simp
                with_reducible rfl
               rotate_left
               ·simp only [Act.put, List.setIfInBounds_toArray, List.set_cons_zero, List.set_cons_succ, i64_w, i32_w]
                rfl
               refine take_ (i := 7) (N := some 161) (v := ?_) (a' := ?_) lrc81 rfl rfl (take_ofW HT_.out HW_.out (by kernel_rfl)) (fun _ _ _ h => h) (Or.inl ⟨by rfl, ?_⟩) hHeld ?_ ?_
               rotate_left
               ·rintro w' ⟨s0, s1, s2, s3, s4, s5, s6, s7, s8, s9, s10⟩
                go_simp
                with_reducible rfl
               rotate_left
               ·simp only [Act.put, List.setIfInBounds_toArray, List.set_cons_zero, List.set_cons_succ, i64_w, i32_w]
                rfl
               refine pv_ 8 162 lrc82 HT_ ?_
               refine take_ (i := 9) (N := some 163) (v := ?_) (a' := ?_) lrc83 rfl rfl (take_ofW HT_.out HW_.out (by kernel_rfl)) (fun _ _ _ h => h) (Or.inl ⟨by rfl, ?_⟩) hHeld ?_ ?_
               rotate_left
               ·rintro w' ⟨s0, s1, s2, s3, s4, s5, s6, s7, s8, s9, s10⟩
                go_simp
                with_reducible rfl
               rotate_left
               ·simp only [Act.put, List.setIfInBounds_toArray, List.set_cons_zero, List.set_cons_succ, i64_w, i32_w]
                rfl
               refine pv_ 11 165 lrc84 HT_ ?_
               refine take_ (i := 12) (N := some 166) (v := ?_) (a' := ?_) lrc85 rfl rfl (take_ofW HT_.out HW_.out (by kernel_rfl)) (fun _ _ _ h => h) (Or.inl ⟨by rfl, ?_⟩) hHeld ?_ ?_
               rotate_left
               ·rintro w' ⟨s0, s1, s2, s3, s4, s5, s6, s7, s8, s9, s10⟩
                go_simp
                with_reducible rfl
               rotate_left
               ·simp only [Act.put, List.setIfInBounds_toArray, List.set_cons_zero, List.set_cons_succ, i64_w, i32_w]
                rfl
               refine pv_ 13 167 lrc86 HT_ ?_
               refine take_ (i := 14) (N := some 168) (v := ?_) (a' := ?_) lrc87 rfl rfl (take_ofW HT_.out HW_.out (by kernel_rfl)) (fun _ _ _ h => h) (Or.inl ⟨by rfl, ?_⟩) hHeld ?_ ?_
               rotate_left
               ·rintro w' ⟨s0, s1, s2, s3, s4, s5, s6, s7, s8, s9, s10⟩
                go_simp
                with_reducible rfl
               rotate_left
               ·simp only [Act.put, List.setIfInBounds_toArray, List.set_cons_zero, List.set_cons_succ, i64_w, i32_w]
                rfl
               refine take_ (i := 16) (N := some 170) (v := ?_) (a' := ?_) lrc88 rfl rfl (take_ofW HT_.out HW_.out (by kernel_rfl)) (fun _ _ _ h => h) (Or.inl ⟨by rfl, ?_⟩) hHeld ?_ ?_
               rotate_left
               ·rintro w' ⟨s0, s1, s2, s3, s4, s5, s6, s7, s8, s9, s10⟩
                go_simp
                with_reducible rfl
               rotate_left
               ·simp only [Act.put, List.setIfInBounds_toArray, List.set_cons_zero, List.set_cons_succ, i64_w, i32_w]
                rfl
               refine take_ (i := 21) (N := some 175) (v := ?_) (a' := ?_) lrc89 rfl rfl (take_ofW HT_.out HW_.out (by kernel_rfl)) (fun _ _ _ h => h) (Or.inl ⟨by rfl, ?_⟩) hHeld ?_ ?_
               rotate_left
               ·rintro w' ⟨s0, s1, s2, s3, s4, s5, s6, s7, s8, s9, s10⟩
                go_simp
                with_reducible rfl
               rotate_left
               ·simp only [Act.put, List.setIfInBounds_toArray, List.set_cons_zero, List.set_cons_succ, i64_w, i32_w]
                rfl
               refine pv_ 22 176 lrc90 HT_ ?_
               refine take_ (i := 23) (N := some 177) (v := ?_) (a' := ?_) lrc55 rfl rfl (take_ofW HT_.out HW_.out (by kernel_rfl)) (fun _ _ _ h => h) (Or.inl ⟨by rfl, ?_⟩) hHeld ?_ ?_
               rotate_left
               ·rintro w' ⟨s0, s1, s2, s3, s4, s5, s6, s7, s8, s9, s10⟩
                go_simp
                with_reducible rfl
               rotate_left
               ·simp only [Act.put, List.setIfInBounds_toArray, List.set_cons_zero, List.set_cons_succ, i64_w, i32_w]
                rfl
               refine pv_ 25 179 lrc56 HT_ ?_
               refine take_ (i := 26) (N := some 180) (v := ?_) (a' := ?_) lrc57 rfl rfl (take_ofW HT_.out HW_.out (by kernel_rfl)) (fun _ _ _ h => h) (Or.inl ⟨by rfl, ?_⟩) hHeld ?_ ?_
               rotate_left
               ·rintro w' ⟨s0, s1, s2, s3, s4, s5, s6, s7, s8, s9, s10⟩
                go_simp
                with_reducible rfl
               rotate_left
               ·simp only [Act.put, List.setIfInBounds_toArray, List.set_cons_zero, List.set_cons_succ, i64_w, i32_w]
                rfl
               refine pv_ 27 181 lrc58 HT_ ?_
               refine take_ (i := 28) (N := some 182) (v := ?_) (a' := ?_) lrc59 rfl rfl (take_ofW HT_.out HW_.out (by kernel_rfl)) (fun _ _ _ h => h) (Or.inl ⟨by rfl, ?_⟩) hHeld ?_ ?_
               rotate_left
               ·rintro w' ⟨s0, s1, s2, s3, s4, s5, s6, s7, s8, s9, s10⟩
                go_simp
                with_reducible rfl
               rotate_left
               ·simp only [Act.put, List.setIfInBounds_toArray, List.set_cons_zero, List.set_cons_succ, i64_w, i32_w]
                rfl
               refine pv_ 29 183 lrc60 HT_ ?_
               refine done_ (done_of HT_.out (by kernel_rfl)) ?_
               try go_wp2
               go_ret
               exact ⟨by first | rfl | (simp [errW_none, errW_some] <;> rfl) | (simp [*, errW_none, errW_some] <;> rfl), by repeat (first | (with_reducible first | exact HB.out | apply below_alloc | apply pw_below_drewN | apply below_drew1 | refine below_set ?_ GE745.out) | exact HB.out)⟩
              subst c108
              have H1 : (mizmazelaw03_ResetClosed.l3 k6 a1 a2 t754 x11_4 x14_5 (wrap64 (x15_6 + 1)) l0_0) = some r := by rw [if_pos rfl] at H; exact H
              clear H
              have H := H1
              clear H1
              have H' := Aside0.mk H
              clear H
              have hcz109_0 : wr.cell? ⟨gb745, 0, none⟩ = some (.slice A0_0 l0_0.length c0_0) := (blk_cell BK745.out 0).trans rfl
              have hfz109_0 := blk_frozen BK745.out 0
              try go_wp2_with (first | ((with_reducible refine gate_callee (f := 45) rfl ?_); refine goesL_ (some 150) rfl rfl Try.func45 (by kernel_rfl) rfl #[.agg #[.slice A0_0 l0_0.length c0_0]] rfl (by (try simp only [List.map_toArray, List.map_cons, List.map_nil]); first | done | rfl | (simp only [List.length_drop, List.length_take]; rfl)) ?_; (with_reducible refine (mizmazeref01_Letters.calls _ _ l0_0 t790 _ ?side1 ?side2 A92.out).mono ?_); (case side1 => repeat (first | exact (Kd.C_below HR0_0.out HB.out) | (with_reducible refine Kd.C_alloc ?_ _) | (with_reducible refine Kd.C_drewN ?_ _) | (with_reducible refine Kd.C_drew ?_))); (case side2 => exact HC0_0.out); rintro e w110 ⟨rfl, hb⟩; refine ⟨_, rfl, ?_⟩; have n0_ := Aside0.mk (Kd.R_below (by (with_reducible repeat (first | apply Kd.R_alloc | apply Kd.R_drewN | apply Kd.R_drew)); exact HO_9.out) hb); have n1_ := Aside0.mk (Kd.S_below (by (with_reducible repeat (first | apply Kd.S_alloc | apply Kd.S_drewN | apply Kd.S_drew)); exact HO_11.out) hb); have n2_ := Aside0.mk (blk_below (g := gb745) (o := .cells #[.slice A0_0 l0_0.length c0_0] 24 (0, 0)) (by (with_reducible repeat (first | refine blk_drewN ?_ _ | refine blk_drew ?_ | refine blk_alloc ?_ _)); exact BK745.out) hb); have n3_ := Aside0.mk (below_step (by repeat (first | (with_reducible first | exact HB.out | apply below_alloc | apply pw_below_drewN | apply below_drew1 | refine below_set ?_ GE745.out) | exact HB.out)) hb); clear HO_9; clear HO_11; clear BK745; clear HB; have HO_9 := n0_; have HO_11 := n1_; have BK745 := n2_; have HB := n3_; clear n0_ n1_ n2_ n3_; (try clear hb); (try clear hb2); (try clear hk); (try clear hi)))
              have n0_ := Aside0.mk (Kd.R_drew HO_9.out)
              have n1_ := Aside0.mk (Kd.S_drew HO_11.out)
              have n2_ := Aside0.mk (blk_drew BK745.out)
              have n3_ := Aside0.mk (below_drew1 HB.out)
              clear HO_9
              clear HO_11
              clear BK745
              clear HB
              have HO_9 := n0_
              have HO_11 := n1_
              have BK745 := n2_
              have HB := n3_
              clear n0_ n1_ n2_ n3_
              have p791 : 0 ≤ (x14_5 : Int) := of_decide_eq_true (by first | (with_reducible assumption) | assumption)
              have q791 : x14_5 < (t754.length : Int) := of_decide_eq_true (by first | (with_reducible assumption) | assumption)
              obtain ⟨ad791, e791, hx791_0, hx791_1⟩ := at_T49 (Kd.R_reads' HO_9.out).2.2 x14_5 p791 q791
              cases e791
              replace p791 := eq_true p791
              replace q791 := eq_true q791
              have p792 : 0 ≤ (((rd_T49 t754 x14_5).f0) : Int) := of_decide_eq_true (by first | (with_reducible assumption) | assumption)
              have q792 : ((rd_T49 t754 x14_5).f0) < (l0_0.length : Int) := of_decide_eq_true (by first | (with_reducible assumption) | assumption)
              obtain ⟨ad792, A792_0, c792_0, e792, hx792_0, hl792_0, hi792_0⟩ := at_L1 HR0_0.out ((rd_T49 t754 x14_5).f0) p792 q792
              have hw792_0 := hx792_0
              cases e792
              replace hx792_0 := (HB.out.cell (World.block_lt_of_cell? w _ hx792_0)).trans hx792_0
              have HR792_0 := Aside0.mk hi792_0
              have HC792_0 := Aside0.mk hl792_0
              clear hi792_0 hl792_0
              replace p792 := eq_true p792
              replace q792 := eq_true q792
              have p793 : 0 ≤ (x15_6 : Int) := of_decide_eq_true (by first | (with_reducible assumption) | assumption)
              have q793 : x15_6 < ((rd_L1 l0_0 ((rd_T49 t754 x14_5).f0)).length : Int) := of_decide_eq_true (by first | (with_reducible assumption) | assumption)
              obtain ⟨ad793, e793, hx793_0⟩ := Kd.at_int HR792_0.out x15_6 p793 q793
              have hw793_0 := hx793_0
              cases e793
              replace hx793_0 := (HB.out.cell (World.block_lt_of_cell? w _ hx793_0)).trans hx793_0
              replace p793 := eq_true p793
              replace q793 := eq_true q793
              have p794 : 0 ≤ ((rd (rd_L1 l0_0 ((rd_T49 t754 x14_5).f0)) x15_6) : Int) := of_decide_eq_true (by first | (with_reducible assumption) | assumption)
              have q794 : (rd (rd_L1 l0_0 ((rd_T49 t754 x14_5).f0)) x15_6) < (x11_4.length : Int) := of_decide_eq_true (by first | (with_reducible assumption) | assumption)
              obtain ⟨ad794, A794_0, c794_0, e794, hx794_0, hl794_0, hi794_0⟩ := at_L6 (Kd.S_reads' HO_11.out).2.2 (rd (rd_L1 l0_0 ((rd_T49 t754 x14_5).f0)) x15_6) p794 q794
              cases e794
              obtain ⟨ce794, hce794, hMe794, hcc794⟩ := Kd.S_get HO_11.out [] (rd (rd_L1 l0_0 ((rd_T49 t754 x14_5).f0)) x15_6) p794 (by first | exact q794 | exact of_decide_eq_true (by first | (with_reducible assumption) | assumption) | (have e_ := (Kd.S_reads' HO_11.out).1; omega))
              obtain ⟨ve794_0, rfl, ge794_0⟩ := hMe794
              have hv794_0 := hcc794 0 _ rfl
              rw [Nat.add_zero, show ((Kd.slice 4 Kd.bool)).sz = 1 from rfl, Nat.mul_one] at hv794_0
              replace hv794_0 := Option.some.inj (hv794_0.symm.trans hx794_0)
              rw [hv794_0] at ge794_0
              have HL794_0 := Aside0.mk (show Kd.R Kd.bool 4 _ _ _ _ (rd_L6 x11_4 (rd (rd_L1 l0_0 ((rd_T49 t754 x14_5).f0)) x15_6)) from ge794_0)
              clear hv794_0 ge794_0
              have HX794_0 := Aside0.mk hx794_0
              clear hcc794 hce794
              have HR794_0 := Aside0.mk hi794_0
              have HC794_0 := Aside0.mk hl794_0
              clear hi794_0 hl794_0
              replace p794 := eq_true p794
              replace q794 := eq_true q794
              have p795 : 0 ≤ (x14_5 : Int) := of_decide_eq_true (by first | (with_reducible assumption) | assumption)
              have q795 : x14_5 < (t754.length : Int) := of_decide_eq_true (by first | (with_reducible assumption) | assumption)
              obtain ⟨ad795, e795, hx795_0, hx795_1⟩ := at_T49 (Kd.R_reads' HO_9.out).2.2 x14_5 p795 q795
              obtain rfl : ad791 = ad795 := (by injection e795)
              replace p795 := eq_true p795
              replace q795 := eq_true q795
              have p796 : 0 ≤ (((rd_T49 t754 x14_5).f1) : Int) := of_decide_eq_true (by first | (with_reducible assumption) | assumption)
              have q796 : ((rd_T49 t754 x14_5).f1) < (l0_0.length : Int) := of_decide_eq_true (by first | (with_reducible assumption) | assumption)
              obtain ⟨ad796, A796_0, c796_0, e796, hx796_0, hl796_0, hi796_0⟩ := at_L1 HR0_0.out ((rd_T49 t754 x14_5).f1) p796 q796
              have hw796_0 := hx796_0
              obtain rfl : ad792 = ad796 := (by injection e796)
              replace hx796_0 := (HB.out.cell (World.block_lt_of_cell? w _ hx796_0)).trans hx796_0
              have HR796_0 := Aside0.mk hi796_0
              have HC796_0 := Aside0.mk hl796_0
              clear hi796_0 hl796_0
              replace p796 := eq_true p796
              replace q796 := eq_true q796
              have p797 : 0 ≤ (x15_6 : Int) := of_decide_eq_true (by first | (with_reducible assumption) | assumption)
              have q797 : x15_6 < ((rd_L1 l0_0 ((rd_T49 t754 x14_5).f1)).length : Int) := of_decide_eq_true (by first | (with_reducible assumption) | assumption)
              obtain ⟨ad797, e797, hx797_0⟩ := Kd.at_int HR796_0.out x15_6 p797 q797
              have hw797_0 := hx797_0
              cases e797
              replace hx797_0 := (HB.out.cell (World.block_lt_of_cell? w _ hx797_0)).trans hx797_0
              replace p797 := eq_true p797
              replace q797 := eq_true q797
              have p798 : 0 ≤ ((rd (rd_L1 l0_0 ((rd_T49 t754 x14_5).f1)) x15_6) : Int) := of_decide_eq_true (by first | (with_reducible assumption) | assumption)
              have q798 : (rd (rd_L1 l0_0 ((rd_T49 t754 x14_5).f1)) x15_6) < ((rd_L6 x11_4 (rd (rd_L1 l0_0 ((rd_T49 t754 x14_5).f0)) x15_6)).length : Int) := of_decide_eq_true (by first | (with_reducible assumption) | assumption)
              obtain ⟨ad798, e798, hx798_0⟩ := Kd.at_bool (by repeat (first | (with_reducible exact HR794_0.out) | (with_reducible refine Kd.C_alloc ?_ _) | (with_reducible refine Kd.C_drewN ?_ _) | (with_reducible refine Kd.C_drew ?_) | exact HR794_0.out)) (rd (rd_L1 l0_0 ((rd_T49 t754 x14_5).f1)) x15_6) p798 q798
              (try rw [← Nbq107.out] at hx798_0)
              cases e798
              replace p798 := eq_true p798
              replace q798 := eq_true q798
              refine start_ (n := 30) (S := fun w' => w'.cell? ⟨gb745, 0, none⟩ = some (.slice (some ad792) l0_0.length c0_0) ∧ w'.cell? (ad791.add ((x14_5).toNat * 2)) = some (.int .i64 ((rd_T49 t754 x14_5).f0)) ∧ w'.cell? ⟨(ad791.add ((x14_5).toNat * 2)).block, (ad791.add ((x14_5).toNat * 2)).off + 1, none⟩ = some (.int .i64 ((rd_T49 t754 x14_5).f1)) ∧ w'.cell? (ad792.add (((rd_T49 t754 x14_5).f0)).toNat) = some (.slice (some ad793) (rd_L1 l0_0 ((rd_T49 t754 x14_5).f0)).length c792_0) ∧ w'.cell? (ad793.add (x15_6).toNat) = some (.int .i64 (rd (rd_L1 l0_0 ((rd_T49 t754 x14_5).f0)) x15_6)) ∧ w'.cell? (ad794.add ((rd (rd_L1 l0_0 ((rd_T49 t754 x14_5).f0)) x15_6)).toNat) = some (.slice (some ad798) (rd_L6 x11_4 (rd (rd_L1 l0_0 ((rd_T49 t754 x14_5).f0)) x15_6)).length c794_0) ∧ w'.cell? (ad791.add ((x14_5).toNat * 2)) = some (.int .i64 ((rd_T49 t754 x14_5).f0)) ∧ w'.cell? ⟨(ad791.add ((x14_5).toNat * 2)).block, (ad791.add ((x14_5).toNat * 2)).off + 1, none⟩ = some (.int .i64 ((rd_T49 t754 x14_5).f1)) ∧ w'.cell? (ad792.add (((rd_T49 t754 x14_5).f1)).toNat) = some (.slice (some ad797) (rd_L1 l0_0 ((rd_T49 t754 x14_5).f1)).length c796_0) ∧ w'.cell? (ad797.add (x15_6).toNat) = some (.int .i64 (rd (rd_L1 l0_0 ((rd_T49 t754 x14_5).f1)) x15_6)) ∧ w'.cell? (ad798.add ((rd (rd_L1 l0_0 ((rd_T49 t754 x14_5).f1)) x15_6)).toNat) = some (.bool true)) (ds := []) #[false, false, false, false, false, false, false, false, false, false, false, false, false, false, false, false, false, false, false, false, false, false, false, false, false, false, false, false, false, false] (by kernel_rfl) rfl rfl ⟨(blk_cell BK745.out 0).trans rfl, hx791_0, hx791_1, ((HB.out.cell (World.block_lt_of_cell? w _ hw792_0)).trans hw792_0), ((HB.out.cell (World.block_lt_of_cell? w _ hw793_0)).trans hw793_0), hx794_0, hx795_0, hx795_1, ((HB.out.cell (World.block_lt_of_cell? w _ hw796_0)).trans hw796_0), ((HB.out.cell (World.block_lt_of_cell? w _ hw797_0)).trans hw797_0), hx798_0⟩ (fun hHeld => ?_); refine with_tabW mizmazelaw03_ResetClosed.tab24 mizmazelaw03_ResetClosed.bits24 (fun HT_ HW_ => ?_)
              generalize w110.drew = w111 at HO_9 HO_11 BK745 HB HL794_0 HR792_0 HR794_0 HR796_0 HX794_0 hx791_0 hx791_1 hx792_0 hx793_0 hx794_0 hx795_0 hx795_1 hx796_0 hx797_0 hx798_0 hHeld ⊢
              refine pv_ 0 154 lrc31 HT_ ?_
              refine pv_ 1 155 lrc32 HT_ ?_
              refine pv_ 3 157 lrc69 HT_ ?_
              refine pv_ 4 158 lrc70 HT_ ?_
              refine pv_ 5 159 lrc71 HT_ ?_
              refine pv_ 6 160 lrc72 HT_ ?_
              refine pv_ 10 164 lrc73 HT_ ?_
              refine pv_ 15 169 lrc74 HT_ ?_
              refine pv_ 17 171 lrc75 HT_ ?_
              refine pv_ 18 172 lrc76 HT_ ?_
              refine pv_ 19 173 lrc77 HT_ ?_
              refine pv_ 20 174 lrc78 HT_ ?_
              refine pv_ 24 178 lrc79 HT_ ?_
              refine take_ (i := 2) (N := some 156) (v := ?_) (a' := ?_) lrc80 rfl rfl (take_ofW HT_.out HW_.out (by kernel_rfl)) (fun _ _ _ h => h) (Or.inl ⟨by rfl, ?_⟩) hHeld ?_ ?_
              rotate_left
              ·rintro w' ⟨s0, s1, s2, s3, s4, s5, s6, s7, s8, s9, s10⟩
               go_simp
               with_reducible rfl
              rotate_left
              ·simp only [Act.put, List.setIfInBounds_toArray, List.set_cons_zero, List.set_cons_succ, i64_w, i32_w]
               rfl
              refine take_ (i := 7) (N := some 161) (v := ?_) (a' := ?_) lrc81 rfl rfl (take_ofW HT_.out HW_.out (by kernel_rfl)) (fun _ _ _ h => h) (Or.inl ⟨by rfl, ?_⟩) hHeld ?_ ?_
              rotate_left
              ·rintro w' ⟨s0, s1, s2, s3, s4, s5, s6, s7, s8, s9, s10⟩
               go_simp
               with_reducible rfl
              rotate_left
              ·simp only [Act.put, List.setIfInBounds_toArray, List.set_cons_zero, List.set_cons_succ, i64_w, i32_w]
               rfl
              refine pv_ 8 162 lrc82 HT_ ?_
              refine take_ (i := 9) (N := some 163) (v := ?_) (a' := ?_) lrc83 rfl rfl (take_ofW HT_.out HW_.out (by kernel_rfl)) (fun _ _ _ h => h) (Or.inl ⟨by rfl, ?_⟩) hHeld ?_ ?_
              rotate_left
              ·rintro w' ⟨s0, s1, s2, s3, s4, s5, s6, s7, s8, s9, s10⟩
               go_simp
               with_reducible rfl
              rotate_left
              ·simp only [Act.put, List.setIfInBounds_toArray, List.set_cons_zero, List.set_cons_succ, i64_w, i32_w]
               rfl
              refine pv_ 11 165 lrc84 HT_ ?_
              refine take_ (i := 12) (N := some 166) (v := ?_) (a' := ?_) lrc85 rfl rfl (take_ofW HT_.out HW_.out (by kernel_rfl)) (fun _ _ _ h => h) (Or.inl ⟨by rfl, ?_⟩) hHeld ?_ ?_
              rotate_left
              ·rintro w' ⟨s0, s1, s2, s3, s4, s5, s6, s7, s8, s9, s10⟩
               go_simp
               with_reducible rfl
              rotate_left
              ·simp only [Act.put, List.setIfInBounds_toArray, List.set_cons_zero, List.set_cons_succ, i64_w, i32_w]
               rfl
              refine pv_ 13 167 lrc86 HT_ ?_
              refine take_ (i := 14) (N := some 168) (v := ?_) (a' := ?_) lrc87 rfl rfl (take_ofW HT_.out HW_.out (by kernel_rfl)) (fun _ _ _ h => h) (Or.inl ⟨by rfl, ?_⟩) hHeld ?_ ?_
              rotate_left
              ·rintro w' ⟨s0, s1, s2, s3, s4, s5, s6, s7, s8, s9, s10⟩
               go_simp
               with_reducible rfl
              rotate_left
              ·simp only [Act.put, List.setIfInBounds_toArray, List.set_cons_zero, List.set_cons_succ, i64_w, i32_w]
               rfl
              refine take_ (i := 16) (N := some 170) (v := ?_) (a' := ?_) lrc88 rfl rfl (take_ofW HT_.out HW_.out (by kernel_rfl)) (fun _ _ _ h => h) (Or.inl ⟨by rfl, ?_⟩) hHeld ?_ ?_
              rotate_left
              ·rintro w' ⟨s0, s1, s2, s3, s4, s5, s6, s7, s8, s9, s10⟩
               go_simp
               with_reducible rfl
              rotate_left
              ·simp only [Act.put, List.setIfInBounds_toArray, List.set_cons_zero, List.set_cons_succ, i64_w, i32_w]
               rfl
              refine take_ (i := 21) (N := some 175) (v := ?_) (a' := ?_) lrc89 rfl rfl (take_ofW HT_.out HW_.out (by kernel_rfl)) (fun _ _ _ h => h) (Or.inl ⟨by rfl, ?_⟩) hHeld ?_ ?_
              rotate_left
              ·rintro w' ⟨s0, s1, s2, s3, s4, s5, s6, s7, s8, s9, s10⟩
               go_simp
               with_reducible rfl
              rotate_left
              ·simp only [Act.put, List.setIfInBounds_toArray, List.set_cons_zero, List.set_cons_succ, i64_w, i32_w]
               rfl
              refine pv_ 22 176 lrc90 HT_ ?_
              refine take_ (i := 23) (N := some 177) (v := ?_) (a' := ?_) lrc55 rfl rfl (take_ofW HT_.out HW_.out (by kernel_rfl)) (fun _ _ _ h => h) (Or.inl ⟨by rfl, ?_⟩) hHeld ?_ ?_
              rotate_left
              ·rintro w' ⟨s0, s1, s2, s3, s4, s5, s6, s7, s8, s9, s10⟩
               go_simp
               with_reducible rfl
              rotate_left
              ·simp only [Act.put, List.setIfInBounds_toArray, List.set_cons_zero, List.set_cons_succ, i64_w, i32_w]
               rfl
              refine pv_ 25 179 lrc56 HT_ ?_
              refine take_ (i := 26) (N := some 180) (v := ?_) (a' := ?_) lrc57 rfl rfl (take_ofW HT_.out HW_.out (by kernel_rfl)) (fun _ _ _ h => h) (Or.inl ⟨by rfl, ?_⟩) hHeld ?_ ?_
              rotate_left
              ·rintro w' ⟨s0, s1, s2, s3, s4, s5, s6, s7, s8, s9, s10⟩
               go_simp
               with_reducible rfl
              rotate_left
              ·simp only [Act.put, List.setIfInBounds_toArray, List.set_cons_zero, List.set_cons_succ, i64_w, i32_w]
               rfl
              refine pv_ 27 181 lrc58 HT_ ?_
              refine take_ (i := 28) (N := some 182) (v := ?_) (a' := ?_) lrc59 rfl rfl (take_ofW HT_.out HW_.out (by kernel_rfl)) (fun _ _ _ h => h) (Or.inl ⟨by rfl, ?_⟩) hHeld ?_ ?_
              rotate_left
              ·rintro w' ⟨s0, s1, s2, s3, s4, s5, s6, s7, s8, s9, s10⟩
               go_simp
               with_reducible rfl
              rotate_left
              ·simp only [Act.put, List.setIfInBounds_toArray, List.set_cons_zero, List.set_cons_succ, i64_w, i32_w]
               rfl
              refine pv_ 29 183 lrc60 HT_ ?_
              refine done_ (done_of HT_.out (by kernel_rfl)) ?_
              try go_wp2
              go_roundg k6
              case measure => have := HJ3.out; have := HJ27.out; have := HK3.out; have := HK4.out; have := HK5.out; have := HK6.out; omega
              case rel => exact ⟨(wrap64 (x15_6 + 1)), (by first | rfl | (simp; done) | (simp [*]; done)), H', ⟨by have := HJ3.out; have := HJ27.out; have := HK3.out; have := HK4.out; have := HK5.out; have := HK6.out; omega⟩, ⟨by (try simp only [hl11_4]); (with_reducible repeat (first | apply Kd.R_alloc | apply Kd.R_drewN | apply Kd.R_drew)); exact HO_9.out⟩, ⟨by (try simp only [hl11_4]); (with_reducible repeat (first | apply Kd.S_alloc | apply Kd.S_drewN | apply Kd.S_drew)); exact HO_11.out⟩, ⟨by (try simp only [hl11_4]); (with_reducible repeat (first | refine blk_drewN ?_ _ | refine blk_drew ?_ | refine blk_alloc ?_ _)); exact BK745.out⟩, ⟨by repeat (first | (with_reducible first | exact HB.out | apply below_alloc | apply pw_below_drewN | apply below_drew1 | refine below_set ?_ GE745.out) | exact HB.out)⟩⟩
         rw [if_pos c56] at H
         have c56b0 : decide (x13_4 < (t754.length : Int)) = true := decide_eq_true c56
         clear c56
         by_cases c57 : 0 ≤ x13_4
         rotate_left
         ·rw [if_neg c57] at H
          exact absurd H (by simp)
         rw [if_pos c57] at H
         have c57b0 : decide (0 ≤ x13_4) = true := decide_eq_true c57
         clear c57
         replace H := Option.bind_eq_some_iff.mp H
         obtain ⟨t766, A580, H⟩ := H
         replace H : (if t766 = true then ((mizmazeref01_State.f l0_0 ((rd_T49 t754 x13_4).f1)).bind fun t768 => (if t768 = true then (if ((rd_T49 t754 x13_4).f0) ≥ ((rd_T49 t754 x13_4).f1) then (some false) else (if 0 ≤ ((rd_T49 t754 x13_4).f0) then (if ((rd_T49 t754 x13_4).f0) < (x11_4.length : Int) then (if 0 ≤ ((rd_T49 t754 x13_4).f1) then (if ((rd_T49 t754 x13_4).f1) < ((rd_L6 x11_4 ((rd_T49 t754 x13_4).f0)).length : Int) then ((some (x11_4.set (((rd_T49 t754 x13_4).f0) : Int).toNat ((rd_L6 x11_4 ((rd_T49 t754 x13_4).f0)).set (((rd_T49 t754 x13_4).f1) : Int).toNat true) : List (List Bool))).bind fun y776 => (if ((rd_T49 t754 x13_4).f1) < (x11_4.length : Int) then (if ((rd_T49 t754 x13_4).f0) < ((rd_L6 y776 ((rd_T49 t754 x13_4).f1)).length : Int) then (mizmazelaw03_ResetClosed.l1 k4 a1 a2 t754 (y776.set (((rd_T49 t754 x13_4).f1) : Int).toNat ((rd_L6 y776 ((rd_T49 t754 x13_4).f1)).set (((rd_T49 t754 x13_4).f0) : Int).toNat true)) (wrap64 (x13_4 + 1)) l0_0) else (none)) else (none))) else (none)) else (none)) else (none)) else (none))) else (some false))) else (some false)) = some r := H
         have A58 := Aside0.mk A580
         clear A580
         by_cases c59 : t766 = true
         rotate_left
         ·replace c59 := Bool.eq_false_iff.mpr c59
          subst c59
          have H1 : (some false) = some r := by rw [if_neg (show ¬ (false = true) by decide)] at H; exact H
          clear H
          have H := H1
          clear H1
          obtain rfl := Option.some.inj H
          obtain ⟨Ao87, co87, eo87⟩ := Kd.R_slice HO_9.out
          subst eo87
          try go_wp2
          have n0_ := Aside0.mk (Kd.R_drew HO_9.out)
          have n1_ := Aside0.mk (Kd.S_drew HO_11.out)
          have n2_ := Aside0.mk (blk_drew BK745.out)
          have n3_ := Aside0.mk (below_drew1 HB.out)
          clear HO_9
          clear HO_11
          clear BK745
          clear HB
          have HO_9 := n0_
          have HO_11 := n1_
          have BK745 := n2_
          have HB := n3_
          clear n0_ n1_ n2_ n3_
          have p765 : 0 ≤ (x13_4 : Int) := of_decide_eq_true (by first | (with_reducible assumption) | assumption)
          have q765 : x13_4 < (t754.length : Int) := of_decide_eq_true (by first | (with_reducible assumption) | assumption)
          obtain ⟨ad765, e765, hx765_0, hx765_1⟩ := at_T49 (Kd.R_reads' HO_9.out).2.2 x13_4 p765 q765
          cases e765
          replace p765 := eq_true p765
          replace q765 := eq_true q765
          refine start_ (n := 31) (S := fun w' => w'.cell? ⟨gb745, 0, none⟩ = some (.slice A0_0 l0_0.length c0_0) ∧ w'.cell? (ad765.add ((x13_4).toNat * 2)) = some (.int .i64 ((rd_T49 t754 x13_4).f0)) ∧ w'.cell? ⟨(ad765.add ((x13_4).toNat * 2)).block, (ad765.add ((x13_4).toNat * 2)).off + 1, none⟩ = some (.int .i64 ((rd_T49 t754 x13_4).f1))) (ds := []) #[false, false, false, false, false, false, false, false, false, false, false, false, false, false, false, false, false, false, false, false, false, false, false, false, false, false, false, false, false, false, false] (by kernel_rfl) rfl rfl ⟨(blk_cell BK745.out 0).trans rfl, hx765_0, hx765_1⟩ (fun hHeld => ?_); refine with_tabW mizmazelaw03_ResetClosed.tab15 mizmazelaw03_ResetClosed.bits15 (fun HT_ HW_ => ?_)
          generalize wr.drew = w88 at HO_9 HO_11 BK745 HB hx765_0 hx765_1 hHeld ⊢
          refine pv_ 1 84 lrc0 HT_ ?_
          refine pv_ 2 85 lrc1 HT_ ?_
          refine pv_ 3 86 lrc2 HT_ ?_
          refine pv_ 4 87 lrc3 HT_ ?_
          refine take_ (i := 0) (N := some 83) (v := ?_) (a' := ?_) lrc4 rfl rfl (take_ofW HT_.out HW_.out (by kernel_rfl)) (fun _ _ _ h => h) (Or.inl ⟨by rfl, ?_⟩) hHeld ?_ ?_
          rotate_left
          ·rintro w' ⟨s0, s1, s2⟩
           go_simp
           with_reducible rfl
          rotate_left
          ·simp only [Act.put, List.setIfInBounds_toArray, List.set_cons_zero, List.set_cons_succ, i64_w, i32_w]
           rfl
          refine take_ (i := 5) (N := some 88) (v := ?_) (a' := ?_) lrc5 rfl rfl (take_ofW HT_.out HW_.out (by kernel_rfl)) (fun _ _ _ h => h) (Or.inl ⟨by rfl, ?_⟩) hHeld ?_ ?_
          rotate_left
          ·rintro w' ⟨s0, s1, s2⟩
           go_simp
           with_reducible rfl
          rotate_left
          ·simp only [Act.put, List.setIfInBounds_toArray, List.set_cons_zero, List.set_cons_succ, i64_w, i32_w]
           rfl
          refine one_ (i := 6) (N := some 89) lrc6 rfl rfl (one_of HT_.out (by kernel_rfl)) (by decide) (fun K hK => ?_)
          refine goes_ Try.func40 (by kernel_rfl) rfl #[.agg #[.slice A0_0 l0_0.length c0_0], .int .i64 ((rd_T49 t754 x13_4).f0)] (by rfl) rfl rfl (by (try simp only [List.map_toArray, List.map_cons, List.map_nil]); first | done | rfl | (simp only [List.length_drop, List.length_take]; rfl)) ?_
          with_reducible refine (mizmazeref01_State.calls _ _ l0_0 ((rd_T49 t754 x13_4).f0) false _ ?side1 ?side2 A58.out).mono ?_
          (case side1 => repeat (first | exact (Kd.C_below HR0_0.out HB.out) | (with_reducible refine Kd.C_alloc ?_ _) | (with_reducible refine Kd.C_drewN ?_ _) | (with_reducible refine Kd.C_drew ?_)))
          (case side2 => exact HC0_0.out)
          rintro e w89 ⟨rfl, hb⟩
          have HS1_ := (hb.cell (World.block_lt_of_cell? _ _ (hHeld.2.1))).trans (hHeld.2.1)
          have HS2_ := (hb.cell (World.block_lt_of_cell? _ _ (hHeld.2.2))).trans (hHeld.2.2)
          refine ⟨_, rfl, ?_⟩
          have n0_ := Aside0.mk (Kd.R_below (by (with_reducible repeat (first | apply Kd.R_alloc | apply Kd.R_drewN | apply Kd.R_drew)); exact HO_9.out) hb)
          have n1_ := Aside0.mk (Kd.S_below (by (with_reducible repeat (first | apply Kd.S_alloc | apply Kd.S_drewN | apply Kd.S_drew)); exact HO_11.out) hb)
          have n2_ := Aside0.mk (blk_below (g := gb745) (o := .cells #[.slice A0_0 l0_0.length c0_0] 24 (0, 0)) (by (with_reducible repeat (first | refine blk_drewN ?_ _ | refine blk_drew ?_ | refine blk_alloc ?_ _)); exact BK745.out) hb)
          have n3_ := Aside0.mk (below_step (by repeat (first | (with_reducible first | exact HB.out | apply below_alloc | apply pw_below_drewN | apply below_drew1 | refine below_set ?_ GE745.out) | exact HB.out)) hb)
          clear HO_9
          clear HO_11
          clear BK745
          clear HB
          have HO_9 := n0_
          have HO_11 := n1_
          have BK745 := n2_
          have HB := n3_
          clear n0_ n1_ n2_ n3_
          (try clear hb)
          (try clear hb2)
          (try clear hk)
          (try clear hi)
          refine hK.out _ _ ⟨(blk_cell BK745.out 0).trans rfl, HS1_, HS2_⟩ (fun hHeld => ?_)
          clear hK K
          refine norm_ (a' := ?_) ?_ ?_
          rotate_left
          ·show Act.put _ (some 89) _ = _
           simp only [Act.put, List.setIfInBounds_toArray, List.set_cons_zero, List.set_cons_succ, i64_w, i32_w]
           rfl
          refine pv_ 7 90 lrc7 HT_ ?_
          refine pv_ 8 91 lrc8 HT_ ?_
          refine pu_ 9 92 lrc65 HT_ ?_
          refine pu_ 10 93 lrc66 HT_ ?_
          refine pu_ 11 94 lrc67 HT_ ?_
          refine pu_ 12 95 lrc68 HT_ ?_
          refine pu_ 13 96 lrc13 HT_ ?_
          refine pu_ 14 97 lrc14 HT_ ?_
          refine pu_ 15 98 lrc15 HT_ ?_
          refine pu_ 16 99 lrc16 HT_ ?_
          refine pv_ 17 100 lrc17 HT_ ?_
          refine pv_ 18 101 lrc18 HT_ ?_
          refine pu_ 19 102 lrc19 HT_ ?_
          refine pu_ 20 103 lrc20 HT_ ?_
          refine pu_ 21 104 lrc21 HT_ ?_
          refine pu_ 22 105 lrc22 HT_ ?_
          refine pu_ 23 106 lrc61 HT_ ?_
          refine pu_ 24 107 lrc62 HT_ ?_
          refine pu_ 25 108 lrc63 HT_ ?_
          refine pu_ 26 109 lrc64 HT_ ?_
          refine pu_ 27 110 lrc27 HT_ ?_
          refine pu_ 28 111 lrc28 HT_ ?_
          refine pu_ 29 112 lrc29 HT_ ?_
          refine pv_ 30 113 lrc30 HT_ ?_
          refine done_ (done_of HT_.out (by kernel_rfl)) ?_
          try go_wp2
          go_ret
          exact ⟨by first | rfl | (simp [errW_none, errW_some] <;> rfl) | (simp [*, errW_none, errW_some] <;> rfl), by repeat (first | (with_reducible first | exact HB.out | apply below_alloc | apply pw_below_drewN | apply below_drew1 | refine below_set ?_ GE745.out) | exact HB.out)⟩
         subst c59
         have H1 : ((mizmazeref01_State.f l0_0 ((rd_T49 t754 x13_4).f1)).bind fun t768 => (if t768 = true then (if ((rd_T49 t754 x13_4).f0) ≥ ((rd_T49 t754 x13_4).f1) then (some false) else (if 0 ≤ ((rd_T49 t754 x13_4).f0) then (if ((rd_T49 t754 x13_4).f0) < (x11_4.length : Int) then (if 0 ≤ ((rd_T49 t754 x13_4).f1) then (if ((rd_T49 t754 x13_4).f1) < ((rd_L6 x11_4 ((rd_T49 t754 x13_4).f0)).length : Int) then ((some (x11_4.set (((rd_T49 t754 x13_4).f0) : Int).toNat ((rd_L6 x11_4 ((rd_T49 t754 x13_4).f0)).set (((rd_T49 t754 x13_4).f1) : Int).toNat true) : List (List Bool))).bind fun y776 => (if ((rd_T49 t754 x13_4).f1) < (x11_4.length : Int) then (if ((rd_T49 t754 x13_4).f0) < ((rd_L6 y776 ((rd_T49 t754 x13_4).f1)).length : Int) then (mizmazelaw03_ResetClosed.l1 k4 a1 a2 t754 (y776.set (((rd_T49 t754 x13_4).f1) : Int).toNat ((rd_L6 y776 ((rd_T49 t754 x13_4).f1)).set (((rd_T49 t754 x13_4).f0) : Int).toNat true)) (wrap64 (x13_4 + 1)) l0_0) else (none)) else (none))) else (none)) else (none)) else (none)) else (none))) else (some false))) = some r := by rw [if_pos rfl] at H; exact H
         clear H
         have H := H1
         clear H1
         replace H := Option.bind_eq_some_iff.mp H
         obtain ⟨t768, A600, H⟩ := H
         replace H : (if t768 = true then (if ((rd_T49 t754 x13_4).f0) ≥ ((rd_T49 t754 x13_4).f1) then (some false) else (if 0 ≤ ((rd_T49 t754 x13_4).f0) then (if ((rd_T49 t754 x13_4).f0) < (x11_4.length : Int) then (if 0 ≤ ((rd_T49 t754 x13_4).f1) then (if ((rd_T49 t754 x13_4).f1) < ((rd_L6 x11_4 ((rd_T49 t754 x13_4).f0)).length : Int) then ((some (x11_4.set (((rd_T49 t754 x13_4).f0) : Int).toNat ((rd_L6 x11_4 ((rd_T49 t754 x13_4).f0)).set (((rd_T49 t754 x13_4).f1) : Int).toNat true) : List (List Bool))).bind fun y776 => (if ((rd_T49 t754 x13_4).f1) < (x11_4.length : Int) then (if ((rd_T49 t754 x13_4).f0) < ((rd_L6 y776 ((rd_T49 t754 x13_4).f1)).length : Int) then (mizmazelaw03_ResetClosed.l1 k4 a1 a2 t754 (y776.set (((rd_T49 t754 x13_4).f1) : Int).toNat ((rd_L6 y776 ((rd_T49 t754 x13_4).f1)).set (((rd_T49 t754 x13_4).f0) : Int).toNat true)) (wrap64 (x13_4 + 1)) l0_0) else (none)) else (none))) else (none)) else (none)) else (none)) else (none))) else (some false)) = some r := H
         have A60 := Aside0.mk A600
         clear A600
         by_cases c61 : t768 = true
         rotate_left
         ·replace c61 := Bool.eq_false_iff.mpr c61
          subst c61
          have H1 : (some false) = some r := by rw [if_neg (show ¬ (false = true) by decide)] at H; exact H
          clear H
          have H := H1
          clear H1
          obtain rfl := Option.some.inj H
          obtain ⟨Ao83, co83, eo83⟩ := Kd.R_slice HO_9.out
          subst eo83
          try go_wp2
          have n0_ := Aside0.mk (Kd.R_drew HO_9.out)
          have n1_ := Aside0.mk (Kd.S_drew HO_11.out)
          have n2_ := Aside0.mk (blk_drew BK745.out)
          have n3_ := Aside0.mk (below_drew1 HB.out)
          clear HO_9
          clear HO_11
          clear BK745
          clear HB
          have HO_9 := n0_
          have HO_11 := n1_
          have BK745 := n2_
          have HB := n3_
          clear n0_ n1_ n2_ n3_
          have p765 : 0 ≤ (x13_4 : Int) := of_decide_eq_true (by first | (with_reducible assumption) | assumption)
          have q765 : x13_4 < (t754.length : Int) := of_decide_eq_true (by first | (with_reducible assumption) | assumption)
          obtain ⟨ad765, e765, hx765_0, hx765_1⟩ := at_T49 (Kd.R_reads' HO_9.out).2.2 x13_4 p765 q765
          cases e765
          replace p765 := eq_true p765
          replace q765 := eq_true q765
          have p767 : 0 ≤ (x13_4 : Int) := of_decide_eq_true (by first | (with_reducible assumption) | assumption)
          have q767 : x13_4 < (t754.length : Int) := of_decide_eq_true (by first | (with_reducible assumption) | assumption)
          obtain ⟨ad767, e767, hx767_0, hx767_1⟩ := at_T49 (Kd.R_reads' HO_9.out).2.2 x13_4 p767 q767
          obtain rfl : ad765 = ad767 := (by injection e767)
          replace p767 := eq_true p767
          replace q767 := eq_true q767
          refine start_ (n := 31) (S := fun w' => w'.cell? ⟨gb745, 0, none⟩ = some (.slice A0_0 l0_0.length c0_0) ∧ w'.cell? (ad765.add ((x13_4).toNat * 2)) = some (.int .i64 ((rd_T49 t754 x13_4).f0)) ∧ w'.cell? ⟨(ad765.add ((x13_4).toNat * 2)).block, (ad765.add ((x13_4).toNat * 2)).off + 1, none⟩ = some (.int .i64 ((rd_T49 t754 x13_4).f1)) ∧ w'.cell? (ad765.add ((x13_4).toNat * 2)) = some (.int .i64 ((rd_T49 t754 x13_4).f0)) ∧ w'.cell? ⟨(ad765.add ((x13_4).toNat * 2)).block, (ad765.add ((x13_4).toNat * 2)).off + 1, none⟩ = some (.int .i64 ((rd_T49 t754 x13_4).f1))) (ds := []) #[false, false, false, false, false, false, false, false, false, false, false, false, false, false, false, false, false, false, false, false, false, false, false, false, false, false, false, false, false, false, false] (by kernel_rfl) rfl rfl ⟨(blk_cell BK745.out 0).trans rfl, hx765_0, hx765_1, hx767_0, hx767_1⟩ (fun hHeld => ?_); refine with_tabW mizmazelaw03_ResetClosed.tab15 mizmazelaw03_ResetClosed.bits15 (fun HT_ HW_ => ?_)
          generalize wr.drew = w84 at HO_9 HO_11 BK745 HB hx765_0 hx765_1 hx767_0 hx767_1 hHeld ⊢
          refine pv_ 1 84 lrc0 HT_ ?_
          refine pv_ 2 85 lrc1 HT_ ?_
          refine pv_ 3 86 lrc2 HT_ ?_
          refine pv_ 4 87 lrc3 HT_ ?_
          refine take_ (i := 0) (N := some 83) (v := ?_) (a' := ?_) lrc4 rfl rfl (take_ofW HT_.out HW_.out (by kernel_rfl)) (fun _ _ _ h => h) (Or.inl ⟨by rfl, ?_⟩) hHeld ?_ ?_
          rotate_left
          ·rintro w' ⟨s0, s1, s2, s3, s4⟩
           go_simp
           with_reducible rfl
          rotate_left
          ·simp only [Act.put, List.setIfInBounds_toArray, List.set_cons_zero, List.set_cons_succ, i64_w, i32_w]
           rfl
          refine take_ (i := 5) (N := some 88) (v := ?_) (a' := ?_) lrc5 rfl rfl (take_ofW HT_.out HW_.out (by kernel_rfl)) (fun _ _ _ h => h) (Or.inl ⟨by rfl, ?_⟩) hHeld ?_ ?_
          rotate_left
          ·rintro w' ⟨s0, s1, s2, s3, s4⟩
           go_simp
           with_reducible rfl
          rotate_left
          ·simp only [Act.put, List.setIfInBounds_toArray, List.set_cons_zero, List.set_cons_succ, i64_w, i32_w]
           rfl
          refine one_ (i := 6) (N := some 89) lrc6 rfl rfl (one_of HT_.out (by kernel_rfl)) (by decide) (fun K hK => ?_)
          refine goes_ Try.func40 (by kernel_rfl) rfl #[.agg #[.slice A0_0 l0_0.length c0_0], .int .i64 ((rd_T49 t754 x13_4).f0)] (by rfl) rfl rfl (by (try simp only [List.map_toArray, List.map_cons, List.map_nil]); first | done | rfl | (simp only [List.length_drop, List.length_take]; rfl)) ?_
          with_reducible refine (mizmazeref01_State.calls _ _ l0_0 ((rd_T49 t754 x13_4).f0) true _ ?side1 ?side2 A58.out).mono ?_
          (case side1 => repeat (first | exact (Kd.C_below HR0_0.out HB.out) | (with_reducible refine Kd.C_alloc ?_ _) | (with_reducible refine Kd.C_drewN ?_ _) | (with_reducible refine Kd.C_drew ?_)))
          (case side2 => exact HC0_0.out)
          rintro e w85 ⟨rfl, hb⟩
          have HS1_ := (hb.cell (World.block_lt_of_cell? _ _ (hHeld.2.1))).trans (hHeld.2.1)
          have HS2_ := (hb.cell (World.block_lt_of_cell? _ _ (hHeld.2.2.1))).trans (hHeld.2.2.1)
          have HS3_ := (hb.cell (World.block_lt_of_cell? _ _ (hHeld.2.2.2.1))).trans (hHeld.2.2.2.1)
          have HS4_ := (hb.cell (World.block_lt_of_cell? _ _ (hHeld.2.2.2.2))).trans (hHeld.2.2.2.2)
          refine ⟨_, rfl, ?_⟩
          have n0_ := Aside0.mk (Kd.R_below (by (with_reducible repeat (first | apply Kd.R_alloc | apply Kd.R_drewN | apply Kd.R_drew)); exact HO_9.out) hb)
          have n1_ := Aside0.mk (Kd.S_below (by (with_reducible repeat (first | apply Kd.S_alloc | apply Kd.S_drewN | apply Kd.S_drew)); exact HO_11.out) hb)
          have n2_ := Aside0.mk (blk_below (g := gb745) (o := .cells #[.slice A0_0 l0_0.length c0_0] 24 (0, 0)) (by (with_reducible repeat (first | refine blk_drewN ?_ _ | refine blk_drew ?_ | refine blk_alloc ?_ _)); exact BK745.out) hb)
          have n3_ := Aside0.mk (below_step (by repeat (first | (with_reducible first | exact HB.out | apply below_alloc | apply pw_below_drewN | apply below_drew1 | refine below_set ?_ GE745.out) | exact HB.out)) hb)
          clear HO_9
          clear HO_11
          clear BK745
          clear HB
          have HO_9 := n0_
          have HO_11 := n1_
          have BK745 := n2_
          have HB := n3_
          clear n0_ n1_ n2_ n3_
          (try clear hb)
          (try clear hb2)
          (try clear hk)
          (try clear hi)
          refine hK.out _ _ ⟨(blk_cell BK745.out 0).trans rfl, HS1_, HS2_, HS3_, HS4_⟩ (fun hHeld => ?_)
          clear hK K
          refine norm_ (a' := ?_) ?_ ?_
          rotate_left
          ·show Act.put _ (some 89) _ = _
           simp only [Act.put, List.setIfInBounds_toArray, List.set_cons_zero, List.set_cons_succ, i64_w, i32_w]
           rfl
          refine pv_ 7 90 lrc7 HT_ ?_
          refine pv_ 8 91 lrc8 HT_ ?_
          refine pv_ 10 93 lrc9 HT_ ?_
          refine pv_ 11 94 lrc10 HT_ ?_
          refine pv_ 12 95 lrc11 HT_ ?_
          refine pv_ 13 96 lrc12 HT_ ?_
          refine take_ (i := 9) (N := some 92) (v := ?_) (a' := ?_) lrc13 rfl rfl (take_ofW HT_.out HW_.out (by kernel_rfl)) (fun _ _ _ h => h) (Or.inl ⟨by rfl, ?_⟩) hHeld ?_ ?_
          rotate_left
          ·rintro w' ⟨s0, s1, s2, s3, s4⟩
           go_simp
           with_reducible rfl
          rotate_left
          ·simp only [Act.put, List.setIfInBounds_toArray, List.set_cons_zero, List.set_cons_succ, i64_w, i32_w]
           rfl
          refine take_ (i := 14) (N := some 97) (v := ?_) (a' := ?_) lrc14 rfl rfl (take_ofW HT_.out HW_.out (by kernel_rfl)) (fun _ _ _ h => h) (Or.inl ⟨by rfl, ?_⟩) hHeld ?_ ?_
          rotate_left
          ·rintro w' ⟨s0, s1, s2, s3, s4⟩
           go_simp
           with_reducible rfl
          rotate_left
          ·simp only [Act.put, List.setIfInBounds_toArray, List.set_cons_zero, List.set_cons_succ, i64_w, i32_w]
           rfl
          refine one_ (i := 15) (N := some 98) lrc15 rfl rfl (one_of HT_.out (by kernel_rfl)) (by decide) (fun K hK => ?_)
          refine goes_ Try.func40 (by kernel_rfl) rfl #[.agg #[.slice A0_0 l0_0.length c0_0], .int .i64 ((rd_T49 t754 x13_4).f1)] (by rfl) rfl rfl (by (try simp only [List.map_toArray, List.map_cons, List.map_nil]); first | done | rfl | (simp only [List.length_drop, List.length_take]; rfl)) ?_
          with_reducible refine (mizmazeref01_State.calls _ _ l0_0 ((rd_T49 t754 x13_4).f1) false _ ?side1 ?side2 A60.out).mono ?_
          (case side1 => repeat (first | exact (Kd.C_below HR0_0.out HB.out) | (with_reducible refine Kd.C_alloc ?_ _) | (with_reducible refine Kd.C_drewN ?_ _) | (with_reducible refine Kd.C_drew ?_)))
          (case side2 => exact HC0_0.out)
          rintro e w86 ⟨rfl, hb⟩
          have HS1_ := (hb.cell (World.block_lt_of_cell? _ _ (hHeld.2.1))).trans (hHeld.2.1)
          have HS2_ := (hb.cell (World.block_lt_of_cell? _ _ (hHeld.2.2.1))).trans (hHeld.2.2.1)
          have HS3_ := (hb.cell (World.block_lt_of_cell? _ _ (hHeld.2.2.2.1))).trans (hHeld.2.2.2.1)
          have HS4_ := (hb.cell (World.block_lt_of_cell? _ _ (hHeld.2.2.2.2))).trans (hHeld.2.2.2.2)
          refine ⟨_, rfl, ?_⟩
          have n0_ := Aside0.mk (Kd.R_below (by (with_reducible repeat (first | apply Kd.R_alloc | apply Kd.R_drewN | apply Kd.R_drew)); exact HO_9.out) hb)
          have n1_ := Aside0.mk (Kd.S_below (by (with_reducible repeat (first | apply Kd.S_alloc | apply Kd.S_drewN | apply Kd.S_drew)); exact HO_11.out) hb)
          have n2_ := Aside0.mk (blk_below (g := gb745) (o := .cells #[.slice A0_0 l0_0.length c0_0] 24 (0, 0)) (by (with_reducible repeat (first | refine blk_drewN ?_ _ | refine blk_drew ?_ | refine blk_alloc ?_ _)); exact BK745.out) hb)
          have n3_ := Aside0.mk (below_step (by repeat (first | (with_reducible first | exact HB.out | apply below_alloc | apply pw_below_drewN | apply below_drew1 | refine below_set ?_ GE745.out) | exact HB.out)) hb)
          clear HO_9
          clear HO_11
          clear BK745
          clear HB
          have HO_9 := n0_
          have HO_11 := n1_
          have BK745 := n2_
          have HB := n3_
          clear n0_ n1_ n2_ n3_
          (try clear hb)
          (try clear hb2)
          (try clear hk)
          (try clear hi)
          refine hK.out _ _ ⟨(blk_cell BK745.out 0).trans rfl, HS1_, HS2_, HS3_, HS4_⟩ (fun hHeld => ?_)
          clear hK K
          refine norm_ (a' := ?_) ?_ ?_
          rotate_left
          ·show Act.put _ (some 98) _ = _
           simp only [Act.put, List.setIfInBounds_toArray, List.set_cons_zero, List.set_cons_succ, i64_w, i32_w]
           rfl
          refine pv_ 16 99 lrc16 HT_ ?_
          refine pv_ 17 100 lrc17 HT_ ?_
          refine pv_ 18 101 lrc18 HT_ ?_
          refine pu_ 19 102 lrc19 HT_ ?_
          refine pu_ 20 103 lrc20 HT_ ?_
          refine pu_ 21 104 lrc21 HT_ ?_
          refine pu_ 22 105 lrc22 HT_ ?_
          refine pu_ 23 106 lrc61 HT_ ?_
          refine pu_ 24 107 lrc62 HT_ ?_
          refine pu_ 25 108 lrc63 HT_ ?_
          refine pu_ 26 109 lrc64 HT_ ?_
          refine pu_ 27 110 lrc27 HT_ ?_
          refine pu_ 28 111 lrc28 HT_ ?_
          refine pu_ 29 112 lrc29 HT_ ?_
          refine pv_ 30 113 lrc30 HT_ ?_
          refine done_ (done_of HT_.out (by kernel_rfl)) ?_
          try go_wp2
          go_ret
          exact ⟨by first | rfl | (simp [errW_none, errW_some] <;> rfl) | (simp [*, errW_none, errW_some] <;> rfl), by repeat (first | (with_reducible first | exact HB.out | apply below_alloc | apply pw_below_drewN | apply below_drew1 | refine below_set ?_ GE745.out) | exact HB.out)⟩
         subst c61
         have H1 : (if ((rd_T49 t754 x13_4).f0) ≥ ((rd_T49 t754 x13_4).f1) then (some false) else (if 0 ≤ ((rd_T49 t754 x13_4).f0) then (if ((rd_T49 t754 x13_4).f0) < (x11_4.length : Int) then (if 0 ≤ ((rd_T49 t754 x13_4).f1) then (if ((rd_T49 t754 x13_4).f1) < ((rd_L6 x11_4 ((rd_T49 t754 x13_4).f0)).length : Int) then ((some (x11_4.set (((rd_T49 t754 x13_4).f0) : Int).toNat ((rd_L6 x11_4 ((rd_T49 t754 x13_4).f0)).set (((rd_T49 t754 x13_4).f1) : Int).toNat true) : List (List Bool))).bind fun y776 => (if ((rd_T49 t754 x13_4).f1) < (x11_4.length : Int) then (if ((rd_T49 t754 x13_4).f0) < ((rd_L6 y776 ((rd_T49 t754 x13_4).f1)).length : Int) then (mizmazelaw03_ResetClosed.l1 k4 a1 a2 t754 (y776.set (((rd_T49 t754 x13_4).f1) : Int).toNat ((rd_L6 y776 ((rd_T49 t754 x13_4).f1)).set (((rd_T49 t754 x13_4).f0) : Int).toNat true)) (wrap64 (x13_4 + 1)) l0_0) else (none)) else (none))) else (none)) else (none)) else (none)) else (none))) = some r := by rw [if_pos rfl] at H; exact H
         clear H
         have H := H1
         clear H1
         by_cases c62 : ((rd_T49 t754 x13_4).f0) ≥ ((rd_T49 t754 x13_4).f1)
         ·rw [if_pos c62] at H
          have c62b0 : decide (((rd_T49 t754 x13_4).f1) ≤ ((rd_T49 t754 x13_4).f0)) = true := decide_eq_true c62
          clear c62
          obtain rfl := Option.some.inj H
          obtain ⟨Ao63, co63, eo63⟩ := Kd.R_slice HO_9.out
          subst eo63
          try go_wp2
          have n0_ := Aside0.mk (Kd.R_drew HO_9.out)
          have n1_ := Aside0.mk (Kd.S_drew HO_11.out)
          have n2_ := Aside0.mk (blk_drew BK745.out)
          have n3_ := Aside0.mk (below_drew1 HB.out)
          clear HO_9
          clear HO_11
          clear BK745
          clear HB
          have HO_9 := n0_
          have HO_11 := n1_
          have BK745 := n2_
          have HB := n3_
          clear n0_ n1_ n2_ n3_
          have p765 : 0 ≤ (x13_4 : Int) := of_decide_eq_true (by first | (with_reducible assumption) | assumption)
          have q765 : x13_4 < (t754.length : Int) := of_decide_eq_true (by first | (with_reducible assumption) | assumption)
          obtain ⟨ad765, e765, hx765_0, hx765_1⟩ := at_T49 (Kd.R_reads' HO_9.out).2.2 x13_4 p765 q765
          cases e765
          replace p765 := eq_true p765
          replace q765 := eq_true q765
          have p767 : 0 ≤ (x13_4 : Int) := of_decide_eq_true (by first | (with_reducible assumption) | assumption)
          have q767 : x13_4 < (t754.length : Int) := of_decide_eq_true (by first | (with_reducible assumption) | assumption)
          obtain ⟨ad767, e767, hx767_0, hx767_1⟩ := at_T49 (Kd.R_reads' HO_9.out).2.2 x13_4 p767 q767
          obtain rfl : ad765 = ad767 := (by injection e767)
          replace p767 := eq_true p767
          replace q767 := eq_true q767
          have p769 : 0 ≤ (x13_4 : Int) := of_decide_eq_true (by first | (with_reducible assumption) | assumption)
          have q769 : x13_4 < (t754.length : Int) := of_decide_eq_true (by first | (with_reducible assumption) | assumption)
          obtain ⟨ad769, e769, hx769_0, hx769_1⟩ := at_T49 (Kd.R_reads' HO_9.out).2.2 x13_4 p769 q769
          obtain rfl : ad765 = ad769 := (by injection e769)
          replace p769 := eq_true p769
          replace q769 := eq_true q769
          have p770 : 0 ≤ (x13_4 : Int) := of_decide_eq_true (by first | (with_reducible assumption) | assumption)
          have q770 : x13_4 < (t754.length : Int) := of_decide_eq_true (by first | (with_reducible assumption) | assumption)
          obtain ⟨ad770, e770, hx770_0, hx770_1⟩ := at_T49 (Kd.R_reads' HO_9.out).2.2 x13_4 p770 q770
          obtain rfl : ad765 = ad770 := (by injection e770)
          replace p770 := eq_true p770
          replace q770 := eq_true q770
          refine start_ (n := 31) (S := fun w' => w'.cell? ⟨gb745, 0, none⟩ = some (.slice A0_0 l0_0.length c0_0) ∧ w'.cell? (ad765.add ((x13_4).toNat * 2)) = some (.int .i64 ((rd_T49 t754 x13_4).f0)) ∧ w'.cell? ⟨(ad765.add ((x13_4).toNat * 2)).block, (ad765.add ((x13_4).toNat * 2)).off + 1, none⟩ = some (.int .i64 ((rd_T49 t754 x13_4).f1)) ∧ w'.cell? (ad765.add ((x13_4).toNat * 2)) = some (.int .i64 ((rd_T49 t754 x13_4).f0)) ∧ w'.cell? ⟨(ad765.add ((x13_4).toNat * 2)).block, (ad765.add ((x13_4).toNat * 2)).off + 1, none⟩ = some (.int .i64 ((rd_T49 t754 x13_4).f1)) ∧ w'.cell? (ad765.add ((x13_4).toNat * 2)) = some (.int .i64 ((rd_T49 t754 x13_4).f0)) ∧ w'.cell? ⟨(ad765.add ((x13_4).toNat * 2)).block, (ad765.add ((x13_4).toNat * 2)).off + 1, none⟩ = some (.int .i64 ((rd_T49 t754 x13_4).f1)) ∧ w'.cell? (ad765.add ((x13_4).toNat * 2)) = some (.int .i64 ((rd_T49 t754 x13_4).f0)) ∧ w'.cell? ⟨(ad765.add ((x13_4).toNat * 2)).block, (ad765.add ((x13_4).toNat * 2)).off + 1, none⟩ = some (.int .i64 ((rd_T49 t754 x13_4).f1))) (ds := []) #[false, false, false, false, false, false, false, false, false, false, false, false, false, false, false, false, false, false, false, false, false, false, false, false, false, false, false, false, false, false, false] (by kernel_rfl) rfl rfl ⟨(blk_cell BK745.out 0).trans rfl, hx765_0, hx765_1, hx767_0, hx767_1, hx769_0, hx769_1, hx770_0, hx770_1⟩ (fun hHeld => ?_); refine with_tabW mizmazelaw03_ResetClosed.tab15 mizmazelaw03_ResetClosed.bits15 (fun HT_ HW_ => ?_)
          generalize wr.drew = w64 at HO_9 HO_11 BK745 HB hx765_0 hx765_1 hx767_0 hx767_1 hx769_0 hx769_1 hx770_0 hx770_1 hHeld ⊢
          refine pv_ 1 84 lrc0 HT_ ?_
          refine pv_ 2 85 lrc1 HT_ ?_
          refine pv_ 3 86 lrc2 HT_ ?_
          refine pv_ 4 87 lrc3 HT_ ?_
          refine take_ (i := 0) (N := some 83) (v := ?_) (a' := ?_) lrc4 rfl rfl (take_ofW HT_.out HW_.out (by kernel_rfl)) (fun _ _ _ h => h) (Or.inl ⟨by rfl, ?_⟩) hHeld ?_ ?_
          rotate_left
          ·rintro w' ⟨s0, s1, s2, s3, s4, s5, s6, s7, s8⟩
           go_simp
           with_reducible rfl
          rotate_left
          ·simp only [Act.put, List.setIfInBounds_toArray, List.set_cons_zero, List.set_cons_succ, i64_w, i32_w]
           rfl
          refine take_ (i := 5) (N := some 88) (v := ?_) (a' := ?_) lrc5 rfl rfl (take_ofW HT_.out HW_.out (by kernel_rfl)) (fun _ _ _ h => h) (Or.inl ⟨by rfl, ?_⟩) hHeld ?_ ?_
          rotate_left
          ·rintro w' ⟨s0, s1, s2, s3, s4, s5, s6, s7, s8⟩
           go_simp
           with_reducible rfl
          rotate_left
          ·simp only [Act.put, List.setIfInBounds_toArray, List.set_cons_zero, List.set_cons_succ, i64_w, i32_w]
           rfl
          refine one_ (i := 6) (N := some 89) lrc6 rfl rfl (one_of HT_.out (by kernel_rfl)) (by decide) (fun K hK => ?_)
          refine goes_ Try.func40 (by kernel_rfl) rfl #[.agg #[.slice A0_0 l0_0.length c0_0], .int .i64 ((rd_T49 t754 x13_4).f0)] (by rfl) rfl rfl (by (try simp only [List.map_toArray, List.map_cons, List.map_nil]); first | done | rfl | (simp only [List.length_drop, List.length_take]; rfl)) ?_
          with_reducible refine (mizmazeref01_State.calls _ _ l0_0 ((rd_T49 t754 x13_4).f0) true _ ?side1 ?side2 A58.out).mono ?_
          (case side1 => repeat (first | exact (Kd.C_below HR0_0.out HB.out) | (with_reducible refine Kd.C_alloc ?_ _) | (with_reducible refine Kd.C_drewN ?_ _) | (with_reducible refine Kd.C_drew ?_)))
          (case side2 => exact HC0_0.out)
          rintro e w65 ⟨rfl, hb⟩
          have HS1_ := (hb.cell (World.block_lt_of_cell? _ _ (hHeld.2.1))).trans (hHeld.2.1)
          have HS2_ := (hb.cell (World.block_lt_of_cell? _ _ (hHeld.2.2.1))).trans (hHeld.2.2.1)
          have HS3_ := (hb.cell (World.block_lt_of_cell? _ _ (hHeld.2.2.2.1))).trans (hHeld.2.2.2.1)
          have HS4_ := (hb.cell (World.block_lt_of_cell? _ _ (hHeld.2.2.2.2.1))).trans (hHeld.2.2.2.2.1)
          have HS5_ := (hb.cell (World.block_lt_of_cell? _ _ (hHeld.2.2.2.2.2.1))).trans (hHeld.2.2.2.2.2.1)
          have HS6_ := (hb.cell (World.block_lt_of_cell? _ _ (hHeld.2.2.2.2.2.2.1))).trans (hHeld.2.2.2.2.2.2.1)
          have HS7_ := (hb.cell (World.block_lt_of_cell? _ _ (hHeld.2.2.2.2.2.2.2.1))).trans (hHeld.2.2.2.2.2.2.2.1)
          have HS8_ := (hb.cell (World.block_lt_of_cell? _ _ (hHeld.2.2.2.2.2.2.2.2))).trans (hHeld.2.2.2.2.2.2.2.2)
          refine ⟨_, rfl, ?_⟩
          have n0_ := Aside0.mk (Kd.R_below (by (with_reducible repeat (first | apply Kd.R_alloc | apply Kd.R_drewN | apply Kd.R_drew)); exact HO_9.out) hb)
          have n1_ := Aside0.mk (Kd.S_below (by (with_reducible repeat (first | apply Kd.S_alloc | apply Kd.S_drewN | apply Kd.S_drew)); exact HO_11.out) hb)
          have n2_ := Aside0.mk (blk_below (g := gb745) (o := .cells #[.slice A0_0 l0_0.length c0_0] 24 (0, 0)) (by (with_reducible repeat (first | refine blk_drewN ?_ _ | refine blk_drew ?_ | refine blk_alloc ?_ _)); exact BK745.out) hb)
          have n3_ := Aside0.mk (below_step (by repeat (first | (with_reducible first | exact HB.out | apply below_alloc | apply pw_below_drewN | apply below_drew1 | refine below_set ?_ GE745.out) | exact HB.out)) hb)
          clear HO_9
          clear HO_11
          clear BK745
          clear HB
          have HO_9 := n0_
          have HO_11 := n1_
          have BK745 := n2_
          have HB := n3_
          clear n0_ n1_ n2_ n3_
          (try clear hb)
          (try clear hb2)
          (try clear hk)
          (try clear hi)
          refine hK.out _ _ ⟨(blk_cell BK745.out 0).trans rfl, HS1_, HS2_, HS3_, HS4_, HS5_, HS6_, HS7_, HS8_⟩ (fun hHeld => ?_)
          clear hK K
          refine norm_ (a' := ?_) ?_ ?_
          rotate_left
          ·show Act.put _ (some 89) _ = _
           simp only [Act.put, List.setIfInBounds_toArray, List.set_cons_zero, List.set_cons_succ, i64_w, i32_w]
           rfl
          refine pv_ 7 90 lrc7 HT_ ?_
          refine pv_ 8 91 lrc8 HT_ ?_
          refine pv_ 10 93 lrc9 HT_ ?_
          refine pv_ 11 94 lrc10 HT_ ?_
          refine pv_ 12 95 lrc11 HT_ ?_
          refine pv_ 13 96 lrc12 HT_ ?_
          refine take_ (i := 9) (N := some 92) (v := ?_) (a' := ?_) lrc13 rfl rfl (take_ofW HT_.out HW_.out (by kernel_rfl)) (fun _ _ _ h => h) (Or.inl ⟨by rfl, ?_⟩) hHeld ?_ ?_
          rotate_left
          ·rintro w' ⟨s0, s1, s2, s3, s4, s5, s6, s7, s8⟩
           go_simp
           with_reducible rfl
          rotate_left
          ·simp only [Act.put, List.setIfInBounds_toArray, List.set_cons_zero, List.set_cons_succ, i64_w, i32_w]
           rfl
          refine take_ (i := 14) (N := some 97) (v := ?_) (a' := ?_) lrc14 rfl rfl (take_ofW HT_.out HW_.out (by kernel_rfl)) (fun _ _ _ h => h) (Or.inl ⟨by rfl, ?_⟩) hHeld ?_ ?_
          rotate_left
          ·rintro w' ⟨s0, s1, s2, s3, s4, s5, s6, s7, s8⟩
           go_simp
           with_reducible rfl
          rotate_left
          ·simp only [Act.put, List.setIfInBounds_toArray, List.set_cons_zero, List.set_cons_succ, i64_w, i32_w]
           rfl
          refine one_ (i := 15) (N := some 98) lrc15 rfl rfl (one_of HT_.out (by kernel_rfl)) (by decide) (fun K hK => ?_)
          refine goes_ Try.func40 (by kernel_rfl) rfl #[.agg #[.slice A0_0 l0_0.length c0_0], .int .i64 ((rd_T49 t754 x13_4).f1)] (by rfl) rfl rfl (by (try simp only [List.map_toArray, List.map_cons, List.map_nil]); first | done | rfl | (simp only [List.length_drop, List.length_take]; rfl)) ?_
          with_reducible refine (mizmazeref01_State.calls _ _ l0_0 ((rd_T49 t754 x13_4).f1) true _ ?side1 ?side2 A60.out).mono ?_
          (case side1 => repeat (first | exact (Kd.C_below HR0_0.out HB.out) | (with_reducible refine Kd.C_alloc ?_ _) | (with_reducible refine Kd.C_drewN ?_ _) | (with_reducible refine Kd.C_drew ?_)))
          (case side2 => exact HC0_0.out)
          rintro e w66 ⟨rfl, hb⟩
          have HS1_ := (hb.cell (World.block_lt_of_cell? _ _ (hHeld.2.1))).trans (hHeld.2.1)
          have HS2_ := (hb.cell (World.block_lt_of_cell? _ _ (hHeld.2.2.1))).trans (hHeld.2.2.1)
          have HS3_ := (hb.cell (World.block_lt_of_cell? _ _ (hHeld.2.2.2.1))).trans (hHeld.2.2.2.1)
          have HS4_ := (hb.cell (World.block_lt_of_cell? _ _ (hHeld.2.2.2.2.1))).trans (hHeld.2.2.2.2.1)
          have HS5_ := (hb.cell (World.block_lt_of_cell? _ _ (hHeld.2.2.2.2.2.1))).trans (hHeld.2.2.2.2.2.1)
          have HS6_ := (hb.cell (World.block_lt_of_cell? _ _ (hHeld.2.2.2.2.2.2.1))).trans (hHeld.2.2.2.2.2.2.1)
          have HS7_ := (hb.cell (World.block_lt_of_cell? _ _ (hHeld.2.2.2.2.2.2.2.1))).trans (hHeld.2.2.2.2.2.2.2.1)
          have HS8_ := (hb.cell (World.block_lt_of_cell? _ _ (hHeld.2.2.2.2.2.2.2.2))).trans (hHeld.2.2.2.2.2.2.2.2)
          refine ⟨_, rfl, ?_⟩
          have n0_ := Aside0.mk (Kd.R_below (by (with_reducible repeat (first | apply Kd.R_alloc | apply Kd.R_drewN | apply Kd.R_drew)); exact HO_9.out) hb)
          have n1_ := Aside0.mk (Kd.S_below (by (with_reducible repeat (first | apply Kd.S_alloc | apply Kd.S_drewN | apply Kd.S_drew)); exact HO_11.out) hb)
          have n2_ := Aside0.mk (blk_below (g := gb745) (o := .cells #[.slice A0_0 l0_0.length c0_0] 24 (0, 0)) (by (with_reducible repeat (first | refine blk_drewN ?_ _ | refine blk_drew ?_ | refine blk_alloc ?_ _)); exact BK745.out) hb)
          have n3_ := Aside0.mk (below_step (by repeat (first | (with_reducible first | exact HB.out | apply below_alloc | apply pw_below_drewN | apply below_drew1 | refine below_set ?_ GE745.out) | exact HB.out)) hb)
          clear HO_9
          clear HO_11
          clear BK745
          clear HB
          have HO_9 := n0_
          have HO_11 := n1_
          have BK745 := n2_
          have HB := n3_
          clear n0_ n1_ n2_ n3_
          (try clear hb)
          (try clear hb2)
          (try clear hk)
          (try clear hi)
          refine hK.out _ _ ⟨(blk_cell BK745.out 0).trans rfl, HS1_, HS2_, HS3_, HS4_, HS5_, HS6_, HS7_, HS8_⟩ (fun hHeld => ?_)
          clear hK K
          refine norm_ (a' := ?_) ?_ ?_
          rotate_left
          ·show Act.put _ (some 98) _ = _
           simp only [Act.put, List.setIfInBounds_toArray, List.set_cons_zero, List.set_cons_succ, i64_w, i32_w]
           rfl
          refine pv_ 16 99 lrc16 HT_ ?_
          refine pv_ 17 100 lrc17 HT_ ?_
          refine pv_ 18 101 lrc18 HT_ ?_
          refine pv_ 19 102 lrc19 HT_ ?_
          refine pv_ 20 103 lrc20 HT_ ?_
          refine pv_ 21 104 lrc21 HT_ ?_
          refine pv_ 22 105 lrc22 HT_ ?_
          refine pv_ 24 107 lrc23 HT_ ?_
          refine pv_ 25 108 lrc24 HT_ ?_
          refine pv_ 26 109 lrc25 HT_ ?_
          refine pv_ 27 110 lrc26 HT_ ?_
          refine take_ (i := 23) (N := some 106) (v := ?_) (a' := ?_) lrc27 rfl rfl (take_ofW HT_.out HW_.out (by kernel_rfl)) (fun _ _ _ h => h) (Or.inl ⟨by rfl, ?_⟩) hHeld ?_ ?_
          rotate_left
          ·rintro w' ⟨s0, s1, s2, s3, s4, s5, s6, s7, s8⟩
           go_simp
           with_reducible rfl
          rotate_left
          ·simp only [Act.put, List.setIfInBounds_toArray, List.set_cons_zero, List.set_cons_succ, i64_w, i32_w]
           rfl
          refine take_ (i := 28) (N := some 111) (v := ?_) (a' := ?_) lrc28 rfl rfl (take_ofW HT_.out HW_.out (by kernel_rfl)) (fun _ _ _ h => h) (Or.inl ⟨by rfl, ?_⟩) hHeld ?_ ?_
          rotate_left
          ·rintro w' ⟨s0, s1, s2, s3, s4, s5, s6, s7, s8⟩
           go_simp
           with_reducible rfl
          rotate_left
          ·simp only [Act.put, List.setIfInBounds_toArray, List.set_cons_zero, List.set_cons_succ, i64_w, i32_w]
           rfl
          refine pv_ 29 112 lrc29 HT_ ?_
          refine pv_ 30 113 lrc30 HT_ ?_
          refine done_ (done_of HT_.out (by kernel_rfl)) ?_
          try go_wp2
          go_ret
          exact ⟨by first | rfl | (simp [errW_none, errW_some] <;> rfl) | (simp [*, errW_none, errW_some] <;> rfl), by repeat (first | (with_reducible first | exact HB.out | apply below_alloc | apply pw_below_drewN | apply below_drew1 | refine below_set ?_ GE745.out) | exact HB.out)⟩
         rw [if_neg c62] at H
         have c62b0 : decide (((rd_T49 t754 x13_4).f1) ≤ ((rd_T49 t754 x13_4).f0)) = false := decide_eq_false c62
         clear c62
         by_cases c67 : 0 ≤ ((rd_T49 t754 x13_4).f0)
         rotate_left
         ·rw [if_neg c67] at H
          exact absurd H (by simp)
         rw [if_pos c67] at H
         have c67b0 : decide (0 ≤ ((rd_T49 t754 x13_4).f0)) = true := decide_eq_true c67
         clear c67
         by_cases c68 : ((rd_T49 t754 x13_4).f0) < (x11_4.length : Int)
         rotate_left
         ·rw [if_neg c68] at H
          exact absurd H (by simp)
         rw [if_pos c68] at H
         have c68b0 : decide (((rd_T49 t754 x13_4).f0) < (x11_4.length : Int)) = true := decide_eq_true c68
         clear c68
         by_cases c69 : 0 ≤ ((rd_T49 t754 x13_4).f1)
         rotate_left
         ·rw [if_neg c69] at H
          exact absurd H (by simp)
         rw [if_pos c69] at H
         have c69b0 : decide (0 ≤ ((rd_T49 t754 x13_4).f1)) = true := decide_eq_true c69
         clear c69
         by_cases c70 : ((rd_T49 t754 x13_4).f1) < ((rd_L6 x11_4 ((rd_T49 t754 x13_4).f0)).length : Int)
         rotate_left
         ·rw [if_neg c70] at H
          exact absurd H (by simp)
         rw [if_pos c70] at H
         have c70b0 : decide (((rd_T49 t754 x13_4).f1) < ((rd_L6 x11_4 ((rd_T49 t754 x13_4).f0)).length : Int)) = true := decide_eq_true c70
         clear c70
         obtain ⟨y774, hy774⟩ : ∃ y_ : List Bool, y_ = ((rd_L6 x11_4 ((rd_T49 t754 x13_4).f0)).set (((rd_T49 t754 x13_4).f1) : Int).toNat true) := ⟨_, rfl⟩
         replace H : ((some (x11_4.set (((rd_T49 t754 x13_4).f0) : Int).toNat y774 : List (List Bool))).bind fun y776 => (if ((rd_T49 t754 x13_4).f1) < (x11_4.length : Int) then (if ((rd_T49 t754 x13_4).f0) < ((rd_L6 y776 ((rd_T49 t754 x13_4).f1)).length : Int) then (mizmazelaw03_ResetClosed.l1 k4 a1 a2 t754 (y776.set (((rd_T49 t754 x13_4).f1) : Int).toNat ((rd_L6 y776 ((rd_T49 t754 x13_4).f1)).set (((rd_T49 t754 x13_4).f0) : Int).toNat true)) (wrap64 (x13_4 + 1)) l0_0) else (none)) else (none))) = some r := by first | (rw [hy774]; with_reducible exact H) | (have H2_ := (Option.bind_some _ _).symm.trans H; rw [hy774]; with_reducible exact H2_) | (have H2_ := (Option.bind_some _ _).symm.trans H; with_reducible exact H2_) | with_reducible exact H | (rw [hy774]; exact H) | exact H
         have Ny774 := Aside0.mk hy774
         clear hy774
         obtain ⟨y776, hy776⟩ : ∃ y_ : List (List Bool), y_ = (x11_4.set (((rd_T49 t754 x13_4).f0) : Int).toNat y774) := ⟨_, rfl⟩
         replace H : (if ((rd_T49 t754 x13_4).f1) < (x11_4.length : Int) then (if ((rd_T49 t754 x13_4).f0) < ((rd_L6 y776 ((rd_T49 t754 x13_4).f1)).length : Int) then (mizmazelaw03_ResetClosed.l1 k4 a1 a2 t754 (y776.set (((rd_T49 t754 x13_4).f1) : Int).toNat ((rd_L6 y776 ((rd_T49 t754 x13_4).f1)).set (((rd_T49 t754 x13_4).f0) : Int).toNat true)) (wrap64 (x13_4 + 1)) l0_0) else (none)) else (none)) = some r := by first | (rw [hy776]; with_reducible exact H) | (have H2_ := (Option.bind_some _ _).symm.trans H; rw [hy776]; with_reducible exact H2_) | (have H2_ := (Option.bind_some _ _).symm.trans H; with_reducible exact H2_) | with_reducible exact H | (rw [hy776]; exact H) | exact H
         have Ny776 := Aside0.mk hy776
         clear hy776
         by_cases c72 : ((rd_T49 t754 x13_4).f1) < (x11_4.length : Int)
         rotate_left
         ·rw [if_neg c72] at H
          exact absurd H (by simp)
         rw [if_pos c72] at H
         have c72b0 : decide (((rd_T49 t754 x13_4).f1) < (x11_4.length : Int)) = true := decide_eq_true c72
         clear c72
         by_cases c73 : ((rd_T49 t754 x13_4).f0) < ((rd_L6 y776 ((rd_T49 t754 x13_4).f1)).length : Int)
         rotate_left
         ·rw [if_neg c73] at H
          exact absurd H (by simp)
         rw [if_pos c73] at H
         have c73b0 : decide (((rd_T49 t754 x13_4).f0) < ((rd_L6 y776 ((rd_T49 t754 x13_4).f1)).length : Int)) = true := decide_eq_true c73
         clear c73
         obtain ⟨y780, hy780⟩ : ∃ y_ : List Bool, y_ = ((rd_L6 y776 ((rd_T49 t754 x13_4).f1)).set (((rd_T49 t754 x13_4).f0) : Int).toNat true) := ⟨_, rfl⟩
         replace H : (mizmazelaw03_ResetClosed.l1 k4 a1 a2 t754 (y776.set (((rd_T49 t754 x13_4).f1) : Int).toNat y780) (wrap64 (x13_4 + 1)) l0_0) = some r := by first | (rw [hy780]; with_reducible exact H) | (have H2_ := (Option.bind_some _ _).symm.trans H; rw [hy780]; with_reducible exact H2_) | (have H2_ := (Option.bind_some _ _).symm.trans H; with_reducible exact H2_) | with_reducible exact H | (rw [hy780]; exact H) | exact H
         have Ny780 := Aside0.mk hy780
         clear hy780
         obtain ⟨y782, hy782⟩ : ∃ y_ : List (List Bool), y_ = (y776.set (((rd_T49 t754 x13_4).f1) : Int).toNat y780) := ⟨_, rfl⟩
         replace H : (mizmazelaw03_ResetClosed.l1 k4 a1 a2 t754 y782 (wrap64 (x13_4 + 1)) l0_0) = some r := by first | (rw [hy782]; with_reducible exact H) | (have H2_ := (Option.bind_some _ _).symm.trans H; rw [hy782]; with_reducible exact H2_) | (have H2_ := (Option.bind_some _ _).symm.trans H; with_reducible exact H2_) | with_reducible exact H | (rw [hy782]; exact H) | exact H
         have Ny782 := Aside0.mk hy782
         clear hy782
         have H' := Aside0.mk H
         clear H
         obtain ⟨Ao75, co75, eo75⟩ := Kd.R_slice HO_9.out
         subst eo75
         try go_wp2
         have n0_ := Aside0.mk (Kd.R_drew HO_9.out)
         have n1_ := Aside0.mk (Kd.S_drew HO_11.out)
         have n2_ := Aside0.mk (blk_drew BK745.out)
         have n3_ := Aside0.mk (below_drew1 HB.out)
         clear HO_9
         clear HO_11
         clear BK745
         clear HB
         have HO_9 := n0_
         have HO_11 := n1_
         have BK745 := n2_
         have HB := n3_
         clear n0_ n1_ n2_ n3_
         have p765 : 0 ≤ (x13_4 : Int) := of_decide_eq_true (by first | (with_reducible assumption) | assumption)
         have q765 : x13_4 < (t754.length : Int) := of_decide_eq_true (by first | (with_reducible assumption) | assumption)
         obtain ⟨ad765, e765, hx765_0, hx765_1⟩ := at_T49 (Kd.R_reads' HO_9.out).2.2 x13_4 p765 q765
         cases e765
         replace p765 := eq_true p765
         replace q765 := eq_true q765
         have p767 : 0 ≤ (x13_4 : Int) := of_decide_eq_true (by first | (with_reducible assumption) | assumption)
         have q767 : x13_4 < (t754.length : Int) := of_decide_eq_true (by first | (with_reducible assumption) | assumption)
         obtain ⟨ad767, e767, hx767_0, hx767_1⟩ := at_T49 (Kd.R_reads' HO_9.out).2.2 x13_4 p767 q767
         obtain rfl : ad765 = ad767 := (by injection e767)
         replace p767 := eq_true p767
         replace q767 := eq_true q767
         have p769 : 0 ≤ (x13_4 : Int) := of_decide_eq_true (by first | (with_reducible assumption) | assumption)
         have q769 : x13_4 < (t754.length : Int) := of_decide_eq_true (by first | (with_reducible assumption) | assumption)
         obtain ⟨ad769, e769, hx769_0, hx769_1⟩ := at_T49 (Kd.R_reads' HO_9.out).2.2 x13_4 p769 q769
         obtain rfl : ad765 = ad769 := (by injection e769)
         replace p769 := eq_true p769
         replace q769 := eq_true q769
         have p770 : 0 ≤ (x13_4 : Int) := of_decide_eq_true (by first | (with_reducible assumption) | assumption)
         have q770 : x13_4 < (t754.length : Int) := of_decide_eq_true (by first | (with_reducible assumption) | assumption)
         obtain ⟨ad770, e770, hx770_0, hx770_1⟩ := at_T49 (Kd.R_reads' HO_9.out).2.2 x13_4 p770 q770
         obtain rfl : ad765 = ad770 := (by injection e770)
         replace p770 := eq_true p770
         replace q770 := eq_true q770
         refine start_ (n := 31) (S := fun w' => w'.cell? ⟨gb745, 0, none⟩ = some (.slice A0_0 l0_0.length c0_0) ∧ w'.cell? (ad765.add ((x13_4).toNat * 2)) = some (.int .i64 ((rd_T49 t754 x13_4).f0)) ∧ w'.cell? ⟨(ad765.add ((x13_4).toNat * 2)).block, (ad765.add ((x13_4).toNat * 2)).off + 1, none⟩ = some (.int .i64 ((rd_T49 t754 x13_4).f1)) ∧ w'.cell? (ad765.add ((x13_4).toNat * 2)) = some (.int .i64 ((rd_T49 t754 x13_4).f0)) ∧ w'.cell? ⟨(ad765.add ((x13_4).toNat * 2)).block, (ad765.add ((x13_4).toNat * 2)).off + 1, none⟩ = some (.int .i64 ((rd_T49 t754 x13_4).f1)) ∧ w'.cell? (ad765.add ((x13_4).toNat * 2)) = some (.int .i64 ((rd_T49 t754 x13_4).f0)) ∧ w'.cell? ⟨(ad765.add ((x13_4).toNat * 2)).block, (ad765.add ((x13_4).toNat * 2)).off + 1, none⟩ = some (.int .i64 ((rd_T49 t754 x13_4).f1)) ∧ w'.cell? (ad765.add ((x13_4).toNat * 2)) = some (.int .i64 ((rd_T49 t754 x13_4).f0)) ∧ w'.cell? ⟨(ad765.add ((x13_4).toNat * 2)).block, (ad765.add ((x13_4).toNat * 2)).off + 1, none⟩ = some (.int .i64 ((rd_T49 t754 x13_4).f1))) (ds := []) #[false, false, false, false, false, false, false, false, false, false, false, false, false, false, false, false, false, false, false, false, false, false, false, false, false, false, false, false, false, false, false] (by kernel_rfl) rfl rfl ⟨(blk_cell BK745.out 0).trans rfl, hx765_0, hx765_1, hx767_0, hx767_1, hx769_0, hx769_1, hx770_0, hx770_1⟩ (fun hHeld => ?_); refine with_tabW mizmazelaw03_ResetClosed.tab15 mizmazelaw03_ResetClosed.bits15 (fun HT_ HW_ => ?_)
         generalize wr.drew = w76 at HO_9 HO_11 BK745 HB hx765_0 hx765_1 hx767_0 hx767_1 hx769_0 hx769_1 hx770_0 hx770_1 hHeld ⊢
         refine pv_ 1 84 lrc0 HT_ ?_
         refine pv_ 2 85 lrc1 HT_ ?_
         refine pv_ 3 86 lrc2 HT_ ?_
         refine pv_ 4 87 lrc3 HT_ ?_
         refine take_ (i := 0) (N := some 83) (v := ?_) (a' := ?_) lrc4 rfl rfl (take_ofW HT_.out HW_.out (by kernel_rfl)) (fun _ _ _ h => h) (Or.inl ⟨by rfl, ?_⟩) hHeld ?_ ?_
         rotate_left
         ·rintro w' ⟨s0, s1, s2, s3, s4, s5, s6, s7, s8⟩
          go_simp
          with_reducible rfl
         rotate_left
         ·simp only [Act.put, List.setIfInBounds_toArray, List.set_cons_zero, List.set_cons_succ, i64_w, i32_w]
          rfl
         refine take_ (i := 5) (N := some 88) (v := ?_) (a' := ?_) lrc5 rfl rfl (take_ofW HT_.out HW_.out (by kernel_rfl)) (fun _ _ _ h => h) (Or.inl ⟨by rfl, ?_⟩) hHeld ?_ ?_
         rotate_left
         ·rintro w' ⟨s0, s1, s2, s3, s4, s5, s6, s7, s8⟩
          go_simp
          with_reducible rfl
         rotate_left
         ·simp only [Act.put, List.setIfInBounds_toArray, List.set_cons_zero, List.set_cons_succ, i64_w, i32_w]
          rfl
         refine one_ (i := 6) (N := some 89) lrc6 rfl rfl (one_of HT_.out (by kernel_rfl)) (by decide) (fun K hK => ?_)
         refine goes_ Try.func40 (by kernel_rfl) rfl #[.agg #[.slice A0_0 l0_0.length c0_0], .int .i64 ((rd_T49 t754 x13_4).f0)] (by rfl) rfl rfl (by (try simp only [List.map_toArray, List.map_cons, List.map_nil]); first | done | rfl | (simp only [List.length_drop, List.length_take]; rfl)) ?_
         with_reducible refine (mizmazeref01_State.calls _ _ l0_0 ((rd_T49 t754 x13_4).f0) true _ ?side1 ?side2 A58.out).mono ?_
         (case side1 => repeat (first | exact (Kd.C_below HR0_0.out HB.out) | (with_reducible refine Kd.C_alloc ?_ _) | (with_reducible refine Kd.C_drewN ?_ _) | (with_reducible refine Kd.C_drew ?_)))
         (case side2 => exact HC0_0.out)
         rintro e w77 ⟨rfl, hb⟩
         have HS1_ := (hb.cell (World.block_lt_of_cell? _ _ (hHeld.2.1))).trans (hHeld.2.1)
         have HS2_ := (hb.cell (World.block_lt_of_cell? _ _ (hHeld.2.2.1))).trans (hHeld.2.2.1)
         have HS3_ := (hb.cell (World.block_lt_of_cell? _ _ (hHeld.2.2.2.1))).trans (hHeld.2.2.2.1)
         have HS4_ := (hb.cell (World.block_lt_of_cell? _ _ (hHeld.2.2.2.2.1))).trans (hHeld.2.2.2.2.1)
         have HS5_ := (hb.cell (World.block_lt_of_cell? _ _ (hHeld.2.2.2.2.2.1))).trans (hHeld.2.2.2.2.2.1)
         have HS6_ := (hb.cell (World.block_lt_of_cell? _ _ (hHeld.2.2.2.2.2.2.1))).trans (hHeld.2.2.2.2.2.2.1)
         have HS7_ := (hb.cell (World.block_lt_of_cell? _ _ (hHeld.2.2.2.2.2.2.2.1))).trans (hHeld.2.2.2.2.2.2.2.1)
         have HS8_ := (hb.cell (World.block_lt_of_cell? _ _ (hHeld.2.2.2.2.2.2.2.2))).trans (hHeld.2.2.2.2.2.2.2.2)
         refine ⟨_, rfl, ?_⟩
         have n0_ := Aside0.mk (Kd.R_below (by (with_reducible repeat (first | apply Kd.R_alloc | apply Kd.R_drewN | apply Kd.R_drew)); exact HO_9.out) hb)
         have n1_ := Aside0.mk (Kd.S_below (by (with_reducible repeat (first | apply Kd.S_alloc | apply Kd.S_drewN | apply Kd.S_drew)); exact HO_11.out) hb)
         have n2_ := Aside0.mk (blk_below (g := gb745) (o := .cells #[.slice A0_0 l0_0.length c0_0] 24 (0, 0)) (by (with_reducible repeat (first | refine blk_drewN ?_ _ | refine blk_drew ?_ | refine blk_alloc ?_ _)); exact BK745.out) hb)
         have n3_ := Aside0.mk (below_step (by repeat (first | (with_reducible first | exact HB.out | apply below_alloc | apply pw_below_drewN | apply below_drew1 | refine below_set ?_ GE745.out) | exact HB.out)) hb)
         clear HO_9
         clear HO_11
         clear BK745
         clear HB
         have HO_9 := n0_
         have HO_11 := n1_
         have BK745 := n2_
         have HB := n3_
         clear n0_ n1_ n2_ n3_
         (try clear hb)
         (try clear hb2)
         (try clear hk)
         (try clear hi)
         refine hK.out _ _ ⟨(blk_cell BK745.out 0).trans rfl, HS1_, HS2_, HS3_, HS4_, HS5_, HS6_, HS7_, HS8_⟩ (fun hHeld => ?_)
         clear hK K
         refine norm_ (a' := ?_) ?_ ?_
         rotate_left
         ·show Act.put _ (some 89) _ = _
          simp only [Act.put, List.setIfInBounds_toArray, List.set_cons_zero, List.set_cons_succ, i64_w, i32_w]
          rfl
         refine pv_ 7 90 lrc7 HT_ ?_
         refine pv_ 8 91 lrc8 HT_ ?_
         refine pv_ 10 93 lrc9 HT_ ?_
         refine pv_ 11 94 lrc10 HT_ ?_
         refine pv_ 12 95 lrc11 HT_ ?_
         refine pv_ 13 96 lrc12 HT_ ?_
         refine take_ (i := 9) (N := some 92) (v := ?_) (a' := ?_) lrc13 rfl rfl (take_ofW HT_.out HW_.out (by kernel_rfl)) (fun _ _ _ h => h) (Or.inl ⟨by rfl, ?_⟩) hHeld ?_ ?_
         rotate_left
         ·rintro w' ⟨s0, s1, s2, s3, s4, s5, s6, s7, s8⟩
          go_simp
          with_reducible rfl
         rotate_left
         ·simp only [Act.put, List.setIfInBounds_toArray, List.set_cons_zero, List.set_cons_succ, i64_w, i32_w]
          rfl
         refine take_ (i := 14) (N := some 97) (v := ?_) (a' := ?_) lrc14 rfl rfl (take_ofW HT_.out HW_.out (by kernel_rfl)) (fun _ _ _ h => h) (Or.inl ⟨by rfl, ?_⟩) hHeld ?_ ?_
         rotate_left
         ·rintro w' ⟨s0, s1, s2, s3, s4, s5, s6, s7, s8⟩
          go_simp
          with_reducible rfl
         rotate_left
         ·simp only [Act.put, List.setIfInBounds_toArray, List.set_cons_zero, List.set_cons_succ, i64_w, i32_w]
          rfl
         refine one_ (i := 15) (N := some 98) lrc15 rfl rfl (one_of HT_.out (by kernel_rfl)) (by decide) (fun K hK => ?_)
         refine goes_ Try.func40 (by kernel_rfl) rfl #[.agg #[.slice A0_0 l0_0.length c0_0], .int .i64 ((rd_T49 t754 x13_4).f1)] (by rfl) rfl rfl (by (try simp only [List.map_toArray, List.map_cons, List.map_nil]); first | done | rfl | (simp only [List.length_drop, List.length_take]; rfl)) ?_
         with_reducible refine (mizmazeref01_State.calls _ _ l0_0 ((rd_T49 t754 x13_4).f1) true _ ?side1 ?side2 A60.out).mono ?_
         (case side1 => repeat (first | exact (Kd.C_below HR0_0.out HB.out) | (with_reducible refine Kd.C_alloc ?_ _) | (with_reducible refine Kd.C_drewN ?_ _) | (with_reducible refine Kd.C_drew ?_)))
         (case side2 => exact HC0_0.out)
         rintro e w78 ⟨rfl, hb⟩
         have HS1_ := (hb.cell (World.block_lt_of_cell? _ _ (hHeld.2.1))).trans (hHeld.2.1)
         have HS2_ := (hb.cell (World.block_lt_of_cell? _ _ (hHeld.2.2.1))).trans (hHeld.2.2.1)
         have HS3_ := (hb.cell (World.block_lt_of_cell? _ _ (hHeld.2.2.2.1))).trans (hHeld.2.2.2.1)
         have HS4_ := (hb.cell (World.block_lt_of_cell? _ _ (hHeld.2.2.2.2.1))).trans (hHeld.2.2.2.2.1)
         have HS5_ := (hb.cell (World.block_lt_of_cell? _ _ (hHeld.2.2.2.2.2.1))).trans (hHeld.2.2.2.2.2.1)
         have HS6_ := (hb.cell (World.block_lt_of_cell? _ _ (hHeld.2.2.2.2.2.2.1))).trans (hHeld.2.2.2.2.2.2.1)
         have HS7_ := (hb.cell (World.block_lt_of_cell? _ _ (hHeld.2.2.2.2.2.2.2.1))).trans (hHeld.2.2.2.2.2.2.2.1)
         have HS8_ := (hb.cell (World.block_lt_of_cell? _ _ (hHeld.2.2.2.2.2.2.2.2))).trans (hHeld.2.2.2.2.2.2.2.2)
         refine ⟨_, rfl, ?_⟩
         have n0_ := Aside0.mk (Kd.R_below (by (with_reducible repeat (first | apply Kd.R_alloc | apply Kd.R_drewN | apply Kd.R_drew)); exact HO_9.out) hb)
         have n1_ := Aside0.mk (Kd.S_below (by (with_reducible repeat (first | apply Kd.S_alloc | apply Kd.S_drewN | apply Kd.S_drew)); exact HO_11.out) hb)
         have n2_ := Aside0.mk (blk_below (g := gb745) (o := .cells #[.slice A0_0 l0_0.length c0_0] 24 (0, 0)) (by (with_reducible repeat (first | refine blk_drewN ?_ _ | refine blk_drew ?_ | refine blk_alloc ?_ _)); exact BK745.out) hb)
         have n3_ := Aside0.mk (below_step (by repeat (first | (with_reducible first | exact HB.out | apply below_alloc | apply pw_below_drewN | apply below_drew1 | refine below_set ?_ GE745.out) | exact HB.out)) hb)
         clear HO_9
         clear HO_11
         clear BK745
         clear HB
         have HO_9 := n0_
         have HO_11 := n1_
         have BK745 := n2_
         have HB := n3_
         clear n0_ n1_ n2_ n3_
         (try clear hb)
         (try clear hb2)
         (try clear hk)
         (try clear hi)
         refine hK.out _ _ ⟨(blk_cell BK745.out 0).trans rfl, HS1_, HS2_, HS3_, HS4_, HS5_, HS6_, HS7_, HS8_⟩ (fun hHeld => ?_)
         clear hK K
         refine norm_ (a' := ?_) ?_ ?_
         rotate_left
         ·show Act.put _ (some 98) _ = _
          simp only [Act.put, List.setIfInBounds_toArray, List.set_cons_zero, List.set_cons_succ, i64_w, i32_w]
          rfl
         refine pv_ 16 99 lrc16 HT_ ?_
         refine pv_ 17 100 lrc17 HT_ ?_
         refine pv_ 18 101 lrc18 HT_ ?_
         refine pv_ 19 102 lrc19 HT_ ?_
         refine pv_ 20 103 lrc20 HT_ ?_
         refine pv_ 21 104 lrc21 HT_ ?_
         refine pv_ 22 105 lrc22 HT_ ?_
         refine pv_ 24 107 lrc23 HT_ ?_
         refine pv_ 25 108 lrc24 HT_ ?_
         refine pv_ 26 109 lrc25 HT_ ?_
         refine pv_ 27 110 lrc26 HT_ ?_
         refine take_ (i := 23) (N := some 106) (v := ?_) (a' := ?_) lrc27 rfl rfl (take_ofW HT_.out HW_.out (by kernel_rfl)) (fun _ _ _ h => h) (Or.inl ⟨by rfl, ?_⟩) hHeld ?_ ?_
         rotate_left
         ·rintro w' ⟨s0, s1, s2, s3, s4, s5, s6, s7, s8⟩
          go_simp
          with_reducible rfl
         rotate_left
         ·simp only [Act.put, List.setIfInBounds_toArray, List.set_cons_zero, List.set_cons_succ, i64_w, i32_w]
          rfl
         refine take_ (i := 28) (N := some 111) (v := ?_) (a' := ?_) lrc28 rfl rfl (take_ofW HT_.out HW_.out (by kernel_rfl)) (fun _ _ _ h => h) (Or.inl ⟨by rfl, ?_⟩) hHeld ?_ ?_
         rotate_left
         ·rintro w' ⟨s0, s1, s2, s3, s4, s5, s6, s7, s8⟩
          go_simp
          with_reducible rfl
         rotate_left
         ·simp only [Act.put, List.setIfInBounds_toArray, List.set_cons_zero, List.set_cons_succ, i64_w, i32_w]
          rfl
         refine pv_ 29 112 lrc29 HT_ ?_
         refine pv_ 30 113 lrc30 HT_ ?_
         refine done_ (done_of HT_.out (by kernel_rfl)) ?_
         have p771 : 0 ≤ (x13_4 : Int) := of_decide_eq_true (by first | (with_reducible assumption) | assumption)
         have q771 : x13_4 < (t754.length : Int) := of_decide_eq_true (by first | (with_reducible assumption) | assumption)
         have p772 : 0 ≤ (((rd_T49 t754 x13_4).f0) : Int) := of_decide_eq_true (by first | (with_reducible assumption) | assumption)
         have q772 : ((rd_T49 t754 x13_4).f0) < (x11_4.length : Int) := of_decide_eq_true (by first | (with_reducible assumption) | assumption)
         have p71 : 0 ≤ (((rd_T49 t754 x13_4).f1) : Int) := of_decide_eq_true (by first | (with_reducible assumption) | assumption)
         have q72 : ((rd_T49 t754 x13_4).f1) < (x11_4.length : Int) := of_decide_eq_true (by first | (with_reducible assumption) | assumption)
         have q71 : (((rd_T49 t754 x13_4).f1) : Int) < ((rd_L6 x11_4 ((rd_T49 t754 x13_4).f0)).length : Int) := of_decide_eq_true (by first | (with_reducible assumption) | assumption)
         have q73 : ((rd_T49 t754 x13_4).f0) < ((rd_L6 y776 ((rd_T49 t754 x13_4).f1)).length : Int) := of_decide_eq_true (by first | (with_reducible assumption) | assumption)
         have q74 : ((rd_T49 t754 x13_4).f0) < ((rd_T49 t754 x13_4).f1) := Int.not_le.1 (of_decide_eq_false (by first | (with_reducible assumption) | assumption))
         go_wp2_with fail
         rw [Ny776.out, Ny774.out] at q73
         have HO_9d := Aside0.mk (Kd.R_drew HO_9.out)
         have HO_11d := Aside0.mk (Kd.S_drew HO_11.out)
         have BKd := Aside0.mk (blk_drew BK745.out)
         have HBd := Aside0.mk (below_drew HB.out)
         have hz_ := bgrid_two HO_11d.out ((rd_T49 t754 x13_4).f0) ((rd_T49 t754 x13_4).f1) p772 q772 p71 q72 q71 q74 q73
         clear HO_9 HO_11 BK745 HB
         obtain ⟨adg, g1, g2, m2, cg1, cg2, W1, W2, eg, hm2, ha0, hb0, ha1, hb1, hst1, hst2, hSg, kk1, kk2, hk1, hk2, hgr1, hgr2, hty1, hty2⟩ := hz_
         cases eg
         have HSg := Aside0.mk hSg
         rw [← Ny774.out, ← Ny776.out] at HSg
         rw [← Ny780.out, ← Ny782.out] at HSg
         have HGR1 := Aside0.mk hgr1
         have HGR2 := Aside0.mk hgr2
         have HTY1 := Aside0.mk hty1
         have HTY2 := Aside0.mk hty2
         have HST1 := Aside0.mk hst1
         have HST2 := Aside0.mk hst2
         clear hSg hgr1 hgr2 hty1 hty2 hst1 hst2
         have n0_ := Aside0.mk (Kd.R_over' (v := .slice (some ⟨kk1, 0, none⟩) 0 0) HO_9d.out (fun k_ hk => by obtain rfl : kk1 = k_ := Option.some.inj hk; exact HTY1.out) (by decide) HGR1.out)
         have HO_9 := Aside0.mk (Kd.R_over' (v := .slice (some ⟨kk2, 0, none⟩) 0 0) n0_.out (fun k_ hk => by obtain rfl : kk2 = k_ := Option.some.inj hk; exact HTY2.out) (by decide) HGR2.out)
         have BKne1 : gb745 ≠ kk1 := by
          intro e_; have h_ := HTY1.out; rw [← e_, BKd.out] at h_; obtain ⟨cells, h_⟩ := h_; have h2_ := Option.some.inj h_; injection h2_ with _ ht; exact absurd ht (by decide)
         have BK1 := Aside0.mk (blk_grown BKd.out HGR1.out (fun e_ => BKne1 (Option.some.inj e_)))
         have BKne2 : gb745 ≠ kk2 := by
          intro e_; have h_ := HTY2.out; rw [← e_, BK1.out] at h_; obtain ⟨cells, h_⟩ := h_; have h2_ := Option.some.inj h_; injection h2_ with _ ht; exact absurd ht (by decide)
         have BK745 := Aside0.mk (blk_grown BK1.out HGR2.out (fun e_ => BKne2 (Option.some.inj e_)))
         have HB := Aside0.mk (below_grown (below_grown HBd.out HGR1.out hk1) HGR2.out hk2)
         clear hk1 hk2 BKne1 BKne2 BK1
         obtain ⟨ad771, e771, hx771_0, hx771_1⟩ := at_T49 (Kd.R_reads' HO_9d.out).2.2 x13_4 p771 q771
         obtain ⟨ad772, e772, hx772_0, hx772_1⟩ := at_T49 (Kd.R_reads' n0_.out).2.2 x13_4 p771 q771
         obtain rfl := (Option.some.inj e771 : ad765 = ad771)
         obtain rfl := (Option.some.inj e772 : ad765 = ad772)
         clear e771 e772
         clear HO_9d HO_11d BKd HBd HGR1 HGR2 HTY1 HTY2 n0_
         have HX1_ := Aside0.mk (show (fun w' : World => w'.cell? (ad765.add (x13_4.toNat * 2)) = some (.int .i64 ((rd_T49 t754 x13_4).f0)) ∧ w'.cell? ⟨(ad765.add (x13_4.toNat * 2)).block, (ad765.add (x13_4.toNat * 2)).off + 1, none⟩ = some (.int .i64 ((rd_T49 t754 x13_4).f1)) ∧ w'.cell? (adg.add (((rd_T49 t754 x13_4).f0) : Int).toNat) = some (.slice (some g1) (rd_L6 x11_4 ((rd_T49 t754 x13_4).f0)).length cg1) ∧ w'.cell? (adg.add (((rd_T49 t754 x13_4).f1) : Int).toNat) = some (.slice (some g2) m2 cg2)) W1 from ⟨hx772_0, hx772_1, ha1, hb1⟩)
         have hS_ := (show (fun w' : World => w'.cell? (ad765.add (x13_4.toNat * 2)) = some (.int .i64 ((rd_T49 t754 x13_4).f0)) ∧ w'.cell? ⟨(ad765.add (x13_4.toNat * 2)).block, (ad765.add (x13_4.toNat * 2)).off + 1, none⟩ = some (.int .i64 ((rd_T49 t754 x13_4).f1)) ∧ w'.cell? (adg.add (((rd_T49 t754 x13_4).f0) : Int).toNat) = some (.slice (some g1) (rd_L6 x11_4 ((rd_T49 t754 x13_4).f0)).length cg1) ∧ w'.cell? (adg.add (((rd_T49 t754 x13_4).f1) : Int).toNat) = some (.slice (some g2) m2 cg2)) w78.drew from ⟨hx771_0, hx771_1, ha0, hb0⟩)
         clear hx771_0 hx771_1 hx772_0 hx772_1 ha0 ha1 hb0 hb1
         replace p771 := eq_true p771
         replace q771 := eq_true q771
         replace p772 := eq_true p772
         replace q772 := eq_true q772
         replace p71 := eq_true p71
         replace q72 := eq_true q72
         replace q71 := eq_true q71
         replace hm2 := eq_true hm2
         refine start_ (n := 30) (S := fun w' => w'.cell? (ad765.add (x13_4.toNat * 2)) = some (.int .i64 ((rd_T49 t754 x13_4).f0)) ∧ w'.cell? ⟨(ad765.add (x13_4.toNat * 2)).block, (ad765.add (x13_4.toNat * 2)).off + 1, none⟩ = some (.int .i64 ((rd_T49 t754 x13_4).f1)) ∧ w'.cell? (adg.add (((rd_T49 t754 x13_4).f0) : Int).toNat) = some (.slice (some g1) (rd_L6 x11_4 ((rd_T49 t754 x13_4).f0)).length cg1) ∧ w'.cell? (adg.add (((rd_T49 t754 x13_4).f1) : Int).toNat) = some (.slice (some g2) m2 cg2)) (ds := [29]) #[false, false, false, false, false, false, false, false, false, false, false, false, false, false, false, false, false, false, false, false, false, false, false, false, false, false, false, false, false, false] (by kernel_rfl) rfl rfl hS_ (fun hHeld => ?_); refine with_tabW mizmazelaw03_ResetClosed.tab17 mizmazelaw03_ResetClosed.bits17 (fun HT_ HW_ => ?_)
         clear hS_
         generalize w78.drew = wd78 at HST1 hHeld ⊢
         refine pv_ 0 114 lrc31 HT_ ?_
         refine pv_ 1 115 lrc32 HT_ ?_
         refine pv_ 2 116 lrc33 HT_ ?_
         refine pv_ 3 117 lrc34 HT_ ?_
         refine pv_ 4 118 lrc35 HT_ ?_
         refine pv_ 8 122 lrc36 HT_ ?_
         refine pv_ 9 123 lrc37 HT_ ?_
         refine pv_ 10 124 lrc38 HT_ ?_
         refine pv_ 11 125 lrc39 HT_ ?_
         refine pv_ 13 127 lrc40 HT_ ?_
         refine pv_ 14 128 lrc41 HT_ ?_
         refine pv_ 15 129 lrc42 HT_ ?_
         refine pv_ 16 130 lrc43 HT_ ?_
         refine pv_ 17 131 lrc44 HT_ ?_
         refine pv_ 21 135 lrc45 HT_ ?_
         refine pv_ 22 136 lrc46 HT_ ?_
         refine pv_ 23 137 lrc47 HT_ ?_
         refine pv_ 24 138 lrc48 HT_ ?_
         refine take_ (i := 5) (N := some 119) (v := ?_) (a' := ?_) lrc49 rfl rfl (take_ofW HT_.out HW_.out (by kernel_rfl)) (fun _ _ _ h => h) (Or.inl ⟨by rfl, ?_⟩) hHeld ?_ ?_
         rotate_left
         ·intro w' s0
          go_simp
          (try with_reducible rfl)
         rotate_left
         ·simp only [Act.put, List.setIfInBounds_toArray, List.set_cons_zero, List.set_cons_succ, i64_w, i32_w]
          rfl
         refine pv_ 6 120 lrc50 HT_ ?_
         refine take_ (i := 7) (N := some 121) (v := ?_) (a' := ?_) lrc51 rfl rfl (take_ofW HT_.out HW_.out (by kernel_rfl)) (fun _ _ _ h => h) (Or.inl ⟨by rfl, ?_⟩) hHeld ?_ ?_
         rotate_left
         ·intro w' s0
          go_simp
          (try with_reducible rfl)
         rotate_left
         ·simp only [Act.put, List.setIfInBounds_toArray, List.set_cons_zero, List.set_cons_succ, i64_w, i32_w]
          rfl
         refine take_ (i := 12) (N := some 126) (v := ?_) (a' := ?_) lrc52 rfl rfl (take_ofW HT_.out HW_.out (by kernel_rfl)) (fun _ _ _ h => h) (Or.inl ⟨by rfl, ?_⟩) hHeld ?_ ?_
         rotate_left
         ·intro w' s0
          go_simp
          (try with_reducible rfl)
         rotate_left
         ·simp only [Act.put, List.setIfInBounds_toArray, List.set_cons_zero, List.set_cons_succ, i64_w, i32_w]
          rfl
         refine take_ (i := 18) (N := some 132) (v := ?_) (a' := ?_) lrc53 rfl rfl (take_ofW HT_.out HW_.out (by kernel_rfl)) (fun _ _ _ h => h) (Or.inl ⟨by rfl, ?_⟩) hHeld ?_ ?_
         rotate_left
         ·intro w' s0
          go_simp
          (try with_reducible rfl)
         rotate_left
         ·simp only [Act.put, List.setIfInBounds_toArray, List.set_cons_zero, List.set_cons_succ, i64_w, i32_w]
          rfl
         refine pv_ 19 133 lrc54 HT_ ?_
         refine take_ (i := 20) (N := some 134) (v := ?_) (a' := ?_) lrc55 rfl rfl (take_ofW HT_.out HW_.out (by kernel_rfl)) (fun _ _ _ h => h) (Or.inl ⟨by rfl, ?_⟩) hHeld ?_ ?_
         rotate_left
         ·intro w' s0
          go_simp
          (try with_reducible rfl)
         rotate_left
         ·simp only [Act.put, List.setIfInBounds_toArray, List.set_cons_zero, List.set_cons_succ, i64_w, i32_w]
          rfl
         refine take_ (i := 25) (N := some 139) (v := ?_) (a' := ?_) lrc56 rfl rfl (take_ofW HT_.out HW_.out (by kernel_rfl)) (fun _ _ _ h => h) (Or.inl ⟨by rfl, ?_⟩) hHeld ?_ ?_
         rotate_left
         ·intro w' s0
          go_simp
          (try with_reducible rfl)
         rotate_left
         ·simp only [Act.put, List.setIfInBounds_toArray, List.set_cons_zero, List.set_cons_succ, i64_w, i32_w]
          rfl
         refine pv_ 26 140 lrc57 HT_ ?_
         refine one_ (i := 27) (N := none) lrc58 rfl rfl (one_of HT_.out (by kernel_rfl)) (by decide) (fun K hK => ?_)
         have hst := HST1.out
         refine skip_ (w1 := W1) (by rfl) rfl (run_store_op (by rfl) (by rfl) (by rfl) hst) ?_
         clear hst HST1 hHeld
         refine hK.out _ _ HX1_.out (fun hHeld => ?_)
         clear hK K
         refine pv_ 28 141 lrc59 HT_ ?_
         refine last_ (i := 29) (N := none) lrc60 rfl rfl (one_of HT_.out (by kernel_rfl)) (by decide) (fun K hK => ?_)
         have hst := HST2.out
         refine skip_ (w1 := W2) (by rfl) rfl (run_store_op (by rfl) (by rfl) (by rfl) hst) ?_
         clear hst HST2 hHeld HX1_
         refine hK.out _ _ ?_
         clear hK K
         refine done_ (done_of HT_.out (by kernel_rfl)) ?_
         clear HT_ HW_
         have HO_11 := HSg
         clear HSg
         go_wp2_with fail

         (try simp only [← hl11_4])
         go_roundg k4
         case measure => have := HJ3.out; have := HJ27.out; have := HK3.out; have := HK4.out; omega
         case rel => exact ⟨_, (wrap64 (x13_4 + 1)), (by first | rfl | (simp; done) | (simp [*]; done)), H', ⟨by have := HJ3.out; have := HJ27.out; have := HK3.out; have := HK4.out; omega⟩, ⟨by (try simp only [hl11_4]); (with_reducible repeat (first | apply Kd.R_alloc | apply Kd.R_drewN | apply Kd.R_drew)); exact HO_9.out⟩, ⟨by (try simp only [hl11_4]); (with_reducible repeat (first | apply Kd.S_alloc | apply Kd.S_drewN | apply Kd.S_drew)); exact HO_11.out⟩, ⟨by (try simp only [hl11_4]); (with_reducible repeat (first | refine blk_drewN ?_ _ | refine blk_drew ?_ | refine blk_alloc ?_ _)); exact BK745.out⟩, ⟨by repeat (first | (with_reducible first | exact HB.out | apply below_alloc | apply pw_below_drewN | apply below_drew1 | refine below_set ?_ GE745.out) | exact HB.out)⟩⟩
end Go.Proofs.Ytogoppejcmaocaa.Q
end
