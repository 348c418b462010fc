/- The law TopHome holds: any automaton has a reset word of at most (n^3 - n) / 6 letters that is found, and with whatever letters before it and after it it leads all states to one, or there are pairs of states that are found and that no word merges; no bound on the arguments beyond their types'. (text 24 of 26) -/
import Derived.Test.YtogoppejcmaocaaZTopHomef
import Derived.Test.YtogoppejcmaocaaZTopHomer
import Derived.Test.YtogoppejcmaocaaZTopHomew
/-! Part QTopTopHome -/
section
-- Written by xprint.py, a program of this session's, over the kit's print. Lean checks it.
namespace Go.Proofs.Ytogoppejcmaocaa.Q
open Go.RowKit Go.Proofs.YtogoppejcmaocaaW.PrintWords Go.Proofs.YtogoppejcmaocaaW.PrintLast Go.Proofs.YtogoppejcmaocaaW.PrintMore
attribute [local go_sem] max2_int min2_int max_two min_two max_three min_three max_four min_four
set_option linter.unusedVariables false
set_option linter.unusedSimpArgs false

/-! ### mizmazetop_TopHome: function 7 -/
mutual
def mizmazetop_TopHome.j0 : Nat → List Int → List Int → List Int → Int → List (S49) → Int → Bool → List (List Int) → Option (Bool)
  | 0, _, _, _, _, _, _, _, _ => none
  | k + 1, x1, x2, x7, x8, x9, x11, x63, x913000 => if x63 = true then (some false) else (if x8 = 0 then ((mizmazetop_right.f k x913000 x7).bind fun t929 => (if t929 = true then (if (wrap64 (6 * (x7.length : Int))) ≤ (wrap64 ((wrap64 ((wrap64 (x11 * x11)) * x11)) - x11)) then ((mizmazetop_spread.f k x913000 x7).bind fun t930 => (if t930 = 1 then ((mizmazetop_joined.f k (([x1, x7, x2] : List (List Int)))).bind fun t934 => ((mizmazetop_spread.f k x913000 t934).bind fun t937 => (if t937 = 1 then ((mizmazetop_homes.f k).bind fun t938 => (some t938)) else (some false)))) else (some false))) else (some false)) else (some false))) else (mizmazetop_TopHome.l0 k x1 x2 x9 x11 0 x913000))
def mizmazetop_TopHome.l0 : Nat → List Int → List Int → List (S49) → Int → Int → List (List Int) → Option (Bool)
  | 0, _, _, _, _, _, _ => none
  | k + 1, x1, x2, x9, x11, x12, x913000 => if x12 < (x9.length : Int) then (if 0 ≤ x12 then (if ((rd_T49 x9 x12).f0) < 0 then (some false) else (if ((rd_T49 x9 x12).f1) ≥ x11 then (some false) else (if ((rd_T49 x9 x12).f0) ≥ ((rd_T49 x9 x12).f1) then (some false) else ((mizmazetop_lead.f k x913000 ((rd_T49 x9 x12).f0) x1).bind fun t942 => ((mizmazetop_lead.f k x913000 ((rd_T49 x9 x12).f1) x1).bind fun t943 => (if t942 = t943 then (some false) else ((mizmazetop_joined.f k (([x1, x2] : List (List Int)))).bind fun t947 => ((mizmazetop_lead.f k x913000 ((rd_T49 x9 x12).f0) t947).bind fun t950 => ((mizmazetop_joined.f k (([x1, x2] : List (List Int)))).bind fun t954 => ((mizmazetop_lead.f k x913000 ((rd_T49 x9 x12).f1) t954).bind fun t957 => (if t950 = t957 then (some false) else (mizmazetop_TopHome.l0 k x1 x2 x9 x11 (wrap64 (x12 + 1)) x913000)))))))))))) else (none)) else ((mizmazetop_homes.f k).bind fun t939 => (some t939))
end
def mizmazetop_TopHome.f (k : Nat) (l0_0 : List (List Int)) (l1 : List Int) (l2 : List Int) : Option (Bool) := (reset_Reset.f k l0_0).bind fun bt913 => ((reset_Apart.f k l0_0).bind fun bt917 => ((mizmazetop_valid.f k l0_0).bind fun t921 => (if t921 = true then ((mizmazetop_proper.f k l0_0 l1).bind fun t923 => ((mizmazetop_proper.f k l0_0 l2).bind fun t926 => (if bt917.2 = 0 then (if ((bt913.2 == 0) != ((bt917.1.length : Int) == 0)) = true then (mizmazetop_TopHome.j0 k t923 t926 bt913.1 bt913.2 bt917.1 (l0_0.length : Int) true l0_0) else (if bt913.2 = 0 then (mizmazetop_TopHome.j0 k t923 t926 bt913.1 bt913.2 bt917.1 (l0_0.length : Int) false l0_0) else (mizmazetop_TopHome.j0 k t923 t926 bt913.1 bt913.2 bt917.1 (l0_0.length : Int) (bt913.2 != 4) l0_0))) else (mizmazetop_TopHome.j0 k t923 t926 bt913.1 bt913.2 bt917.1 (l0_0.length : Int) true l0_0)))) else (if bt913.2 = 1 then (if bt917.2 = 1 then ((mizmazetop_homes.f k).bind fun t922 => (some t922)) else (some false)) else (some false)))))
theorem mizmazetop_TopHome.mono_l : ∀ k, (∀ y0 y1 y2 y3 y4 y5 y6 y7, LeO (mizmazetop_TopHome.j0 k y0 y1 y2 y3 y4 y5 y6 y7) (mizmazetop_TopHome.j0 (k + 1) y0 y1 y2 y3 y4 y5 y6 y7)) ∧ (∀ y0 y1 y2 y3 y4 y5, LeO (mizmazetop_TopHome.l0 k y0 y1 y2 y3 y4 y5) (mizmazetop_TopHome.l0 (k + 1) y0 y1 y2 y3 y4 y5))
  | 0 => ⟨fun _ _ _ _ _ _ _ _ r h => by simp [mizmazetop_TopHome.j0] at h, fun _ _ _ _ _ _ r h => by simp [mizmazetop_TopHome.l0] at h⟩
  | k + 1 => by
    obtain ⟨ih0, ih1⟩ := mizmazetop_TopHome.mono_l k
    refine ⟨?_, ?_⟩
    · intro y0 y1 y2 y3 y4 y5 y6 y7
      unfold mizmazetop_TopHome.j0
      repeat' first
      | (with_reducible exact ih0 _ _ _ _ _ _ _ _)
      | (with_reducible exact ih1 _ _ _ _ _ _)
      | (with_reducible exact mizmazetop_homes.mono _)
      | (with_reducible exact mizmazetop_joined.mono _ _)
      | (with_reducible exact mizmazetop_lead.mono _ _ _ _)
      | (with_reducible exact mizmazetop_proper.mono _ _ _)
      | (with_reducible exact mizmazetop_right.mono _ _ _)
      | (with_reducible exact mizmazetop_spread.mono _ _ _)
      | (with_reducible exact mizmazetop_valid.mono _ _)
      | (with_reducible exact reset_Apart.mono _ _)
      | (with_reducible exact reset_Reset.mono _ _)
      | (with_reducible exact LeO.refl _)
      | (with_reducible exact LeO.none _)
      | (with_reducible refine LeO.ite ?_ ?_)
      | (with_reducible refine LeO.bind ?_ (fun _ => ?_))
      | exact ih0 _ _ _ _ _ _ _ _
      | exact ih1 _ _ _ _ _ _
      | exact mizmazetop_homes.mono _
      | exact mizmazetop_joined.mono _ _
      | exact mizmazetop_lead.mono _ _ _ _
      | exact mizmazetop_proper.mono _ _ _
      | exact mizmazetop_right.mono _ _ _
      | exact mizmazetop_spread.mono _ _ _
      | exact mizmazetop_valid.mono _ _
      | exact reset_Apart.mono _ _
      | exact reset_Reset.mono _ _
      | exact LeO.none _
      | refine LeO.ite ?_ ?_
      | refine LeO.bind ?_ (fun _ => ?_)
    · intro y0 y1 y2 y3 y4 y5
      unfold mizmazetop_TopHome.l0
      repeat' first
      | (with_reducible exact ih0 _ _ _ _ _ _ _ _)
      | (with_reducible exact ih1 _ _ _ _ _ _)
      | (with_reducible exact mizmazetop_homes.mono _)
      | (with_reducible exact mizmazetop_joined.mono _ _)
      | (with_reducible exact mizmazetop_lead.mono _ _ _ _)
      | (with_reducible exact mizmazetop_proper.mono _ _ _)
      | (with_reducible exact mizmazetop_right.mono _ _ _)
      | (with_reducible exact mizmazetop_spread.mono _ _ _)
      | (with_reducible exact mizmazetop_valid.mono _ _)
      | (with_reducible exact reset_Apart.mono _ _)
      | (with_reducible exact reset_Reset.mono _ _)
      | (with_reducible exact LeO.refl _)
      | (with_reducible exact LeO.none _)
      | (with_reducible refine LeO.ite ?_ ?_)
      | (with_reducible refine LeO.bind ?_ (fun _ => ?_))
      | exact ih0 _ _ _ _ _ _ _ _
      | exact ih1 _ _ _ _ _ _
      | exact mizmazetop_homes.mono _
      | exact mizmazetop_joined.mono _ _
      | exact mizmazetop_lead.mono _ _ _ _
      | exact mizmazetop_proper.mono _ _ _
      | exact mizmazetop_right.mono _ _ _
      | exact mizmazetop_spread.mono _ _ _
      | exact mizmazetop_valid.mono _ _
      | exact reset_Apart.mono _ _
      | exact reset_Reset.mono _ _
      | exact LeO.none _
      | refine LeO.ite ?_ ?_
      | refine LeO.bind ?_ (fun _ => ?_)
theorem mizmazetop_TopHome.mono : ∀ a0 a1 a2 k, LeO (mizmazetop_TopHome.f k a0 a1 a2) (mizmazetop_TopHome.f (k + 1) a0 a1 a2) := by
  intro a0 a1 a2 k
  obtain ⟨ih0, ih1⟩ := mizmazetop_TopHome.mono_l k
  unfold mizmazetop_TopHome.f
  repeat' first
      | (with_reducible exact ih0 _ _ _ _ _ _ _ _)
      | (with_reducible exact ih1 _ _ _ _ _ _)
      | (with_reducible exact mizmazetop_homes.mono _)
      | (with_reducible exact mizmazetop_joined.mono _ _)
      | (with_reducible exact mizmazetop_lead.mono _ _ _ _)
      | (with_reducible exact mizmazetop_proper.mono _ _ _)
      | (with_reducible exact mizmazetop_right.mono _ _ _)
      | (with_reducible exact mizmazetop_spread.mono _ _ _)
      | (with_reducible exact mizmazetop_valid.mono _ _)
      | (with_reducible exact reset_Apart.mono _ _)
      | (with_reducible exact reset_Reset.mono _ _)
      | (with_reducible exact LeO.refl _)
      | (with_reducible exact LeO.none _)
      | (with_reducible refine LeO.ite ?_ ?_)
      | (with_reducible refine LeO.bind ?_ (fun _ => ?_))
      | exact ih0 _ _ _ _ _ _ _ _
      | exact ih1 _ _ _ _ _ _
      | exact mizmazetop_homes.mono _
      | exact mizmazetop_joined.mono _ _
      | exact mizmazetop_lead.mono _ _ _ _
      | exact mizmazetop_proper.mono _ _ _
      | exact mizmazetop_right.mono _ _ _
      | exact mizmazetop_spread.mono _ _ _
      | exact mizmazetop_valid.mono _ _
      | exact reset_Apart.mono _ _
      | exact reset_Reset.mono _ _
      | exact LeO.none _
      | refine LeO.ite ?_ ?_
      | refine LeO.bind ?_ (fun _ => ?_)
def mizmazetop_TopHome.T6 : Bool × List (List Nat × List Nat) := (true, [([], []), ([], []), ([0, 1], [0, 1]), ([], []), ([], []), ([3, 4, 2], [3, 4]), ([2, 5, 0, 1, 2], [1, 2]), ([5, 6, 0, 1, 2, 3, 4, 5, 6], [4, 5])])
def mizmazetop_TopHome.B6 : List Nat := [0, 0, 3, 0, 0, 31, 63, 127]
theorem mizmazetop_TopHome.tab6 : rtab .any (opsOf Try.f7 6) = mizmazetop_TopHome.T6 := by kernel_rfl
theorem mizmazetop_TopHome.bits6 : waitsOk mizmazetop_TopHome.T6.2 mizmazetop_TopHome.B6 = true := by kernel_rfl
def mizmazetop_TopHome.T10 : Bool × List (List Nat × List Nat) := (true, [([], []), ([], []), ([0, 1], [0, 1]), ([2, 2], [2]), ([3], [3]), ([4, 3], [3, 4]), ([5, 3], [3, 5]), ([3], [3]), ([3], [3]), ([7, 8, 3], [3, 7, 8]), ([3], [3]), ([9, 10, 3], [3, 9, 10]), ([3], [3]), ([11, 12, 3], [3, 11, 12]), ([6, 13, 3], [3, 6, 13]), ([3, 14], [3, 14]), ([15, 3], [15]), ([16], [16]), ([16], [16]), ([17, 18, 16, 16], [16, 17, 18]), ([19, 16], [16, 19]), ([16, 20], [16, 20]), ([21, 19], [21]), ([22], [22]), ([22], [22]), ([22], [22]), ([22], [22]), ([24, 25, 26, 22], [22, 24, 25, 26]), ([27, 22, 22], [22, 27]), ([23, 28, 28, 22], [22, 23, 28]), ([29, 22], [22, 29]), ([22, 30], [22, 30]), ([31, 29], [31]), ([32, 32], [32]), ([32, 33], [32, 33]), ([34, 33, 0, 1, 2, 3, 4, 5, 6, 7, 8, 9, 10, 11, 12, 13, 14, 15, 16, 17, 18, 19, 20, 21, 22, 23, 24, 25, 26, 27, 28, 29, 30, 31, 32, 33, 34], [34])])
def mizmazetop_TopHome.B10 : List Nat := [0, 0, 3, 7, 15, 31, 63, 15, 15, 399, 15, 1935, 15, 8079, 16383, 32767, 65535, 131071, 131071, 524287, 1048575, 2097151, 4194303, 8388607, 8388607, 8388607, 8388607, 125829119, 260046847, 536870911, 1073741823, 2147483647, 4294967295, 8589934591, 17179869183, 34359738367]
theorem mizmazetop_TopHome.tab10 : rtab .any (opsOf Try.f7 10) = mizmazetop_TopHome.T10 := by kernel_rfl
theorem mizmazetop_TopHome.bits10 : waitsOk mizmazetop_TopHome.T10.2 mizmazetop_TopHome.B10 = true := by kernel_rfl
def mizmazetop_TopHome.T14 : Bool × List (List Nat × List Nat) := (true, [([], []), ([], []), ([0, 1], [0, 1]), ([2], [2]), ([3], [3]), ([], []), ([], []), ([5, 6], [5, 6]), ([7], [7]), ([8], [8]), ([4, 0, 1, 2, 3, 4], [4]), ([9, 10, 0, 1, 2, 3, 4, 5, 6, 7, 8, 9, 10], [9])])
def mizmazetop_TopHome.B14 : List Nat := [0, 0, 3, 7, 15, 0, 0, 96, 224, 480, 31, 2047]
theorem mizmazetop_TopHome.tab14 : rtab .any (opsOf Try.f7 14) = mizmazetop_TopHome.T14 := by kernel_rfl
theorem mizmazetop_TopHome.bits14 : waitsOk mizmazetop_TopHome.T14.2 mizmazetop_TopHome.B14 = true := by kernel_rfl
def mizmazetop_TopHome.T15 : Bool × List (List Nat × List Nat) := (true, [([], []), ([0], [0]), ([1], [1]), ([2], [2]), ([2], [2]), ([3, 4, 2], [2, 3, 4]), ([2, 5], [2, 5]), ([6, 2], [6]), ([7], [7]), ([7], [7]), ([8, 9, 7], [7, 8, 9]), ([7, 10], [7, 10]), ([11, 7], [11]), ([12], [12]), ([12], [12]), ([12], [12]), ([13, 14, 15, 12, 12], [12, 13, 14, 15]), ([12], [12]), ([12], [12]), ([12], [12]), ([17, 18, 19, 16, 12], [12, 17, 18, 19]), ([16, 20, 12], [12, 16, 20]), ([12, 21], [12, 21]), ([22, 20], [22]), ([23], [23]), ([23], [23]), ([23], [23]), ([23], [23]), ([26, 27, 23], [23, 26, 27]), ([28, 23, 23], [23, 28]), ([24, 25, 29, 29, 23], [23, 24, 25, 29]), ([23], [23]), ([23], [23]), ([23], [23]), ([23], [23]), ([33, 34, 23], [23, 33, 34]), ([35, 30, 23], [23, 35]), ([31, 32, 36, 36, 23], [23, 31, 32, 36]), ([30, 37, 23], [23, 30, 37]), ([23, 38], [23, 38])])
def mizmazetop_TopHome.B15 : List Nat := [0, 1, 3, 7, 7, 31, 63, 127, 255, 255, 1023, 2047, 4095, 8191, 8191, 8191, 65535, 8191, 8191, 8191, 1048575, 2097151, 4194303, 8388607, 16777215, 16777215, 16777215, 16777215, 218103807, 486539263, 1073741823, 16777215, 16777215, 16777215, 16777215, 25786580991, 62277025791, 137438953471, 274877906943, 549755813887]
theorem mizmazetop_TopHome.tab15 : rtab .any (opsOf Try.f7 15) = mizmazetop_TopHome.T15 := by kernel_rfl
theorem mizmazetop_TopHome.bits15 : waitsOk mizmazetop_TopHome.T15.2 mizmazetop_TopHome.B15 = true := by kernel_rfl
def tth0 : Array Bool := #[false, true, false, false, false, false, false, false]
def tth1 : Array Bool := #[false, true, false, false, true, false, false, false]
def tth2 : Array Bool := #[true, true, false, false, true, false, false, false]
def tth3 : Array Bool := #[true, true, false, true, true, false, false, false]
def tth4 : Array Bool := #[true, true, true, true, true, false, false, false]
def tth5 : Array Bool := #[true, true, true, true, true, true, false, false]
def tth6 : Array Bool := #[true, true, true, true, true, true, true, false]
def tth7 : Array Bool := #[true, true, true, true, true, true, true, true]
def tth8 : Array Bool := #[false, true, false, false, false, false, false, false, false, false, false, false, false, false, false, false, false, false, false, false, false, false, false, false, false, false, false, false, false, false, false, false, false, false, false, false]
def tth9 : Array Bool := #[true, true, false, false, false, false, false, false, false, false, false, false, false, false, false, false, false, false, false, false, false, false, false, false, false, false, false, false, false, false, false, false, false, false, false, false]
def tth10 : Array Bool := #[true, true, true, false, false, false, false, false, false, false, false, false, false, false, false, false, false, false, false, false, false, false, false, false, false, false, false, false, false, false, false, false, false, false, false, false]
def tth11 : Array Bool := #[true, true, true, true, false, false, false, false, false, false, false, false, false, false, false, false, false, false, false, false, false, false, false, false, false, false, false, false, false, false, false, false, false, false, false, false]
def tth12 : Array Bool := #[true, true, true, true, true, false, false, false, false, false, false, false, false, false, false, false, false, false, false, false, false, false, false, false, false, false, false, false, false, false, false, false, false, false, false, false]
def tth13 : Array Bool := #[true, true, true, true, true, true, false, false, false, false, false, false, false, false, false, false, false, false, false, false, false, false, false, false, false, false, false, false, false, false, false, false, false, false, false, false]
def tth14 : Array Bool := #[true, true, true, true, true, true, true, false, false, false, false, false, false, false, false, false, false, false, false, false, false, false, false, false, false, false, false, false, false, false, false, false, false, false, false, false]
def tth15 : Array Bool := #[true, true, true, true, true, true, true, true, false, false, false, false, false, false, false, false, false, false, false, false, false, false, false, false, false, false, false, false, false, false, false, false, false, false, false, false]
def tth16 : Array Bool := #[true, true, true, true, true, true, true, true, true, false, false, false, false, false, false, false, false, false, false, false, false, false, false, false, false, false, false, false, false, false, false, false, false, false, false, false]
def tth17 : Array Bool := #[true, true, true, true, true, true, true, true, true, true, false, false, false, false, false, false, false, false, false, false, false, false, false, false, false, false, false, false, false, false, false, false, false, false, false, false]
def tth18 : Array Bool := #[true, true, true, true, true, true, true, true, true, true, true, false, false, false, false, false, false, false, false, false, false, false, false, false, false, false, false, false, false, false, false, false, false, false, false, false]
def tth19 : Array Bool := #[true, true, true, true, true, true, true, true, true, true, true, true, false, false, false, false, false, false, false, false, false, false, false, false, false, false, false, false, false, false, false, false, false, false, false, false]
def tth20 : Array Bool := #[true, true, true, true, true, true, true, true, true, true, true, true, true, false, false, false, false, false, false, false, false, false, false, false, false, false, false, false, false, false, false, false, false, false, false, false]
def tth21 : Array Bool := #[true, true, true, true, true, true, true, true, true, true, true, true, true, true, false, false, false, false, false, false, false, false, false, false, false, false, false, false, false, false, false, false, false, false, false, false]
def tth22 : Array Bool := #[true, true, true, true, true, true, true, true, true, true, true, true, true, true, true, false, false, false, false, false, false, false, false, false, false, false, false, false, false, false, false, false, false, false, false, false]
def tth23 : Array Bool := #[true, true, true, true, true, true, true, true, true, true, true, true, true, true, true, true, false, false, false, false, false, false, false, false, false, false, false, false, false, false, false, false, false, false, false, false]
def tth24 : Array Bool := #[true, true, true, true, true, true, true, true, true, true, true, true, true, true, true, true, true, false, false, false, false, false, false, false, false, false, false, false, false, false, false, false, false, false, false, false]
def tth25 : Array Bool := #[true, true, true, true, true, true, true, true, true, true, true, true, true, true, true, true, true, false, true, false, false, false, false, false, false, false, false, false, false, false, false, false, false, false, false, false]
def tth26 : Array Bool := #[true, true, true, true, true, true, true, true, true, true, true, true, true, true, true, true, true, true, true, false, false, false, false, false, false, false, false, false, false, false, false, false, false, false, false, false]
def tth27 : Array Bool := #[true, true, true, true, true, true, true, true, true, true, true, true, true, true, true, true, true, true, true, true, false, false, false, false, false, false, false, false, false, false, false, false, false, false, false, false]
def tth28 : Array Bool := #[true, true, true, true, true, true, true, true, true, true, true, true, true, true, true, true, true, true, true, true, true, false, false, false, false, false, false, false, false, false, false, false, false, false, false, false]
def tth29 : Array Bool := #[true, true, true, true, true, true, true, true, true, true, true, true, true, true, true, true, true, true, true, true, true, true, false, false, false, false, false, false, false, false, false, false, false, false, false, false]
def tth30 : Array Bool := #[true, true, true, true, true, true, true, true, true, true, true, true, true, true, true, true, true, true, true, true, true, true, true, false, false, false, false, false, false, false, false, false, false, false, false, false]
def tth31 : Array Bool := #[true, true, true, true, true, true, true, true, true, true, true, true, true, true, true, true, true, true, true, true, true, true, true, false, true, false, false, false, false, false, false, false, false, false, false, false]
def tth32 : Array Bool := #[true, true, true, true, true, true, true, true, true, true, true, true, true, true, true, true, true, true, true, true, true, true, true, false, true, true, false, false, false, false, false, false, false, false, false, false]
def tth33 : Array Bool := #[true, true, true, true, true, true, true, true, true, true, true, true, true, true, true, true, true, true, true, true, true, true, true, false, true, true, true, false, false, false, false, false, false, false, false, false]
def tth34 : Array Bool := #[true, true, true, true, true, true, true, true, true, true, true, true, true, true, true, true, true, true, true, true, true, true, true, true, true, true, true, false, false, false, false, false, false, false, false, false]
def tth35 : Array Bool := #[true, true, true, true, true, true, true, true, true, true, true, true, true, true, true, true, true, true, true, true, true, true, true, true, true, true, true, true, false, false, false, false, false, false, false, false]
def tth36 : Array Bool := #[true, true, true, true, true, true, true, true, true, true, true, true, true, true, true, true, true, true, true, true, true, true, true, true, true, true, true, true, true, false, false, false, false, false, false, false]
def tth37 : Array Bool := #[true, true, true, true, true, true, true, true, true, true, true, true, true, true, true, true, true, true, true, true, true, true, true, true, true, true, true, true, true, true, false, false, false, false, false, false]
def tth38 : Array Bool := #[true, true, true, true, true, true, true, true, true, true, true, true, true, true, true, true, true, true, true, true, true, true, true, true, true, true, true, true, true, true, true, false, false, false, false, false]
def tth39 : Array Bool := #[true, true, true, true, true, true, true, true, true, true, true, true, true, true, true, true, true, true, true, true, true, true, true, true, true, true, true, true, true, true, true, true, false, false, false, false]
def tth40 : Array Bool := #[true, true, true, true, true, true, true, true, true, true, true, true, true, true, true, true, true, true, true, true, true, true, true, true, true, true, true, true, true, true, true, true, true, false, false, false]
def tth41 : Array Bool := #[true, true, true, true, true, true, true, true, true, true, true, true, true, true, true, true, true, true, true, true, true, true, true, true, true, true, true, true, true, true, true, true, true, true, false, false]
def tth42 : Array Bool := #[true, true, true, true, true, true, true, true, true, true, true, true, true, true, true, true, true, true, true, true, true, true, true, true, true, true, true, true, true, true, true, true, true, true, true, false]
def tth43 : Array Bool := #[true, true, true, true, true, true, true, true, true, true, true, true, true, true, true, true, true, true, true, true, true, true, true, true, true, true, true, true, true, true, true, true, true, true, true, true]
def tth44 : Array Bool := #[true, true, true, true, true, true, true, true, true, true, true, true, true, true, true, true, true, true, true, true, true, true, true, true, false, false, false, false, false, false, false, false, false, false, false, false]
def tth45 : Array Bool := #[true, true, true, true, true, true, true, true, true, true, true, true, true, true, true, true, true, true, true, true, true, true, true, true, true, false, false, false, false, false, false, false, false, false, false, false]
def tth46 : Array Bool := #[true, true, true, true, true, true, true, true, true, true, true, true, true, true, true, true, true, true, true, true, true, true, true, true, true, true, false, false, false, false, false, false, false, false, false, false]
def tth47 : Array Bool := #[true, true, true, true, true, true, true, true, true, true, true, true, true, true, true, true, true, true, false, false, false, false, false, false, false, false, false, false, false, false, false, false, false, false, false, false]
def tth48 : Array Bool := #[true, false, false, false, false, false, false, false, false, false, false, false]
def tth49 : Array Bool := #[true, true, false, false, false, false, false, false, false, false, false, false]
def tth50 : Array Bool := #[true, true, true, false, false, false, false, false, false, false, false, false]
def tth51 : Array Bool := #[true, true, true, true, false, false, false, false, false, false, false, false]
def tth52 : Array Bool := #[true, true, true, true, false, true, false, false, false, false, false, false]
def tth53 : Array Bool := #[true, true, true, true, false, true, true, false, false, false, false, false]
def tth54 : Array Bool := #[true, true, true, true, false, true, true, true, false, false, false, false]
def tth55 : Array Bool := #[true, true, true, true, false, true, true, true, true, false, false, false]
def tth56 : Array Bool := #[true, true, true, true, true, true, true, true, true, false, false, false]
def tth57 : Array Bool := #[true, true, true, true, true, true, true, true, true, false, true, false]
def tth58 : Array Bool := #[true, true, true, true, true, true, true, true, true, true, true, false]
def tth59 : Array Bool := #[true, true, true, true, true, true, true, true, true, true, true, true]
def tth60 : Array Bool := #[true, false, false, false, false, false, false, false, false, false, false, false, false, false, false, false, false, false, false, false, false, false, false, false, false, false, false, false, false, false, false, false, false, false, false, false, false, false, false, false]
def tth61 : Array Bool := #[true, true, false, false, false, false, false, false, false, false, false, false, false, false, false, false, false, false, false, false, false, false, false, false, false, false, false, false, false, false, false, false, false, false, false, false, false, false, false, false]
def tth62 : Array Bool := #[true, true, true, false, false, false, false, false, false, false, false, false, false, false, false, false, false, false, false, false, false, false, false, false, false, false, false, false, false, false, false, false, false, false, false, false, false, false, false, false]
def tth63 : Array Bool := #[true, true, true, true, false, false, false, false, false, false, false, false, false, false, false, false, false, false, false, false, false, false, false, false, false, false, false, false, false, false, false, false, false, false, false, false, false, false, false, false]
def tth64 : Array Bool := #[true, true, true, true, true, false, false, false, false, false, false, false, false, false, false, false, false, false, false, false, false, false, false, false, false, false, false, false, false, false, false, false, false, false, false, false, false, false, false, false]
def tth65 : Array Bool := #[true, true, true, true, true, true, false, false, false, false, false, false, false, false, false, false, false, false, false, false, false, false, false, false, false, false, false, false, false, false, false, false, false, false, false, false, false, false, false, false]
def tth66 : Array Bool := #[true, true, true, true, true, true, true, false, false, false, false, false, false, false, false, false, false, false, false, false, false, false, false, false, false, false, false, false, false, false, false, false, false, false, false, false, false, false, false, false]
def tth67 : Array Bool := #[true, true, true, true, true, true, true, true, false, false, false, false, false, false, false, false, false, false, false, false, false, false, false, false, false, false, false, false, false, false, false, false, false, false, false, false, false, false, false, false]
def tth68 : Array Bool := #[true, true, true, true, true, true, true, true, true, false, false, false, false, false, false, false, false, false, false, false, false, false, false, false, false, false, false, false, false, false, false, false, false, false, false, false, false, false, false, false]
def tth69 : Array Bool := #[true, true, true, true, true, true, true, true, true, true, false, false, false, false, false, false, false, false, false, false, false, false, false, false, false, false, false, false, false, false, false, false, false, false, false, false, false, false, false, false]
def tth70 : Array Bool := #[true, true, true, true, true, true, true, true, true, true, true, false, false, false, false, false, false, false, false, false, false, false, false, false, false, false, false, false, false, false, false, false, false, false, false, false, false, false, false, false]
def tth71 : Array Bool := #[true, true, true, true, true, true, true, true, true, true, true, true, false, false, false, false, false, false, false, false, false, false, false, false, false, false, false, false, false, false, false, false, false, false, false, false, false, false, false, false]
def tth72 : Array Bool := #[true, true, true, true, true, true, true, true, true, true, true, true, true, false, false, false, false, false, false, false, false, false, false, false, false, false, false, false, false, false, false, false, false, false, false, false, false, false, false, false]
def tth73 : Array Bool := #[true, true, true, true, true, true, true, true, true, true, true, true, true, true, false, false, false, false, false, false, false, false, false, false, false, false, false, false, false, false, false, false, false, false, false, false, false, false, false, false]
def tth74 : Array Bool := #[true, true, true, true, true, true, true, true, true, true, true, true, true, true, true, false, false, false, false, false, false, false, false, false, false, false, false, false, false, false, false, false, false, false, false, false, false, false, false, false]
def tth75 : Array Bool := #[true, true, true, true, true, true, true, true, true, true, true, true, true, true, true, true, false, false, false, false, false, false, false, false, false, false, false, false, false, false, false, false, false, false, false, false, false, false, false, false]
def tth76 : Array Bool := #[true, true, true, true, true, true, true, true, true, true, true, true, true, true, true, true, true, false, false, false, false, false, false, false, false, false, false, false, false, false, false, false, false, false, false, false, false, false, false, false]
def tth77 : Array Bool := #[true, true, true, true, true, true, true, true, true, true, true, true, true, true, true, true, true, true, false, false, false, false, false, false, false, false, false, false, false, false, false, false, false, false, false, false, false, false, false, false]
def tth78 : Array Bool := #[true, true, true, true, true, true, true, true, true, true, true, true, true, true, true, true, true, true, true, false, false, false, false, false, false, false, false, false, false, false, false, false, false, false, false, false, false, false, false, false]
def tth79 : Array Bool := #[true, true, true, true, true, true, true, true, true, true, true, true, true, true, true, true, true, true, true, true, false, false, false, false, false, false, false, false, false, false, false, false, false, false, false, false, false, false, false, false]
def tth80 : Array Bool := #[true, true, true, true, true, true, true, true, true, true, true, true, true, true, true, true, true, true, true, true, true, false, false, false, false, false, false, false, false, false, false, false, false, false, false, false, false, false, false, false]
def tth81 : Array Bool := #[true, true, true, true, true, true, true, true, true, true, true, true, true, true, true, true, true, true, true, true, true, true, false, false, false, false, false, false, false, false, false, false, false, false, false, false, false, false, false, false]
def tth82 : Array Bool := #[true, true, true, true, true, true, true, true, true, true, true, true, true, true, true, true, true, true, true, true, true, true, true, false, false, false, false, false, false, false, false, false, false, false, false, false, false, false, false, false]
def tth83 : Array Bool := #[true, true, true, true, true, true, true, true, true, true, true, true, true, true, true, true, true, true, true, true, true, true, true, true, false, false, false, false, false, false, false, false, false, false, false, false, false, false, false, false]
def tth84 : Array Bool := #[true, true, true, true, true, true, true, true, true, true, true, true, true, true, true, true, true, true, true, true, true, true, true, true, true, false, false, false, false, false, false, false, false, false, false, false, false, false, false, false]
def tth85 : Array Bool := #[true, true, true, true, true, true, true, true, true, true, true, true, true, true, true, true, true, true, true, true, true, true, true, true, true, true, false, false, false, false, false, false, false, false, false, false, false, false, false, false]
def tth86 : Array Bool := #[true, true, true, true, true, true, true, true, true, true, true, true, true, true, true, true, true, true, true, true, true, true, true, true, true, true, true, false, false, false, false, false, false, false, false, false, false, false, false, false]
def tth87 : Array Bool := #[true, true, true, true, true, true, true, true, true, true, true, true, true, true, true, true, true, true, true, true, true, true, true, true, true, true, true, true, false, false, false, false, false, false, false, false, false, false, false, false]
def tth88 : Array Bool := #[true, true, true, true, true, true, true, true, true, true, true, true, true, true, true, true, true, true, true, true, true, true, true, true, true, true, true, true, true, false, false, false, false, false, false, false, false, false, false, false]
def tth89 : Array Bool := #[true, true, true, true, true, true, true, true, true, true, true, true, true, true, true, true, true, true, true, true, true, true, true, true, true, true, true, true, true, true, false, false, false, false, false, false, false, false, false, false]
def tth90 : Array Bool := #[true, true, true, true, true, true, true, true, true, true, true, true, true, true, true, true, true, true, true, true, true, true, true, true, true, true, true, true, true, true, true, false, false, false, false, false, false, false, false, false]
def tth91 : Array Bool := #[true, true, true, true, true, true, true, true, true, true, true, true, true, true, true, true, true, true, true, true, true, true, true, true, true, true, true, true, true, true, true, true, false, false, false, false, false, false, false, false]
def tth92 : Array Bool := #[true, true, true, true, true, true, true, true, true, true, true, true, true, true, true, true, true, true, true, true, true, true, true, true, true, true, true, true, true, true, true, true, true, false, false, false, false, false, false, false]
def tth93 : Array Bool := #[true, true, true, true, true, true, true, true, true, true, true, true, true, true, true, true, true, true, true, true, true, true, true, true, true, true, true, true, true, true, true, true, true, true, false, false, false, false, false, false]
def tth94 : Array Bool := #[true, true, true, true, true, true, true, true, true, true, true, true, true, true, true, true, true, true, true, true, true, true, true, true, true, true, true, true, true, true, true, true, true, true, true, false, false, false, false, false]
def tth95 : Array Bool := #[true, true, true, true, true, true, true, true, true, true, true, true, true, true, true, true, true, true, true, true, true, true, true, true, true, true, true, true, true, true, true, true, true, true, true, true, false, false, false, false]
def tth96 : Array Bool := #[true, true, true, true, true, true, true, true, true, true, true, true, true, true, true, true, true, true, true, true, true, true, true, true, true, true, true, true, true, true, true, true, true, true, true, true, true, false, false, false]
def tth97 : Array Bool := #[true, true, true, true, true, true, true, true, true, true, true, true, true, true, true, true, true, true, true, true, true, true, true, true, true, true, true, true, true, true, true, true, true, true, true, true, true, true, false, false]
def tth98 : Array Bool := #[true, true, true, true, true, true, true, true, true, true, true, true, true, true, true, true, true, true, true, true, true, true, true, true, true, true, true, true, true, true, true, true, true, true, true, true, true, true, true, false]
def tth99 : Array Bool := #[true, true, true, true, true, true, true, true, true, true, true, true, true, true, true, true, true, true, true, true, true, true, true, true, true, true, true, true, true, true, true, true, true, true, true, true, true, true, true, true]
def tth100 : Array Bool := #[true, true, true, true, true, true, true, true, true, true, true, true, true, false, true, false, false, false, false, false, false, false, false, false, false, false, false, false, false, false, false, false, false, false, false, false, false, false, false, false]
def tth101 : Array Bool := #[true, true, true, true, true, true, true, true, true, true, true, true, true, false, true, true, false, false, false, false, false, false, false, false, false, false, false, false, false, false, false, false, false, false, false, false, false, false, false, false]
def tth102 : Array Bool := #[true, true, true, true, true, true, true, true, true, true, true, true, true, false, true, true, false, false, true, false, false, false, false, false, false, false, false, false, false, false, false, false, false, false, false, false, false, false, false, false]
def tth103 : Array Bool := #[true, true, true, true, true, true, true, true, true, true, true, true, true, false, true, true, false, false, true, true, false, false, false, false, false, false, false, false, false, false, false, false, false, false, false, false, false, false, false, false]
def tth104 : Array Bool := #[true, true, true, true, true, true, true, true, true, true, true, true, true, true, true, true, false, false, true, true, false, false, false, false, false, false, false, false, false, false, false, false, false, false, false, false, false, false, false, false]
def tth105 : Array Bool := #[true, true, true, true, true, true, true, true, true, true, true, true, true, true, true, true, false, true, true, true, false, false, false, false, false, false, false, false, false, false, false, false, false, false, false, false, false, false, false, false]
def tth106 : Array Bool := #[true, true, true, true, true, true, true, true, true, true, true, true, true, true, true, true, true, true, true, true, true, true, true, true, false, true, false, false, false, false, false, false, false, false, false, false, false, false, false, false]
def tth107 : Array Bool := #[true, true, true, true, true, true, true, true, true, true, true, true, true, true, true, true, true, true, true, true, true, true, true, true, false, true, true, false, false, false, false, false, false, false, false, false, false, false, false, false]
def tth108 : Array Bool := #[true, true, true, true, true, true, true, true, true, true, true, true, true, true, true, true, true, true, true, true, true, true, true, true, false, true, true, true, false, false, false, false, false, false, false, false, false, false, false, false]
def tth109 : Array Bool := #[true, true, true, true, true, true, true, true, true, true, true, true, true, true, true, true, true, true, true, true, true, true, true, true, false, true, true, true, false, false, false, false, true, false, false, false, false, false, false, false]
def tth110 : Array Bool := #[true, true, true, true, true, true, true, true, true, true, true, true, true, true, true, true, true, true, true, true, true, true, true, true, false, true, true, true, false, false, false, false, true, true, false, false, false, false, false, false]
def tth111 : Array Bool := #[true, true, true, true, true, true, true, true, true, true, true, true, true, true, true, true, true, true, true, true, true, true, true, true, false, true, true, true, false, false, false, false, true, true, true, false, false, false, false, false]
def tth112 : Array Bool := #[true, true, true, true, true, true, true, true, true, true, true, true, true, true, true, true, true, true, true, true, true, true, true, true, true, true, true, true, false, false, false, false, true, true, true, false, false, false, false, false]
def tth113 : Array Bool := #[true, true, true, true, true, true, true, true, true, true, true, true, true, true, true, true, true, true, true, true, true, true, true, true, true, true, true, true, false, false, false, true, true, true, true, false, false, false, false, false]
def tth114 : Array Bool := #[true, true, true, true, true, true, true, true, true, true, true, true, true, true, true, true, true, true, true, true, true, true, true, true, true, true, true, true, true, false, false, true, true, true, true, false, false, false, false, false]
def tth115 : Array Bool := #[true, true, true, true, true, true, true, true, true, true, true, true, true, true, true, true, true, true, true, true, true, true, true, true, true, true, true, true, false, false, false, true, true, true, true, true, false, false, false, false]
def tth116 : Array Bool := #[true, true, true, true, true, true, true, true, true, true, true, true, true, true, true, true, true, true, true, true, true, true, true, true, true, true, true, true, true, true, false, true, true, true, true, false, false, false, false, false]
def tth117 : Array Bool := #[true, true, true, true, true, true, true, true, true, true, true, true, true, true, true, true, true, true, true, true, true, true, true, true, true, true, true, true, true, false, false, true, true, true, true, true, false, false, false, false]
def tth118 : Array Bool := #[true, true, true, true, true, true, true, true, true, true, true, true, true, true, true, true, true, true, true, true, true, true, true, true, true, true, true, true, true, true, false, true, true, true, true, true, false, false, false, false]
set_option maxHeartbeats 8000000 in
set_option maxRecDepth 100000 in
theorem mizmazetop_TopHome.calls (k : Nat) (A0_0 : Option Addr) (c0_0 : Nat) (l0_0 : List (List Int)) (A1 : Option Addr) (c1 : Nat) (l1 : List Int) (A2 : Option Addr) (c2 : Nat) (l2 : List Int) (r : Bool) (w : World) (hr0_0 : Kd.C (Kd.slice 3 (Kd.int .i64)) w A0_0 l0_0.length l0_0) (hc0_0 : l0_0.length ≤ c0_0) (hr1 : Kd.C (Kd.int .i64) w A1 l1.length l1) (hc1 : l1.length ≤ c1) (hr2 : Kd.C (Kd.int .i64) w A2 l2.length l2) (hc2 : l2.length ≤ c2) (h : mizmazetop_TopHome.f k l0_0 l1 l2 = some r) :
    Calls Try.prog 7 #[.agg #[.slice A0_0 l0_0.length c0_0], .slice A1 l1.length c1, .slice A2 l2.length c2] w fun e w' => e = .returned (.bool r) ∧ Below w.heap.size w w' := by
 have hu24 := Try.underlying24
 have HR0_0 := Aside0.mk hr0_0
 have HC0_0 := Aside0.mk hc0_0
 clear hr0_0 hc0_0
 have HR1 := Aside0.mk hr1
 have HC1 := Aside0.mk hc1
 clear hr1 hc1
 have HR2 := Aside0.mk hr2
 have HC2 := Aside0.mk hc2
 clear hr2 hc2
 have HB := Aside0.mk (Below.refl w.heap.size w)
 have H : ((reset_Reset.f k l0_0).bind fun bt913 => ((reset_Apart.f k l0_0).bind fun bt917 => ((mizmazetop_valid.f k l0_0).bind fun t921 => (if t921 = true then ((mizmazetop_proper.f k l0_0 l1).bind fun t923 => ((mizmazetop_proper.f k l0_0 l2).bind fun t926 => (if bt917.2 = 0 then (if ((bt913.2 == 0) != ((bt917.1.length : Int) == 0)) = true then (mizmazetop_TopHome.j0 k t923 t926 bt913.1 bt913.2 bt917.1 (l0_0.length : Int) true l0_0) else (if bt913.2 = 0 then (mizmazetop_TopHome.j0 k t923 t926 bt913.1 bt913.2 bt917.1 (l0_0.length : Int) false l0_0) else (mizmazetop_TopHome.j0 k t923 t926 bt913.1 bt913.2 bt917.1 (l0_0.length : Int) (bt913.2 != 4) l0_0))) else (mizmazetop_TopHome.j0 k t923 t926 bt913.1 bt913.2 bt917.1 (l0_0.length : Int) true l0_0)))) else (if bt913.2 = 1 then (if bt917.2 = 1 then ((mizmazetop_homes.f k).bind fun t922 => (some t922)) else (some false)) else (some false)))))) = some r := h
 clear h
 replace H := Option.bind_eq_some_iff.mp H
 obtain ⟨⟨t913, t916⟩, A40, H⟩ := H
 replace H : ((reset_Apart.f k l0_0).bind fun bt917 => ((mizmazetop_valid.f k l0_0).bind fun t921 => (if t921 = true then ((mizmazetop_proper.f k l0_0 l1).bind fun t923 => ((mizmazetop_proper.f k l0_0 l2).bind fun t926 => (if bt917.2 = 0 then (if ((t916 == 0) != ((bt917.1.length : Int) == 0)) = true then (mizmazetop_TopHome.j0 k t923 t926 t913 t916 bt917.1 (l0_0.length : Int) true l0_0) else (if t916 = 0 then (mizmazetop_TopHome.j0 k t923 t926 t913 t916 bt917.1 (l0_0.length : Int) false l0_0) else (mizmazetop_TopHome.j0 k t923 t926 t913 t916 bt917.1 (l0_0.length : Int) (t916 != 4) l0_0))) else (mizmazetop_TopHome.j0 k t923 t926 t913 t916 bt917.1 (l0_0.length : Int) true l0_0)))) else (if t916 = 1 then (if bt917.2 = 1 then ((mizmazetop_homes.f k).bind fun t922 => (some t922)) else (some false)) else (some false))))) = some r := H
 have A4 := Aside0.mk A40
 clear A40
 replace H := Option.bind_eq_some_iff.mp H
 obtain ⟨⟨t917, t920⟩, A50, H⟩ := H
 replace H : ((mizmazetop_valid.f k l0_0).bind fun t921 => (if t921 = true then ((mizmazetop_proper.f k l0_0 l1).bind fun t923 => ((mizmazetop_proper.f k l0_0 l2).bind fun t926 => (if t920 = 0 then (if ((t916 == 0) != ((t917.length : Int) == 0)) = true then (mizmazetop_TopHome.j0 k t923 t926 t913 t916 t917 (l0_0.length : Int) true l0_0) else (if t916 = 0 then (mizmazetop_TopHome.j0 k t923 t926 t913 t916 t917 (l0_0.length : Int) false l0_0) else (mizmazetop_TopHome.j0 k t923 t926 t913 t916 t917 (l0_0.length : Int) (t916 != 4) l0_0))) else (mizmazetop_TopHome.j0 k t923 t926 t913 t916 t917 (l0_0.length : Int) true l0_0)))) else (if t916 = 1 then (if t920 = 1 then ((mizmazetop_homes.f k).bind fun t922 => (some t922)) else (some false)) else (some false)))) = some r := H
 have A5 := Aside0.mk A50
 clear A50
 replace H := Option.bind_eq_some_iff.mp H
 obtain ⟨t921, A60, H⟩ := H
 replace H : (if t921 = true then ((mizmazetop_proper.f k l0_0 l1).bind fun t923 => ((mizmazetop_proper.f k l0_0 l2).bind fun t926 => (if t920 = 0 then (if ((t916 == 0) != ((t917.length : Int) == 0)) = true then (mizmazetop_TopHome.j0 k t923 t926 t913 t916 t917 (l0_0.length : Int) true l0_0) else (if t916 = 0 then (mizmazetop_TopHome.j0 k t923 t926 t913 t916 t917 (l0_0.length : Int) false l0_0) else (mizmazetop_TopHome.j0 k t923 t926 t913 t916 t917 (l0_0.length : Int) (t916 != 4) l0_0))) else (mizmazetop_TopHome.j0 k t923 t926 t913 t916 t917 (l0_0.length : Int) true l0_0)))) else (if t916 = 1 then (if t920 = 1 then ((mizmazetop_homes.f k).bind fun t922 => (some t922)) else (some false)) else (some false))) = some r := H
 have A6 := Aside0.mk A60
 clear A60
 by_cases c7 : t921 = true
 rotate_left
 ·replace c7 := Bool.eq_false_iff.mpr c7
  subst c7
  have H1 : (if t916 = 1 then (if t920 = 1 then ((mizmazetop_homes.f k).bind fun t922 => (some t922)) else (some false)) else (some false)) = some r := by rw [if_neg (show ¬ (false = true) by decide)] at H; exact H
  clear H
  have H := H1
  clear H1
  by_cases c145 : t916 = 1
  rotate_left
  ·rw [if_neg c145] at H
   have c145b0 : (t916 == 1) = false := beq_eq_false_iff_ne.mpr c145
   have c145b1 : (t916 != 1) = true := bne_iff_ne.mpr c145
   obtain rfl := Option.some.inj H
   go_enter Try.func7, Try.ntmps7
   go_wp2_with (first | ((with_reducible refine gate_dst (N := 3) rfl ?_); (try (refine gate_guard (by rfl) ?_; dsimp only)); refine box_event ?hg (N := 3) ?hd (cs := #[.slice A0_0 l0_0.length c0_0]) (t := 24) ?hr ?_; (case hd => rfl); (case hg => rfl); (case hr => first | (go_simp; done) | (go_simp; rfl)); intro gb912 hg w163 hbox hb; have n0_ := Aside0.mk (below_step (by repeat (first | (with_reducible first | exact HB.out | apply below_alloc | apply pw_below_drewN | apply below_drew1) | exact HB.out)) hb); have n1_ := Aside0.mk (hbox); have n2_ := Aside0.mk ((by rw [hg]; exact (below_size (by repeat (first | (with_reducible first | exact HB.out | apply below_alloc | apply pw_below_drewN | apply below_drew1) | exact HB.out))) : w.heap.size ≤ gb912)); have n3_ := Aside0.mk ((by rw [hg]; exact (below_size (by repeat (first | (with_reducible first | exact HB.out | apply below_alloc | apply pw_below_drewN | apply below_drew1) | exact HB.out))) : w.heap.size ≤ gb912)); clear HB; have HB := n0_; have BK912 := n1_; have GW912 := n2_; have GE912 := n3_; clear n0_ n1_ n2_ n3_; clear hb hbox hg; have hcz164_0 : w163.cell? ⟨gb912, 0, none⟩ = some (.slice A0_0 l0_0.length c0_0) := (blk_cell BK912.out 0).trans rfl; have hfz164_0 := blk_frozen BK912.out 0) | ((with_reducible refine gate_callee (f := 29) rfl ?_); refine goesL_ (some 17) rfl rfl Try.func29 (by kernel_rfl) rfl #[.agg #[.slice A0_0 l0_0.length c0_0]] rfl (by (try simp only [List.map_toArray, List.map_cons, List.map_nil]); first | done | rfl | (simp only [List.length_drop, List.length_take]; rfl)) ?_; (with_reducible refine (reset_Reset.calls k _ _ l0_0 t913 t916 _ ?side1 ?side2 A4.out).mono ?_); (case side1 => repeat (first | exact (Kd.C_below HR0_0.out HB.out) | (with_reducible refine Kd.C_alloc ?_ _) | (with_reducible refine Kd.C_drewN ?_ _) | (with_reducible refine Kd.C_drew ?_))); (case side2 => exact HC0_0.out); rintro e w165 ⟨v914, rfl, ho0, hb⟩; refine ⟨_, rfl, ?_⟩; have n0_ := Aside0.mk (Kd.R_lower ho0 (below_size (by repeat (first | (with_reducible first | exact HB.out | apply below_alloc | apply pw_below_drewN | apply below_drew1 | refine below_set ?_ GE912.out) | exact HB.out)))); have n1_ := Aside0.mk (blk_below (g := gb912) (o := .cells #[.slice A0_0 l0_0.length c0_0] 24 (0, 0)) (by (with_reducible repeat (first | refine blk_drewN ?_ _ | refine blk_drew ?_ | refine blk_alloc ?_ _)); exact BK912.out) hb); have n2_ := Aside0.mk (below_step (by repeat (first | (with_reducible first | exact HB.out | apply below_alloc | apply pw_below_drewN | apply below_drew1 | refine below_set ?_ GE912.out) | exact HB.out)) hb); clear BK912; clear HB; have HO915 := n0_; have BK912 := n1_; have HB := n2_; clear n0_ n1_ n2_; (try clear hb); (try clear hb2); (try clear hk); (try clear hi); (try clear ho0); have hcz166_0 : w165.cell? ⟨gb912, 0, none⟩ = some (.slice A0_0 l0_0.length c0_0) := (blk_cell BK912.out 0).trans rfl; have hfz166_0 := blk_frozen BK912.out 0) | ((with_reducible refine gate_callee (f := 30) rfl ?_); refine goesL_ (some 22) rfl rfl Try.func30 (by kernel_rfl) rfl #[.agg #[.slice A0_0 l0_0.length c0_0]] rfl (by (try simp only [List.map_toArray, List.map_cons, List.map_nil]); first | done | rfl | (simp only [List.length_drop, List.length_take]; rfl)) ?_; (with_reducible refine (reset_Apart.calls k _ _ l0_0 t917 t920 _ ?side1 ?side2 A5.out).mono ?_); (case side1 => repeat (first | exact (Kd.C_below HR0_0.out HB.out) | (with_reducible refine Kd.C_alloc ?_ _) | (with_reducible refine Kd.C_drewN ?_ _) | (with_reducible refine Kd.C_drew ?_))); (case side2 => exact HC0_0.out); rintro e w167 ⟨v918, rfl, ho0, hb⟩; refine ⟨_, rfl, ?_⟩; have n0_ := Aside0.mk (Kd.R_below (by (with_reducible repeat (first | apply Kd.R_alloc | apply Kd.R_drewN | apply Kd.R_drew)); exact HO915.out) hb); have n1_ := Aside0.mk (Kd.R_lower ho0 (below_size (by repeat (first | (with_reducible first | exact HB.out | apply below_alloc | apply pw_below_drewN | apply below_drew1 | refine below_set ?_ GE912.out) | exact HB.out)))); have n2_ := Aside0.mk (blk_below (g := gb912) (o := .cells #[.slice A0_0 l0_0.length c0_0] 24 (0, 0)) (by (with_reducible repeat (first | refine blk_drewN ?_ _ | refine blk_drew ?_ | refine blk_alloc ?_ _)); exact BK912.out) hb); have n3_ := Aside0.mk (below_step (by repeat (first | (with_reducible first | exact HB.out | apply below_alloc | apply pw_below_drewN | apply below_drew1 | refine below_set ?_ GE912.out) | exact HB.out)) hb); clear HO915; clear BK912; clear HB; have HO915 := n0_; have HO919 := n1_; have BK912 := n2_; have HB := n3_; clear n0_ n1_ n2_ n3_; (try clear hb); (try clear hb2); (try clear hk); (try clear hi); (try clear ho0); have hcz168_0 : w167.cell? ⟨gb912, 0, none⟩ = some (.slice A0_0 l0_0.length c0_0) := (blk_cell BK912.out 0).trans rfl; have hfz168_0 := blk_frozen BK912.out 0) | ((with_reducible refine gate_callee (f := 26) rfl ?_); refine goesL_ (some 26) rfl rfl Try.func26 (by kernel_rfl) rfl #[.agg #[.slice A0_0 l0_0.length c0_0]] rfl (by (try simp only [List.map_toArray, List.map_cons, List.map_nil]); first | done | rfl | (simp only [List.length_drop, List.length_take]; rfl)) ?_; (with_reducible refine (mizmazetop_valid.calls k _ _ l0_0 false _ ?side1 ?side2 A6.out).mono ?_); (case side1 => repeat (first | exact (Kd.C_below HR0_0.out HB.out) | (with_reducible refine Kd.C_alloc ?_ _) | (with_reducible refine Kd.C_drewN ?_ _) | (with_reducible refine Kd.C_drew ?_))); (case side2 => exact HC0_0.out); rintro e w169 ⟨rfl, hb⟩; refine ⟨_, rfl, ?_⟩; have n0_ := Aside0.mk (Kd.R_below (by (with_reducible repeat (first | apply Kd.R_alloc | apply Kd.R_drewN | apply Kd.R_drew)); exact HO915.out) hb); have n1_ := Aside0.mk (Kd.R_below (by (with_reducible repeat (first | apply Kd.R_alloc | apply Kd.R_drewN | apply Kd.R_drew)); exact HO919.out) hb); have n2_ := Aside0.mk (blk_below (g := gb912) (o := .cells #[.slice A0_0 l0_0.length c0_0] 24 (0, 0)) (by (with_reducible repeat (first | refine blk_drewN ?_ _ | refine blk_drew ?_ | refine blk_alloc ?_ _)); exact BK912.out) hb); have n3_ := Aside0.mk (below_step (by repeat (first | (with_reducible first | exact HB.out | apply below_alloc | apply pw_below_drewN | apply below_drew1 | refine below_set ?_ GE912.out) | exact HB.out)) hb); clear HO915; clear HO919; clear BK912; clear HB; have HO915 := n0_; have HO919 := n1_; have BK912 := n2_; have HB := n3_; clear n0_ n1_ n2_ n3_; (try clear hb); (try clear hb2); (try clear hk); (try clear hi)))
   go_ret
   exact ⟨by first | rfl | (simp [errW_none, errW_some] <;> rfl) | (simp [*, errW_none, errW_some] <;> rfl), by repeat (first | (with_reducible first | exact HB.out | apply below_alloc | apply pw_below_drewN | apply below_drew1 | refine below_set ?_ GE912.out) | exact HB.out)⟩

  rw [if_pos c145] at H
  have c145b0 : (t916 == 1) = true := beq_iff_eq.mpr c145
  have c145b1 : (t916 != 1) = false := bne_eq_false_iff_eq.mpr c145
  clear c145
  by_cases c146 : t920 = 1
  rotate_left
  ·rw [if_neg c146] at H
   have c146b0 : (t920 == 1) = false := beq_eq_false_iff_ne.mpr c146
   have c146b1 : (t920 != 1) = true := bne_iff_ne.mpr c146
   obtain rfl := Option.some.inj H
   go_enter Try.func7, Try.ntmps7
   go_wp2_with (first | ((with_reducible refine gate_dst (N := 3) rfl ?_); (try (refine gate_guard (by rfl) ?_; dsimp only)); refine box_event ?hg (N := 3) ?hd (cs := #[.slice A0_0 l0_0.length c0_0]) (t := 24) ?hr ?_; (case hd => rfl); (case hg => rfl); (case hr => first | (go_simp; done) | (go_simp; rfl)); intro gb912 hg w156 hbox hb; have n0_ := Aside0.mk (below_step (by repeat (first | (with_reducible first | exact HB.out | apply below_alloc | apply pw_below_drewN | apply below_drew1) | exact HB.out)) hb); have n1_ := Aside0.mk (hbox); have n2_ := Aside0.mk ((by rw [hg]; exact (below_size (by repeat (first | (with_reducible first | exact HB.out | apply below_alloc | apply pw_below_drewN | apply below_drew1) | exact HB.out))) : w.heap.size ≤ gb912)); have n3_ := Aside0.mk ((by rw [hg]; exact (below_size (by repeat (first | (with_reducible first | exact HB.out | apply below_alloc | apply pw_below_drewN | apply below_drew1) | exact HB.out))) : w.heap.size ≤ gb912)); clear HB; have HB := n0_; have BK912 := n1_; have GW912 := n2_; have GE912 := n3_; clear n0_ n1_ n2_ n3_; clear hb hbox hg; have hcz157_0 : w156.cell? ⟨gb912, 0, none⟩ = some (.slice A0_0 l0_0.length c0_0) := (blk_cell BK912.out 0).trans rfl; have hfz157_0 := blk_frozen BK912.out 0) | ((with_reducible refine gate_callee (f := 29) rfl ?_); refine goesL_ (some 17) rfl rfl Try.func29 (by kernel_rfl) rfl #[.agg #[.slice A0_0 l0_0.length c0_0]] rfl (by (try simp only [List.map_toArray, List.map_cons, List.map_nil]); first | done | rfl | (simp only [List.length_drop, List.length_take]; rfl)) ?_; (with_reducible refine (reset_Reset.calls k _ _ l0_0 t913 t916 _ ?side1 ?side2 A4.out).mono ?_); (case side1 => repeat (first | exact (Kd.C_below HR0_0.out HB.out) | (with_reducible refine Kd.C_alloc ?_ _) | (with_reducible refine Kd.C_drewN ?_ _) | (with_reducible refine Kd.C_drew ?_))); (case side2 => exact HC0_0.out); rintro e w158 ⟨v914, rfl, ho0, hb⟩; refine ⟨_, rfl, ?_⟩; have n0_ := Aside0.mk (Kd.R_lower ho0 (below_size (by repeat (first | (with_reducible first | exact HB.out | apply below_alloc | apply pw_below_drewN | apply below_drew1 | refine below_set ?_ GE912.out) | exact HB.out)))); have n1_ := Aside0.mk (blk_below (g := gb912) (o := .cells #[.slice A0_0 l0_0.length c0_0] 24 (0, 0)) (by (with_reducible repeat (first | refine blk_drewN ?_ _ | refine blk_drew ?_ | refine blk_alloc ?_ _)); exact BK912.out) hb); have n2_ := Aside0.mk (below_step (by repeat (first | (with_reducible first | exact HB.out | apply below_alloc | apply pw_below_drewN | apply below_drew1 | refine below_set ?_ GE912.out) | exact HB.out)) hb); clear BK912; clear HB; have HO915 := n0_; have BK912 := n1_; have HB := n2_; clear n0_ n1_ n2_; (try clear hb); (try clear hb2); (try clear hk); (try clear hi); (try clear ho0); have hcz159_0 : w158.cell? ⟨gb912, 0, none⟩ = some (.slice A0_0 l0_0.length c0_0) := (blk_cell BK912.out 0).trans rfl; have hfz159_0 := blk_frozen BK912.out 0) | ((with_reducible refine gate_callee (f := 30) rfl ?_); refine goesL_ (some 22) rfl rfl Try.func30 (by kernel_rfl) rfl #[.agg #[.slice A0_0 l0_0.length c0_0]] rfl (by (try simp only [List.map_toArray, List.map_cons, List.map_nil]); first | done | rfl | (simp only [List.length_drop, List.length_take]; rfl)) ?_; (with_reducible refine (reset_Apart.calls k _ _ l0_0 t917 t920 _ ?side1 ?side2 A5.out).mono ?_); (case side1 => repeat (first | exact (Kd.C_below HR0_0.out HB.out) | (with_reducible refine Kd.C_alloc ?_ _) | (with_reducible refine Kd.C_drewN ?_ _) | (with_reducible refine Kd.C_drew ?_))); (case side2 => exact HC0_0.out); rintro e w160 ⟨v918, rfl, ho0, hb⟩; refine ⟨_, rfl, ?_⟩; have n0_ := Aside0.mk (Kd.R_below (by (with_reducible repeat (first | apply Kd.R_alloc | apply Kd.R_drewN | apply Kd.R_drew)); exact HO915.out) hb); have n1_ := Aside0.mk (Kd.R_lower ho0 (below_size (by repeat (first | (with_reducible first | exact HB.out | apply below_alloc | apply pw_below_drewN | apply below_drew1 | refine below_set ?_ GE912.out) | exact HB.out)))); have n2_ := Aside0.mk (blk_below (g := gb912) (o := .cells #[.slice A0_0 l0_0.length c0_0] 24 (0, 0)) (by (with_reducible repeat (first | refine blk_drewN ?_ _ | refine blk_drew ?_ | refine blk_alloc ?_ _)); exact BK912.out) hb); have n3_ := Aside0.mk (below_step (by repeat (first | (with_reducible first | exact HB.out | apply below_alloc | apply pw_below_drewN | apply below_drew1 | refine below_set ?_ GE912.out) | exact HB.out)) hb); clear HO915; clear BK912; clear HB; have HO915 := n0_; have HO919 := n1_; have BK912 := n2_; have HB := n3_; clear n0_ n1_ n2_ n3_; (try clear hb); (try clear hb2); (try clear hk); (try clear hi); (try clear ho0); have hcz161_0 : w160.cell? ⟨gb912, 0, none⟩ = some (.slice A0_0 l0_0.length c0_0) := (blk_cell BK912.out 0).trans rfl; have hfz161_0 := blk_frozen BK912.out 0) | ((with_reducible refine gate_callee (f := 26) rfl ?_); refine goesL_ (some 26) rfl rfl Try.func26 (by kernel_rfl) rfl #[.agg #[.slice A0_0 l0_0.length c0_0]] rfl (by (try simp only [List.map_toArray, List.map_cons, List.map_nil]); first | done | rfl | (simp only [List.length_drop, List.length_take]; rfl)) ?_; (with_reducible refine (mizmazetop_valid.calls k _ _ l0_0 false _ ?side1 ?side2 A6.out).mono ?_); (case side1 => repeat (first | exact (Kd.C_below HR0_0.out HB.out) | (with_reducible refine Kd.C_alloc ?_ _) | (with_reducible refine Kd.C_drewN ?_ _) | (with_reducible refine Kd.C_drew ?_))); (case side2 => exact HC0_0.out); rintro e w162 ⟨rfl, hb⟩; refine ⟨_, rfl, ?_⟩; have n0_ := Aside0.mk (Kd.R_below (by (with_reducible repeat (first | apply Kd.R_alloc | apply Kd.R_drewN | apply Kd.R_drew)); exact HO915.out) hb); have n1_ := Aside0.mk (Kd.R_below (by (with_reducible repeat (first | apply Kd.R_alloc | apply Kd.R_drewN | apply Kd.R_drew)); exact HO919.out) hb); have n2_ := Aside0.mk (blk_below (g := gb912) (o := .cells #[.slice A0_0 l0_0.length c0_0] 24 (0, 0)) (by (with_reducible repeat (first | refine blk_drewN ?_ _ | refine blk_drew ?_ | refine blk_alloc ?_ _)); exact BK912.out) hb); have n3_ := Aside0.mk (below_step (by repeat (first | (with_reducible first | exact HB.out | apply below_alloc | apply pw_below_drewN | apply below_drew1 | refine below_set ?_ GE912.out) | exact HB.out)) hb); clear HO915; clear HO919; clear BK912; clear HB; have HO915 := n0_; have HO919 := n1_; have BK912 := n2_; have HB := n3_; clear n0_ n1_ n2_ n3_; (try clear hb); (try clear hb2); (try clear hk); (try clear hi)))
   go_ret
   exact ⟨by first | rfl | (simp [errW_none, errW_some] <;> rfl) | (simp [*, errW_none, errW_some] <;> rfl), by repeat (first | (with_reducible first | exact HB.out | apply below_alloc | apply pw_below_drewN | apply below_drew1 | refine below_set ?_ GE912.out) | exact HB.out)⟩
  rw [if_pos c146] at H
  have c146b0 : (t920 == 1) = true := beq_iff_eq.mpr c146
  have c146b1 : (t920 != 1) = false := bne_eq_false_iff_eq.mpr c146
  clear c146
  replace H := Option.bind_eq_some_iff.mp H
  obtain ⟨t922, A1470, H⟩ := H
  replace H : (some t922) = some r := H
  have A147 := Aside0.mk A1470
  clear A1470
  obtain rfl := Option.some.inj H
  go_enter Try.func7, Try.ntmps7
  go_wp2_with (first | ((with_reducible refine gate_dst (N := 3) rfl ?_); (try (refine gate_guard (by rfl) ?_; dsimp only)); refine box_event ?hg (N := 3) ?hd (cs := #[.slice A0_0 l0_0.length c0_0]) (t := 24) ?hr ?_; (case hd => rfl); (case hg => rfl); (case hr => first | (go_simp; done) | (go_simp; rfl)); intro gb912 hg w148 hbox hb; have n0_ := Aside0.mk (below_step (by repeat (first | (with_reducible first | exact HB.out | apply below_alloc | apply pw_below_drewN | apply below_drew1) | exact HB.out)) hb); have n1_ := Aside0.mk (hbox); have n2_ := Aside0.mk ((by rw [hg]; exact (below_size (by repeat (first | (with_reducible first | exact HB.out | apply below_alloc | apply pw_below_drewN | apply below_drew1) | exact HB.out))) : w.heap.size ≤ gb912)); have n3_ := Aside0.mk ((by rw [hg]; exact (below_size (by repeat (first | (with_reducible first | exact HB.out | apply below_alloc | apply pw_below_drewN | apply below_drew1) | exact HB.out))) : w.heap.size ≤ gb912)); clear HB; have HB := n0_; have BK912 := n1_; have GW912 := n2_; have GE912 := n3_; clear n0_ n1_ n2_ n3_; clear hb hbox hg; have hcz149_0 : w148.cell? ⟨gb912, 0, none⟩ = some (.slice A0_0 l0_0.length c0_0) := (blk_cell BK912.out 0).trans rfl; have hfz149_0 := blk_frozen BK912.out 0) | ((with_reducible refine gate_callee (f := 29) rfl ?_); refine goesL_ (some 17) rfl rfl Try.func29 (by kernel_rfl) rfl #[.agg #[.slice A0_0 l0_0.length c0_0]] rfl (by (try simp only [List.map_toArray, List.map_cons, List.map_nil]); first | done | rfl | (simp only [List.length_drop, List.length_take]; rfl)) ?_; (with_reducible refine (reset_Reset.calls k _ _ l0_0 t913 t916 _ ?side1 ?side2 A4.out).mono ?_); (case side1 => repeat (first | exact (Kd.C_below HR0_0.out HB.out) | (with_reducible refine Kd.C_alloc ?_ _) | (with_reducible refine Kd.C_drewN ?_ _) | (with_reducible refine Kd.C_drew ?_))); (case side2 => exact HC0_0.out); rintro e w150 ⟨v914, rfl, ho0, hb⟩; refine ⟨_, rfl, ?_⟩; have n0_ := Aside0.mk (Kd.R_lower ho0 (below_size (by repeat (first | (with_reducible first | exact HB.out | apply below_alloc | apply pw_below_drewN | apply below_drew1 | refine below_set ?_ GE912.out) | exact HB.out)))); have n1_ := Aside0.mk (blk_below (g := gb912) (o := .cells #[.slice A0_0 l0_0.length c0_0] 24 (0, 0)) (by (with_reducible repeat (first | refine blk_drewN ?_ _ | refine blk_drew ?_ | refine blk_alloc ?_ _)); exact BK912.out) hb); have n2_ := Aside0.mk (below_step (by repeat (first | (with_reducible first | exact HB.out | apply below_alloc | apply pw_below_drewN | apply below_drew1 | refine below_set ?_ GE912.out) | exact HB.out)) hb); clear BK912; clear HB; have HO915 := n0_; have BK912 := n1_; have HB := n2_; clear n0_ n1_ n2_; (try clear hb); (try clear hb2); (try clear hk); (try clear hi); (try clear ho0); have hcz151_0 : w150.cell? ⟨gb912, 0, none⟩ = some (.slice A0_0 l0_0.length c0_0) := (blk_cell BK912.out 0).trans rfl; have hfz151_0 := blk_frozen BK912.out 0) | ((with_reducible refine gate_callee (f := 30) rfl ?_); refine goesL_ (some 22) rfl rfl Try.func30 (by kernel_rfl) rfl #[.agg #[.slice A0_0 l0_0.length c0_0]] rfl (by (try simp only [List.map_toArray, List.map_cons, List.map_nil]); first | done | rfl | (simp only [List.length_drop, List.length_take]; rfl)) ?_; (with_reducible refine (reset_Apart.calls k _ _ l0_0 t917 t920 _ ?side1 ?side2 A5.out).mono ?_); (case side1 => repeat (first | exact (Kd.C_below HR0_0.out HB.out) | (with_reducible refine Kd.C_alloc ?_ _) | (with_reducible refine Kd.C_drewN ?_ _) | (with_reducible refine Kd.C_drew ?_))); (case side2 => exact HC0_0.out); rintro e w152 ⟨v918, rfl, ho0, hb⟩; refine ⟨_, rfl, ?_⟩; have n0_ := Aside0.mk (Kd.R_below (by (with_reducible repeat (first | apply Kd.R_alloc | apply Kd.R_drewN | apply Kd.R_drew)); exact HO915.out) hb); have n1_ := Aside0.mk (Kd.R_lower ho0 (below_size (by repeat (first | (with_reducible first | exact HB.out | apply below_alloc | apply pw_below_drewN | apply below_drew1 | refine below_set ?_ GE912.out) | exact HB.out)))); have n2_ := Aside0.mk (blk_below (g := gb912) (o := .cells #[.slice A0_0 l0_0.length c0_0] 24 (0, 0)) (by (with_reducible repeat (first | refine blk_drewN ?_ _ | refine blk_drew ?_ | refine blk_alloc ?_ _)); exact BK912.out) hb); have n3_ := Aside0.mk (below_step (by repeat (first | (with_reducible first | exact HB.out | apply below_alloc | apply pw_below_drewN | apply below_drew1 | refine below_set ?_ GE912.out) | exact HB.out)) hb); clear HO915; clear BK912; clear HB; have HO915 := n0_; have HO919 := n1_; have BK912 := n2_; have HB := n3_; clear n0_ n1_ n2_ n3_; (try clear hb); (try clear hb2); (try clear hk); (try clear hi); (try clear ho0); have hcz153_0 : w152.cell? ⟨gb912, 0, none⟩ = some (.slice A0_0 l0_0.length c0_0) := (blk_cell BK912.out 0).trans rfl; have hfz153_0 := blk_frozen BK912.out 0) | ((with_reducible refine gate_callee (f := 26) rfl ?_); refine goesL_ (some 26) rfl rfl Try.func26 (by kernel_rfl) rfl #[.agg #[.slice A0_0 l0_0.length c0_0]] rfl (by (try simp only [List.map_toArray, List.map_cons, List.map_nil]); first | done | rfl | (simp only [List.length_drop, List.length_take]; rfl)) ?_; (with_reducible refine (mizmazetop_valid.calls k _ _ l0_0 false _ ?side1 ?side2 A6.out).mono ?_); (case side1 => repeat (first | exact (Kd.C_below HR0_0.out HB.out) | (with_reducible refine Kd.C_alloc ?_ _) | (with_reducible refine Kd.C_drewN ?_ _) | (with_reducible refine Kd.C_drew ?_))); (case side2 => exact HC0_0.out); rintro e w154 ⟨rfl, hb⟩; refine ⟨_, rfl, ?_⟩; have n0_ := Aside0.mk (Kd.R_below (by (with_reducible repeat (first | apply Kd.R_alloc | apply Kd.R_drewN | apply Kd.R_drew)); exact HO915.out) hb); have n1_ := Aside0.mk (Kd.R_below (by (with_reducible repeat (first | apply Kd.R_alloc | apply Kd.R_drewN | apply Kd.R_drew)); exact HO919.out) hb); have n2_ := Aside0.mk (blk_below (g := gb912) (o := .cells #[.slice A0_0 l0_0.length c0_0] 24 (0, 0)) (by (with_reducible repeat (first | refine blk_drewN ?_ _ | refine blk_drew ?_ | refine blk_alloc ?_ _)); exact BK912.out) hb); have n3_ := Aside0.mk (below_step (by repeat (first | (with_reducible first | exact HB.out | apply below_alloc | apply pw_below_drewN | apply below_drew1 | refine below_set ?_ GE912.out) | exact HB.out)) hb); clear HO915; clear HO919; clear BK912; clear HB; have HO915 := n0_; have HO919 := n1_; have BK912 := n2_; have HB := n3_; clear n0_ n1_ n2_ n3_; (try clear hb); (try clear hb2); (try clear hk); (try clear hi)) | (go_at_call 31; (with_reducible refine (mizmazetop_homes.calls k  t922 _ A147.out).mono ?_); rintro e w155 ⟨rfl, hb⟩; have n0_ := Aside0.mk (Kd.R_below (by (with_reducible repeat (first | apply Kd.R_alloc | apply Kd.R_drewN | apply Kd.R_drew)); exact HO915.out) hb); have n1_ := Aside0.mk (Kd.R_below (by (with_reducible repeat (first | apply Kd.R_alloc | apply Kd.R_drewN | apply Kd.R_drew)); exact HO919.out) hb); have n2_ := Aside0.mk (blk_below (g := gb912) (o := .cells #[.slice A0_0 l0_0.length c0_0] 24 (0, 0)) (by (with_reducible repeat (first | refine blk_drewN ?_ _ | refine blk_drew ?_ | refine blk_alloc ?_ _)); exact BK912.out) hb); have n3_ := Aside0.mk (below_step (by repeat (first | (with_reducible first | exact HB.out | apply below_alloc | apply pw_below_drewN | apply below_drew1 | refine below_set ?_ GE912.out) | exact HB.out)) hb); clear HO915; clear HO919; clear BK912; clear HB; have HO915 := n0_; have HO919 := n1_; have BK912 := n2_; have HB := n3_; clear n0_ n1_ n2_ n3_; (try clear hb); (try clear hb2); (try clear hk); (try clear hi)))
  go_ret
  exact ⟨by first | rfl | (simp [errW_none, errW_some] <;> rfl) | (simp [*, errW_none, errW_some] <;> rfl), by repeat (first | (with_reducible first | exact HB.out | apply below_alloc | apply pw_below_drewN | apply below_drew1 | refine below_set ?_ GE912.out) | exact HB.out)⟩
 subst c7
 have H1 : ((mizmazetop_proper.f k l0_0 l1).bind fun t923 => ((mizmazetop_proper.f k l0_0 l2).bind fun t926 => (if t920 = 0 then (if ((t916 == 0) != ((t917.length : Int) == 0)) = true then (mizmazetop_TopHome.j0 k t923 t926 t913 t916 t917 (l0_0.length : Int) true l0_0) else (if t916 = 0 then (mizmazetop_TopHome.j0 k t923 t926 t913 t916 t917 (l0_0.length : Int) false l0_0) else (mizmazetop_TopHome.j0 k t923 t926 t913 t916 t917 (l0_0.length : Int) (t916 != 4) l0_0))) else (mizmazetop_TopHome.j0 k t923 t926 t913 t916 t917 (l0_0.length : Int) true l0_0)))) = some r := by rw [if_pos rfl] at H; exact H
 clear H
 have H := H1
 clear H1
 replace H := Option.bind_eq_some_iff.mp H
 obtain ⟨t923, A80, H⟩ := H
 replace H : ((mizmazetop_proper.f k l0_0 l2).bind fun t926 => (if t920 = 0 then (if ((t916 == 0) != ((t917.length : Int) == 0)) = true then (mizmazetop_TopHome.j0 k t923 t926 t913 t916 t917 (l0_0.length : Int) true l0_0) else (if t916 = 0 then (mizmazetop_TopHome.j0 k t923 t926 t913 t916 t917 (l0_0.length : Int) false l0_0) else (mizmazetop_TopHome.j0 k t923 t926 t913 t916 t917 (l0_0.length : Int) (t916 != 4) l0_0))) else (mizmazetop_TopHome.j0 k t923 t926 t913 t916 t917 (l0_0.length : Int) true l0_0))) = some r := H
 have A8 := Aside0.mk A80
 clear A80
 replace H := Option.bind_eq_some_iff.mp H
 obtain ⟨t926, A90, H⟩ := H
 replace H : (if t920 = 0 then (if ((t916 == 0) != ((t917.length : Int) == 0)) = true then (mizmazetop_TopHome.j0 k t923 t926 t913 t916 t917 (l0_0.length : Int) true l0_0) else (if t916 = 0 then (mizmazetop_TopHome.j0 k t923 t926 t913 t916 t917 (l0_0.length : Int) false l0_0) else (mizmazetop_TopHome.j0 k t923 t926 t913 t916 t917 (l0_0.length : Int) (t916 != 4) l0_0))) else (mizmazetop_TopHome.j0 k t923 t926 t913 t916 t917 (l0_0.length : Int) true l0_0)) = some r := H
 have A9 := Aside0.mk A90
 clear A90
 have HC10 := Aside0.mk H
 clear H
 go_enter Try.func7, Try.ntmps7
 try go_wp2_with (first | ((with_reducible refine gate_dst (N := 3) rfl ?_); (try (refine gate_guard (by rfl) ?_; dsimp only)); refine box_event ?hg (N := 3) ?hd (cs := #[.slice A0_0 l0_0.length c0_0]) (t := 24) ?hr ?_; (case hd => rfl); (case hg => rfl); (case hr => first | (go_simp; done) | (go_simp; rfl)); intro gb912 hg w11 hbox hb; have n0_ := Aside0.mk (below_step (by repeat (first | (with_reducible first | exact HB.out | apply below_alloc | apply pw_below_drewN | apply below_drew1) | exact HB.out)) hb); have n1_ := Aside0.mk (hbox); have n2_ := Aside0.mk ((by rw [hg]; exact (below_size (by repeat (first | (with_reducible first | exact HB.out | apply below_alloc | apply pw_below_drewN | apply below_drew1) | exact HB.out))) : w.heap.size ≤ gb912)); have n3_ := Aside0.mk ((by rw [hg]; exact (below_size (by repeat (first | (with_reducible first | exact HB.out | apply below_alloc | apply pw_below_drewN | apply below_drew1) | exact HB.out))) : w.heap.size ≤ gb912)); clear HB; have HB := n0_; have BK912 := n1_; have GW912 := n2_; have GE912 := n3_; clear n0_ n1_ n2_ n3_; clear hb hbox hg; have hcz12_0 : w11.cell? ⟨gb912, 0, none⟩ = some (.slice A0_0 l0_0.length c0_0) := (blk_cell BK912.out 0).trans rfl; have hfz12_0 := blk_frozen BK912.out 0) | ((with_reducible refine gate_callee (f := 29) rfl ?_); refine goesL_ (some 17) rfl rfl Try.func29 (by kernel_rfl) rfl #[.agg #[.slice A0_0 l0_0.length c0_0]] rfl (by (try simp only [List.map_toArray, List.map_cons, List.map_nil]); first | done | rfl | (simp only [List.length_drop, List.length_take]; rfl)) ?_; (with_reducible refine (reset_Reset.calls k _ _ l0_0 t913 t916 _ ?side1 ?side2 A4.out).mono ?_); (case side1 => repeat (first | exact (Kd.C_below HR0_0.out HB.out) | (with_reducible refine Kd.C_alloc ?_ _) | (with_reducible refine Kd.C_drewN ?_ _) | (with_reducible refine Kd.C_drew ?_))); (case side2 => exact HC0_0.out); rintro e w13 ⟨v914, rfl, ho0, hb⟩; refine ⟨_, rfl, ?_⟩; have n0_ := Aside0.mk (Kd.R_lower ho0 (below_size (by repeat (first | (with_reducible first | exact HB.out | apply below_alloc | apply pw_below_drewN | apply below_drew1 | refine below_set ?_ GE912.out) | exact HB.out)))); have n1_ := Aside0.mk (blk_below (g := gb912) (o := .cells #[.slice A0_0 l0_0.length c0_0] 24 (0, 0)) (by (with_reducible repeat (first | refine blk_drewN ?_ _ | refine blk_drew ?_ | refine blk_alloc ?_ _)); exact BK912.out) hb); have n2_ := Aside0.mk (below_step (by repeat (first | (with_reducible first | exact HB.out | apply below_alloc | apply pw_below_drewN | apply below_drew1 | refine below_set ?_ GE912.out) | exact HB.out)) hb); clear BK912; clear HB; have HO915 := n0_; have BK912 := n1_; have HB := n2_; clear n0_ n1_ n2_; (try clear hb); (try clear hb2); (try clear hk); (try clear hi); (try clear ho0); have hcz14_0 : w13.cell? ⟨gb912, 0, none⟩ = some (.slice A0_0 l0_0.length c0_0) := (blk_cell BK912.out 0).trans rfl; have hfz14_0 := blk_frozen BK912.out 0) | ((with_reducible refine gate_callee (f := 30) rfl ?_); refine goesL_ (some 22) rfl rfl Try.func30 (by kernel_rfl) rfl #[.agg #[.slice A0_0 l0_0.length c0_0]] rfl (by (try simp only [List.map_toArray, List.map_cons, List.map_nil]); first | done | rfl | (simp only [List.length_drop, List.length_take]; rfl)) ?_; (with_reducible refine (reset_Apart.calls k _ _ l0_0 t917 t920 _ ?side1 ?side2 A5.out).mono ?_); (case side1 => repeat (first | exact (Kd.C_below HR0_0.out HB.out) | (with_reducible refine Kd.C_alloc ?_ _) | (with_reducible refine Kd.C_drewN ?_ _) | (with_reducible refine Kd.C_drew ?_))); (case side2 => exact HC0_0.out); rintro e w15 ⟨v918, rfl, ho0, hb⟩; refine ⟨_, rfl, ?_⟩; have n0_ := Aside0.mk (Kd.R_below (by (with_reducible repeat (first | apply Kd.R_alloc | apply Kd.R_drewN | apply Kd.R_drew)); exact HO915.out) hb); have n1_ := Aside0.mk (Kd.R_lower ho0 (below_size (by repeat (first | (with_reducible first | exact HB.out | apply below_alloc | apply pw_below_drewN | apply below_drew1 | refine below_set ?_ GE912.out) | exact HB.out)))); have n2_ := Aside0.mk (blk_below (g := gb912) (o := .cells #[.slice A0_0 l0_0.length c0_0] 24 (0, 0)) (by (with_reducible repeat (first | refine blk_drewN ?_ _ | refine blk_drew ?_ | refine blk_alloc ?_ _)); exact BK912.out) hb); have n3_ := Aside0.mk (below_step (by repeat (first | (with_reducible first | exact HB.out | apply below_alloc | apply pw_below_drewN | apply below_drew1 | refine below_set ?_ GE912.out) | exact HB.out)) hb); clear HO915; clear BK912; clear HB; have HO915 := n0_; have HO919 := n1_; have BK912 := n2_; have HB := n3_; clear n0_ n1_ n2_ n3_; (try clear hb); (try clear hb2); (try clear hk); (try clear hi); (try clear ho0); have hcz16_0 : w15.cell? ⟨gb912, 0, none⟩ = some (.slice A0_0 l0_0.length c0_0) := (blk_cell BK912.out 0).trans rfl; have hfz16_0 := blk_frozen BK912.out 0) | ((with_reducible refine gate_callee (f := 26) rfl ?_); refine goesL_ (some 26) rfl rfl Try.func26 (by kernel_rfl) rfl #[.agg #[.slice A0_0 l0_0.length c0_0]] rfl (by (try simp only [List.map_toArray, List.map_cons, List.map_nil]); first | done | rfl | (simp only [List.length_drop, List.length_take]; rfl)) ?_; (with_reducible refine (mizmazetop_valid.calls k _ _ l0_0 true _ ?side1 ?side2 A6.out).mono ?_); (case side1 => repeat (first | exact (Kd.C_below HR0_0.out HB.out) | (with_reducible refine Kd.C_alloc ?_ _) | (with_reducible refine Kd.C_drewN ?_ _) | (with_reducible refine Kd.C_drew ?_))); (case side2 => exact HC0_0.out); rintro e w17 ⟨rfl, hb⟩; refine ⟨_, rfl, ?_⟩; have n0_ := Aside0.mk (Kd.R_below (by (with_reducible repeat (first | apply Kd.R_alloc | apply Kd.R_drewN | apply Kd.R_drew)); exact HO915.out) hb); have n1_ := Aside0.mk (Kd.R_below (by (with_reducible repeat (first | apply Kd.R_alloc | apply Kd.R_drewN | apply Kd.R_drew)); exact HO919.out) hb); have n2_ := Aside0.mk (blk_below (g := gb912) (o := .cells #[.slice A0_0 l0_0.length c0_0] 24 (0, 0)) (by (with_reducible repeat (first | refine blk_drewN ?_ _ | refine blk_drew ?_ | refine blk_alloc ?_ _)); exact BK912.out) hb); have n3_ := Aside0.mk (below_step (by repeat (first | (with_reducible first | exact HB.out | apply below_alloc | apply pw_below_drewN | apply below_drew1 | refine below_set ?_ GE912.out) | exact HB.out)) hb); clear HO915; clear HO919; clear BK912; clear HB; have HO915 := n0_; have HO919 := n1_; have BK912 := n2_; have HB := n3_; clear n0_ n1_ n2_ n3_; (try clear hb); (try clear hb2); (try clear hk); (try clear hi); have hcz18_0 : w17.cell? ⟨gb912, 0, none⟩ = some (.slice A0_0 l0_0.length c0_0) := (blk_cell BK912.out 0).trans rfl; have hfz18_0 := blk_frozen BK912.out 0))
 replace HO915 := Aside0.mk (Kd.R_drew HO915.out)
 replace HO919 := Aside0.mk (Kd.R_drew HO919.out)
 replace BK912 := Aside0.mk (blk_drew BK912.out)
 replace HB := Aside0.mk (below_drew1 HB.out)
 refine start_ (n := 8) (S := fun w' => w'.cell? ⟨gb912, 0, none⟩ = some (.slice A0_0 l0_0.length c0_0)) (ds := []) #[false, false, false, false, false, false, false, false] (by kernel_rfl) rfl rfl ((blk_cell BK912.out 0).trans rfl) (fun hHeld => ?_); refine with_tabW mizmazetop_TopHome.tab6 mizmazetop_TopHome.bits6 (fun HT_ HW_ => ?_)
 generalize w17.drew = w19 at HO915 HO919 BK912 HB hHeld ⊢
 refine pv_ 1 41 tth0 HT_ ?_
 refine pv_ 4 44 tth1 HT_ ?_
 refine tv_ 0 40 tth2 HT_ HW_ hHeld ?_
 refine tv_ 3 43 tth3 HT_ HW_ hHeld ?_
 refine one_ (i := 2) (N := some 42) tth4 rfl rfl (one_of HT_.out (by kernel_rfl)) (by decide) (fun K hK => ?_)
 refine goes_ Try.func32 (by kernel_rfl) rfl #[.agg #[.slice A0_0 l0_0.length c0_0], .slice A1 l1.length c1] (by rfl) rfl rfl (by (try simp only [List.map_toArray, List.map_cons, List.map_nil]); first | done | rfl | (simp only [List.length_drop, List.length_take]; rfl)) ?_
 with_reducible refine (mizmazetop_proper.calls k _ _ l0_0 _ _ l1 t923 _ ?side1 ?side2 ?side3 ?side4 A8.out).mono ?_
 (case side1 => repeat (first | exact (Kd.C_below HR0_0.out HB.out) | (with_reducible refine Kd.C_alloc ?_ _) | (with_reducible refine Kd.C_drewN ?_ _) | (with_reducible refine Kd.C_drew ?_)))
 (case side2 => exact HC0_0.out)
 (case side3 => repeat (first | exact (Kd.C_below HR1.out HB.out) | (with_reducible refine Kd.C_alloc ?_ _) | (with_reducible refine Kd.C_drewN ?_ _) | (with_reducible refine Kd.C_drew ?_)))
 (case side4 => exact HC1.out)
 rintro e w20 ⟨v924, rfl, ho0, hb⟩
 refine ⟨_, rfl, ?_⟩
 have n0_ := Aside0.mk (Kd.R_elder' HO915.out (Kd.R_base ho0) hb)
 have n1_ := Aside0.mk (Kd.R_below HO919.out hb)
 have n2_ := Aside0.mk (Kd.R_lower (Kd.R_new' ho0 (Kd.R_lt HO915.out)) (below_size HB.out))
 have n3_ := Aside0.mk (blk_below (g := gb912) (o := .cells #[.slice A0_0 l0_0.length c0_0] 24 (0, 0)) BK912.out hb)
 have n4_ := Aside0.mk (below_step HB.out hb)
 clear HO915
 clear HO919
 clear BK912
 clear HB
 have HO915 := n0_
 have HO919 := n1_
 have HO925 := n2_
 have BK912 := n3_
 have HB := n4_
 clear n0_ n1_ n2_ n3_ n4_
 (try clear hb)
 (try clear hb2)
 (try clear hk)
 (try clear hi)
 (try clear ho0)
 refine hK.out _ _ ((blk_cell BK912.out 0).trans rfl) (fun hHeld => ?_)
 clear hK K
 refine nm_ 42 ?_
 refine one_ (i := 5) (N := some 45) tth5 rfl rfl (one_of HT_.out (by kernel_rfl)) (by decide) (fun K hK => ?_)
 refine goes_ Try.func32 (by kernel_rfl) rfl #[.agg #[.slice A0_0 l0_0.length c0_0], .slice A2 l2.length c2] (by rfl) rfl rfl (by (try simp only [List.map_toArray, List.map_cons, List.map_nil]); first | done | rfl | (simp only [List.length_drop, List.length_take]; rfl)) ?_
 with_reducible refine (mizmazetop_proper.calls k _ _ l0_0 _ _ l2 t926 _ ?side1 ?side2 ?side3 ?side4 A9.out).mono ?_
 (case side1 => repeat (first | exact (Kd.C_below HR0_0.out HB.out) | (with_reducible refine Kd.C_alloc ?_ _) | (with_reducible refine Kd.C_drewN ?_ _) | (with_reducible refine Kd.C_drew ?_)))
 (case side2 => exact HC0_0.out)
 (case side3 => repeat (first | exact (Kd.C_below HR2.out HB.out) | (with_reducible refine Kd.C_alloc ?_ _) | (with_reducible refine Kd.C_drewN ?_ _) | (with_reducible refine Kd.C_drew ?_)))
 (case side4 => exact HC2.out)
 rintro e w21 ⟨v927, rfl, ho0, hb⟩
 refine ⟨_, rfl, ?_⟩
 have n0_ := Aside0.mk (Kd.R_elder' HO915.out (Kd.R_base ho0) hb)
 have n1_ := Aside0.mk (Kd.R_below HO919.out hb)
 have n2_ := Aside0.mk (Kd.R_elder' HO925.out (Kd.R_base ho0) hb)
 have n3_ := Aside0.mk (Kd.R_lower (Kd.R_new' (Kd.R_new' ho0 (Kd.R_lt HO915.out)) (Kd.R_lt HO925.out)) (below_size HB.out))
 have n4_ := Aside0.mk (blk_below (g := gb912) (o := .cells #[.slice A0_0 l0_0.length c0_0] 24 (0, 0)) BK912.out hb)
 have n5_ := Aside0.mk (below_step HB.out hb)
 clear HO915
 clear HO919
 clear HO925
 clear BK912
 clear HB
 have HO915 := n0_
 have HO919 := n1_
 have HO925 := n2_
 have HO928 := n3_
 have BK912 := n4_
 have HB := n5_
 clear n0_ n1_ n2_ n3_ n4_ n5_
 (try clear hb)
 (try clear hb2)
 (try clear hk)
 (try clear hi)
 (try clear ho0)
 refine hK.out _ _ ((blk_cell BK912.out 0).trans rfl) (fun hHeld => ?_)
 clear hK K
 refine nm_ 45 ?_
 refine pv_ 6 1 tth6 HT_ ?_
 refine pv_ 7 2 tth7 HT_ ?_
 refine done_ (done_of HT_.out (by kernel_rfl)) ?_
 go_upto_region 7 with (fail)
 go_cut [63] (fun v63 wc => ∃ (kq : Nat) (x63_9 : Bool), v63 = .bool x63_9 ∧ Aside0 (mizmazetop_TopHome.j0 kq t923 t926 t913 t916 t917 (l0_0.length : Int) x63_9 l0_0 = some r) ∧ Aside0 (kq ≤ k) ∧ Aside0 (Kd.R (Kd.int .i64) 3 wc w.heap.size (fun k_ => some k_ ≠ (v927 : Value).ownBlock ∧ some k_ ≠ (v914 : Value).ownBlock) v924 t923) ∧ Aside0 (Kd.R (Kd.int .i64) 3 wc w.heap.size (fun k_ => some k_ ≠ (v924 : Value).ownBlock ∧ some k_ ≠ (v914 : Value).ownBlock) v927 t926) ∧ Aside0 (Kd.R (Kd.int .i64) 3 wc w.heap.size (fun k_ => some k_ ≠ (v924 : Value).ownBlock ∧ some k_ ≠ (v927 : Value).ownBlock) v914 t913) ∧ Aside0 (Kd.R k49 49 wc w.heap.size (fun _ => True) v918 t917) ∧ Aside0 (wc.heap[gb912]? = some (.cells #[(.slice A0_0 l0_0.length c0_0)] 24 (0, 0))) ∧ Aside0 (Below w.heap.size w wc))
 case first =>
  have H := HC10.out
  clear HC10
  by_cases c22 : t920 = 0
  rotate_left
  ·rw [if_neg c22] at H
   have c22b0 : (t920 == 0) = false := beq_eq_false_iff_ne.mpr c22
   have c22b1 : (t920 != 0) = true := bne_iff_ne.mpr c22
   (first | rw [c22b0] | (simp only [i64_w, i32_w]; rw [c22b0]) | skip)
   have H' := Aside0.mk H
   clear H
   go_wp2
   go_meet
   case rel => exact ⟨_, (true), (by first | rfl | (simp; done) | (simp [*]; done)), H', ⟨by first | omega | exact Nat.le_refl _⟩, ⟨by (with_reducible repeat (first | apply Kd.R_alloc | apply Kd.R_drewN | apply Kd.R_drew)); exact Kd.R_mono HO925.out (fun _ hk => ⟨hk.2, hk.1.2⟩)⟩, ⟨by (with_reducible repeat (first | apply Kd.R_alloc | apply Kd.R_drewN | apply Kd.R_drew)); exact Kd.R_mono HO928.out (fun _ hk => ⟨hk.2, hk.1.2⟩)⟩, ⟨by (with_reducible repeat (first | apply Kd.R_alloc | apply Kd.R_drewN | apply Kd.R_drew)); exact Kd.R_mono HO915.out (fun _ hk => ⟨hk.1.2, hk.2⟩)⟩, ⟨by (with_reducible repeat (first | apply Kd.R_alloc | apply Kd.R_drewN | apply Kd.R_drew)); exact HO919.out⟩, ⟨by (with_reducible repeat (first | refine blk_drewN ?_ _ | refine blk_drew ?_ | refine blk_alloc ?_ _)); exact BK912.out⟩, ⟨by repeat (first | (with_reducible first | exact HB.out | apply below_alloc | apply pw_below_drewN | apply below_drew1 | refine below_set ?_ GE912.out) | exact HB.out)⟩⟩
  rw [if_pos c22] at H
  have c22b0 : (t920 == 0) = true := beq_iff_eq.mpr c22
  have c22b1 : (t920 != 0) = false := bne_eq_false_iff_eq.mpr c22
  clear c22
  (first | rw [c22b0] | (simp only [i64_w, i32_w]; rw [c22b0]) | skip)
  by_cases c23 : ((t916 == 0) != ((t917.length : Int) == 0)) = true
  ·rw [if_pos c23] at H
   have c23b0 : ((t916 == 0) != ((t917.length : Int) == 0)) = true := c23
   (try (have c23b1 : decide ((t916 == 0) = ((t917.length : Int) == 0)) = false := by simpa using c23))
   (try (have c23b2 : ((t916 == 0) == ((t917.length : Int) == 0)) = false := by simpa using c23))
   (try (have c23b3 : ¬ ((t916 == 0) = ((t917.length : Int) == 0)) := by simpa using c23))
   clear c23
   have H' := Aside0.mk H
   clear H
   obtain ⟨Ao24, co24, eo24⟩ := Kd.R_slice HO919.out
   subst eo24
   go_wp2
   go_meet
   case rel => exact ⟨_, (true), (by first | rfl | (simp; done) | (simp [*]; done)), H', ⟨by first | omega | exact Nat.le_refl _⟩, ⟨by (with_reducible repeat (first | apply Kd.R_alloc | apply Kd.R_drewN | apply Kd.R_drew)); exact Kd.R_mono HO925.out (fun _ hk => ⟨hk.2, hk.1.2⟩)⟩, ⟨by (with_reducible repeat (first | apply Kd.R_alloc | apply Kd.R_drewN | apply Kd.R_drew)); exact Kd.R_mono HO928.out (fun _ hk => ⟨hk.2, hk.1.2⟩)⟩, ⟨by (with_reducible repeat (first | apply Kd.R_alloc | apply Kd.R_drewN | apply Kd.R_drew)); exact Kd.R_mono HO915.out (fun _ hk => ⟨hk.1.2, hk.2⟩)⟩, ⟨by (with_reducible repeat (first | apply Kd.R_alloc | apply Kd.R_drewN | apply Kd.R_drew)); exact HO919.out⟩, ⟨by (with_reducible repeat (first | refine blk_drewN ?_ _ | refine blk_drew ?_ | refine blk_alloc ?_ _)); exact BK912.out⟩, ⟨by repeat (first | (with_reducible first | exact HB.out | apply below_alloc | apply pw_below_drewN | apply below_drew1 | refine below_set ?_ GE912.out) | exact HB.out)⟩⟩
  rw [if_neg c23] at H
  have c23b0 : ((t916 == 0) != ((t917.length : Int) == 0)) = false := by simpa using c23
  (try (have c23b1 : decide ((t916 == 0) = ((t917.length : Int) == 0)) = true := by simpa using c23))
  (try (have c23b2 : ((t916 == 0) == ((t917.length : Int) == 0)) = true := by simpa using c23))
  clear c23
  by_cases c25 : t916 = 0
  rotate_left
  ·rw [if_neg c25] at H
   have c25b0 : (t916 == 0) = false := beq_eq_false_iff_ne.mpr c25
   have c25b1 : (t916 != 0) = true := bne_iff_ne.mpr c25
   have hlen_ : (((t917.length : Int) == 0)) = false := by rw [c25b0] at c23b0; revert c23b0; cases (((t917.length : Int) == 0)) <;> simp
   have hlen2_ : decide (t917.length = 0) = false := by rw [← hlen_]; by_cases h_ : t917.length = 0 <;> simp [h_]
   have hlen3_ : (t917.length == 0) = false := by rw [← hlen2_]; by_cases h_ : t917.length = 0 <;> simp [h_]
   have H' := Aside0.mk H
   clear H
   obtain ⟨Ao27, co27, eo27⟩ := Kd.R_slice HO919.out
   subst eo27
   go_wp2
   go_meet
   case rel => exact ⟨_, ((t916 != 4)), (by first | rfl | (simp; done) | (simp [*]; done)), H', ⟨by first | omega | exact Nat.le_refl _⟩, ⟨by (with_reducible repeat (first | apply Kd.R_alloc | apply Kd.R_drewN | apply Kd.R_drew)); exact Kd.R_mono HO925.out (fun _ hk => ⟨hk.2, hk.1.2⟩)⟩, ⟨by (with_reducible repeat (first | apply Kd.R_alloc | apply Kd.R_drewN | apply Kd.R_drew)); exact Kd.R_mono HO928.out (fun _ hk => ⟨hk.2, hk.1.2⟩)⟩, ⟨by (with_reducible repeat (first | apply Kd.R_alloc | apply Kd.R_drewN | apply Kd.R_drew)); exact Kd.R_mono HO915.out (fun _ hk => ⟨hk.1.2, hk.2⟩)⟩, ⟨by (with_reducible repeat (first | apply Kd.R_alloc | apply Kd.R_drewN | apply Kd.R_drew)); exact HO919.out⟩, ⟨by (with_reducible repeat (first | refine blk_drewN ?_ _ | refine blk_drew ?_ | refine blk_alloc ?_ _)); exact BK912.out⟩, ⟨by repeat (first | (with_reducible first | exact HB.out | apply below_alloc | apply pw_below_drewN | apply below_drew1 | refine below_set ?_ GE912.out) | exact HB.out)⟩⟩
  rw [if_pos c25] at H
  have c25b0 : (t916 == 0) = true := beq_iff_eq.mpr c25
  have c25b1 : (t916 != 0) = false := bne_eq_false_iff_eq.mpr c25
  have hlen_ : (((t917.length : Int) == 0)) = true := by rw [c25b0] at c23b0; revert c23b0; cases (((t917.length : Int) == 0)) <;> simp
  have hlen2_ : decide (t917.length = 0) = true := by rw [← hlen_]; by_cases h_ : t917.length = 0 <;> simp [h_]
  have hlen3_ : (t917.length == 0) = true := by rw [← hlen2_]; by_cases h_ : t917.length = 0 <;> simp [h_]
  clear c25
  have H' := Aside0.mk H
  clear H
  obtain ⟨Ao26, co26, eo26⟩ := Kd.R_slice HO919.out
  subst eo26
  go_wp2
  go_meet
  case rel => exact ⟨_, (false), (by first | rfl | (simp; done) | (simp [*]; done)), H', ⟨by first | omega | exact Nat.le_refl _⟩, ⟨by (with_reducible repeat (first | apply Kd.R_alloc | apply Kd.R_drewN | apply Kd.R_drew)); exact Kd.R_mono HO925.out (fun _ hk => ⟨hk.2, hk.1.2⟩)⟩, ⟨by (with_reducible repeat (first | apply Kd.R_alloc | apply Kd.R_drewN | apply Kd.R_drew)); exact Kd.R_mono HO928.out (fun _ hk => ⟨hk.2, hk.1.2⟩)⟩, ⟨by (with_reducible repeat (first | apply Kd.R_alloc | apply Kd.R_drewN | apply Kd.R_drew)); exact Kd.R_mono HO915.out (fun _ hk => ⟨hk.1.2, hk.2⟩)⟩, ⟨by (with_reducible repeat (first | apply Kd.R_alloc | apply Kd.R_drewN | apply Kd.R_drew)); exact HO919.out⟩, ⟨by (with_reducible repeat (first | refine blk_drewN ?_ _ | refine blk_drew ?_ | refine blk_alloc ?_ _)); exact BK912.out⟩, ⟨by repeat (first | (with_reducible first | exact HB.out | apply below_alloc | apply pw_below_drewN | apply below_drew1 | refine below_set ?_ GE912.out) | exact HB.out)⟩⟩
 case rest =>
  clear HC10
  try clear c1
  try clear c2
  try clear p2
  try clear c3
  try clear c7
  try clear c22
  try clear c22b0
  try clear c22b1
  try clear c23
  try clear c23b0
  try clear c23b1
  try clear c23b2
  try clear c25
  try clear c25b0
  try clear c25b1
  try clear c26
  try clear hcz12_0
  try clear hcz14_0
  try clear hcz16_0
  try clear hcz18_0
  try clear hfz12_0
  try clear hfz14_0
  try clear hfz16_0
  try clear hfz18_0
  obtain ⟨kq, x63_9, rfl, HA, HJ9, HO_1, HO_2, HO_7, HO_9, BK912, HB⟩ := hcut
  cases kq with
  | zero => exact absurd HA.out (by simp [mizmazetop_TopHome.j0])
  | succ kj9 =>
   have H := HA.out
   clear HA
   simp only [mizmazetop_TopHome.j0] at H
   by_cases c28 : x63_9 = true
   ·subst c28
    have H1 : (some false) = some r := by rw [if_pos rfl] at H; exact H
    clear H
    have H := H1
    clear H1
    obtain rfl := Option.some.inj H
    go_wp2
    go_ret
    exact ⟨by first | rfl | (simp [errW_none, errW_some] <;> rfl) | (simp [*, errW_none, errW_some] <;> rfl), by repeat (first | (with_reducible first | exact HB.out | apply below_alloc | apply pw_below_drewN | apply below_drew1 | refine below_set ?_ GE912.out) | exact HB.out)⟩
   replace c28 := Bool.eq_false_iff.mpr c28
   subst c28
   have H1 : (if t916 = 0 then ((mizmazetop_right.f kj9 l0_0 t913).bind fun t929 => (if t929 = true then (if (wrap64 (6 * (t913.length : Int))) ≤ (wrap64 ((wrap64 ((wrap64 ((l0_0.length : Int) * (l0_0.length : Int))) * (l0_0.length : Int))) - (l0_0.length : Int))) then ((mizmazetop_spread.f kj9 l0_0 t913).bind fun t930 => (if t930 = 1 then ((mizmazetop_joined.f kj9 (([t923, t913, t926] : List (List Int)))).bind fun t934 => ((mizmazetop_spread.f kj9 l0_0 t934).bind fun t937 => (if t937 = 1 then ((mizmazetop_homes.f kj9).bind fun t938 => (some t938)) else (some false)))) else (some false))) else (some false)) else (some false))) else (mizmazetop_TopHome.l0 kj9 t923 t926 t917 (l0_0.length : Int) 0 l0_0)) = some r := by rw [if_neg (show ¬ (false = true) by decide)] at H; exact H
   clear H
   have H := H1
   clear H1
   by_cases c29 : t916 = 0
   ·rw [if_pos c29] at H
    have c29b0 : (t916 == 0) = true := beq_iff_eq.mpr c29
    have c29b1 : (t916 != 0) = false := bne_eq_false_iff_eq.mpr c29
    clear c29
    replace H := Option.bind_eq_some_iff.mp H
    obtain ⟨t929, A300, H⟩ := H
    replace H : (if t929 = true then (if (wrap64 (6 * (t913.length : Int))) ≤ (wrap64 ((wrap64 ((wrap64 ((l0_0.length : Int) * (l0_0.length : Int))) * (l0_0.length : Int))) - (l0_0.length : Int))) then ((mizmazetop_spread.f kj9 l0_0 t913).bind fun t930 => (if t930 = 1 then ((mizmazetop_joined.f kj9 (([t923, t913, t926] : List (List Int)))).bind fun t934 => ((mizmazetop_spread.f kj9 l0_0 t934).bind fun t937 => (if t937 = 1 then ((mizmazetop_homes.f kj9).bind fun t938 => (some t938)) else (some false)))) else (some false))) else (some false)) else (some false)) = some r := H
    have A30 := Aside0.mk A300
    clear A300
    by_cases c31 : t929 = true
    rotate_left
    ·replace c31 := Bool.eq_false_iff.mpr c31
     subst c31
     have H1 : (some false) = some r := by rw [if_neg (show ¬ (false = true) by decide)] at H; exact H
     clear H
     have H := H1
     clear H1
     obtain rfl := Option.some.inj H
     try go_wp2
     replace HO_1 := Aside0.mk (Kd.R_drew HO_1.out)
     replace HO_2 := Aside0.mk (Kd.R_drew HO_2.out)
     replace HO_7 := Aside0.mk (Kd.R_drew HO_7.out)
     replace HO_9 := Aside0.mk (Kd.R_drew HO_9.out)
     replace BK912 := Aside0.mk (blk_drew BK912.out)
     replace HB := Aside0.mk (below_drew1 HB.out)
     obtain ⟨Ao72, co72, eo72⟩ := Kd.R_slice HO_7.out
     (first | subst eo72 | (injection eo72 with f1_ f2_ f3_; have f4_ := f1_.symm; have f5_ := f3_.symm; clear f1_ f2_ f3_; subst f4_; subst f5_))
     refine start_ (n := 36) (S := fun w' => w'.cell? ⟨gb912, 0, none⟩ = some (.slice A0_0 l0_0.length c0_0)) (ds := []) #[false, false, false, false, false, false, false, false, false, false, false, false, false, false, false, false, false, false, false, false, false, false, false, false, false, false, false, false, false, false, false, false, false, false, false, false] (by kernel_rfl) rfl rfl ((blk_cell BK912.out 0).trans rfl) (fun hHeld => ?_); refine with_tabW mizmazetop_TopHome.tab10 mizmazetop_TopHome.bits10 (fun HT_ HW_ => ?_)
     generalize wc.drew = w71 at HO_1 HO_2 HO_7 HO_9 BK912 HB hHeld ⊢
     refine pv_ 1 67 tth8 HT_ ?_
     refine tv_ 0 66 tth9 HT_ HW_ hHeld ?_
     refine one_ (i := 2) (N := some 68) tth10 rfl rfl (one_of HT_.out (by kernel_rfl)) (by decide) (fun K hK => ?_)
     refine goes_ Try.func33 (by kernel_rfl) rfl #[.agg #[.slice A0_0 l0_0.length c0_0], .slice Ao72 t913.length co72] (by rfl) rfl rfl (by (try simp only [List.map_toArray, List.map_cons, List.map_nil]); first | done | rfl | (simp only [List.length_drop, List.length_take]; rfl)) ?_
     with_reducible refine (mizmazetop_right.calls kj9 _ _ l0_0 _ _ t913 false _ ?side1 ?side2 ?side3 ?side4 A30.out).mono ?_
     (case side1 => repeat (first | exact (Kd.C_below HR0_0.out HB.out) | (with_reducible refine Kd.C_alloc ?_ _) | (with_reducible refine Kd.C_drewN ?_ _) | (with_reducible refine Kd.C_drew ?_)))
     (case side2 => exact HC0_0.out)
     (case side3 => repeat (first | exact (Kd.R_reads' HO_7.out).2.2 | (with_reducible refine Kd.C_alloc ?_ _) | (with_reducible refine Kd.C_drewN ?_ _) | (with_reducible refine Kd.C_drew ?_)))
     (case side4 => exact (Kd.R_reads' HO_7.out).2.1)
     rintro e w73 ⟨rfl, hb⟩
     refine ⟨_, rfl, ?_⟩
     replace HO_1 := Aside0.mk (Kd.R_below HO_1.out hb)
     replace HO_2 := Aside0.mk (Kd.R_below HO_2.out hb)
     replace HO_7 := Aside0.mk (Kd.R_below HO_7.out hb)
     replace HO_9 := Aside0.mk (Kd.R_below HO_9.out hb)
     replace BK912 := Aside0.mk (blk_below (g := gb912) (o := .cells #[.slice A0_0 l0_0.length c0_0] 24 (0, 0)) BK912.out hb)
     replace HB := Aside0.mk (below_step HB.out hb)
     (try clear hb)
     (try clear hb2)
     (try clear hk)
     (try clear hi)
     refine hK.out _ _ ((blk_cell BK912.out 0).trans rfl) (fun hHeld => ?_)
     clear hK K
     refine nm_ 68 ?_
     refine pv_ 3 69 tth11 HT_ ?_
     refine pu_ 4 70 tth12 HT_ ?_
     refine pu_ 5 71 tth13 HT_ ?_
     refine pu_ 6 72 tth14 HT_ ?_
     refine pu_ 7 73 tth15 HT_ ?_
     refine pu_ 8 74 tth16 HT_ ?_
     refine pu_ 9 75 tth17 HT_ ?_
     refine pu_ 10 76 tth18 HT_ ?_
     refine pu_ 11 77 tth19 HT_ ?_
     refine pu_ 12 78 tth20 HT_ ?_
     refine pu_ 13 79 tth21 HT_ ?_
     refine pu_ 14 80 tth22 HT_ ?_
     refine pv_ 15 81 tth23 HT_ ?_
     refine pv_ 16 82 tth24 HT_ ?_
     refine pu_ 17 83 tth47 HT_ ?_
     refine pu_ 18 84 tth26 HT_ ?_
     refine pu_ 19 85 tth27 HT_ ?_
     refine pu_ 20 86 tth28 HT_ ?_
     refine pv_ 21 87 tth29 HT_ ?_
     refine pv_ 22 88 tth30 HT_ ?_
     refine pu_ 23 89 tth44 HT_ ?_
     refine pu_ 24 90 tth45 HT_ ?_
     refine pu_ 25 91 tth46 HT_ ?_
     refine pu_ 26 92 tth34 HT_ ?_
     refine pu_ 27 93 tth35 HT_ ?_
     refine pu_ 28 94 tth36 HT_ ?_
     refine pu_ 29 95 tth37 HT_ ?_
     refine pu_ 30 96 tth38 HT_ ?_
     refine pv_ 31 97 tth39 HT_ ?_
     refine pv_ 32 98 tth40 HT_ ?_
     refine pu_ 33 99 tth41 HT_ ?_
     refine pv_ 34 100 tth42 HT_ ?_
     refine pv_ 35 6 tth43 HT_ ?_
     refine done_ (done_of HT_.out (by kernel_rfl)) ?_
     try go_wp2
     go_ret
     exact ⟨by first | rfl | (simp [errW_none, errW_some] <;> rfl) | (simp [*, errW_none, errW_some] <;> rfl), by repeat (first | (with_reducible first | exact HB.out | apply below_alloc | apply pw_below_drewN | apply below_drew1 | refine below_set ?_ GE912.out) | exact HB.out)⟩
    subst c31
    have H1 : (if (wrap64 (6 * (t913.length : Int))) ≤ (wrap64 ((wrap64 ((wrap64 ((l0_0.length : Int) * (l0_0.length : Int))) * (l0_0.length : Int))) - (l0_0.length : Int))) then ((mizmazetop_spread.f kj9 l0_0 t913).bind fun t930 => (if t930 = 1 then ((mizmazetop_joined.f kj9 (([t923, t913, t926] : List (List Int)))).bind fun t934 => ((mizmazetop_spread.f kj9 l0_0 t934).bind fun t937 => (if t937 = 1 then ((mizmazetop_homes.f kj9).bind fun t938 => (some t938)) else (some false)))) else (some false))) else (some false)) = some r := by rw [if_pos rfl] at H; exact H
    clear H
    have H := H1
    clear H1
    by_cases c32 : (wrap64 (6 * (t913.length : Int))) ≤ (wrap64 ((wrap64 ((wrap64 ((l0_0.length : Int) * (l0_0.length : Int))) * (l0_0.length : Int))) - (l0_0.length : Int)))
    rotate_left
    ·rw [if_neg c32] at H
     have c32b0 : decide ((wrap64 (6 * (t913.length : Int))) ≤ (wrap64 ((wrap64 ((wrap64 ((l0_0.length : Int) * (l0_0.length : Int))) * (l0_0.length : Int))) - (l0_0.length : Int)))) = false := decide_eq_false c32
     clear c32
     obtain rfl := Option.some.inj H
     try go_wp2
     replace HO_1 := Aside0.mk (Kd.R_drew HO_1.out)
     replace HO_2 := Aside0.mk (Kd.R_drew HO_2.out)
     replace HO_7 := Aside0.mk (Kd.R_drew HO_7.out)
     replace HO_9 := Aside0.mk (Kd.R_drew HO_9.out)
     replace BK912 := Aside0.mk (blk_drew BK912.out)
     replace HB := Aside0.mk (below_drew1 HB.out)
     obtain ⟨Ao69, co69, eo69⟩ := Kd.R_slice HO_7.out
     (first | subst eo69 | (injection eo69 with f1_ f2_ f3_; have f4_ := f1_.symm; have f5_ := f3_.symm; clear f1_ f2_ f3_; subst f4_; subst f5_))
     refine start_ (n := 36) (S := fun w' => w'.cell? ⟨gb912, 0, none⟩ = some (.slice A0_0 l0_0.length c0_0)) (ds := []) #[false, false, false, false, false, false, false, false, false, false, false, false, false, false, false, false, false, false, false, false, false, false, false, false, false, false, false, false, false, false, false, false, false, false, false, false] (by kernel_rfl) rfl rfl ((blk_cell BK912.out 0).trans rfl) (fun hHeld => ?_); refine with_tabW mizmazetop_TopHome.tab10 mizmazetop_TopHome.bits10 (fun HT_ HW_ => ?_)
     generalize wc.drew = w68 at HO_1 HO_2 HO_7 HO_9 BK912 HB hHeld ⊢
     refine pv_ 1 67 tth8 HT_ ?_
     refine tv_ 0 66 tth9 HT_ HW_ hHeld ?_
     refine one_ (i := 2) (N := some 68) tth10 rfl rfl (one_of HT_.out (by kernel_rfl)) (by decide) (fun K hK => ?_)
     refine goes_ Try.func33 (by kernel_rfl) rfl #[.agg #[.slice A0_0 l0_0.length c0_0], .slice Ao69 t913.length co69] (by rfl) rfl rfl (by (try simp only [List.map_toArray, List.map_cons, List.map_nil]); first | done | rfl | (simp only [List.length_drop, List.length_take]; rfl)) ?_
     with_reducible refine (mizmazetop_right.calls kj9 _ _ l0_0 _ _ t913 true _ ?side1 ?side2 ?side3 ?side4 A30.out).mono ?_
     (case side1 => repeat (first | exact (Kd.C_below HR0_0.out HB.out) | (with_reducible refine Kd.C_alloc ?_ _) | (with_reducible refine Kd.C_drewN ?_ _) | (with_reducible refine Kd.C_drew ?_)))
     (case side2 => exact HC0_0.out)
     (case side3 => repeat (first | exact (Kd.R_reads' HO_7.out).2.2 | (with_reducible refine Kd.C_alloc ?_ _) | (with_reducible refine Kd.C_drewN ?_ _) | (with_reducible refine Kd.C_drew ?_)))
     (case side4 => exact (Kd.R_reads' HO_7.out).2.1)
     rintro e w70 ⟨rfl, hb⟩
     refine ⟨_, rfl, ?_⟩
     replace HO_1 := Aside0.mk (Kd.R_below HO_1.out hb)
     replace HO_2 := Aside0.mk (Kd.R_below HO_2.out hb)
     replace HO_7 := Aside0.mk (Kd.R_below HO_7.out hb)
     replace HO_9 := Aside0.mk (Kd.R_below HO_9.out hb)
     replace BK912 := Aside0.mk (blk_below (g := gb912) (o := .cells #[.slice A0_0 l0_0.length c0_0] 24 (0, 0)) BK912.out hb)
     replace HB := Aside0.mk (below_step HB.out hb)
     (try clear hb)
     (try clear hb2)
     (try clear hk)
     (try clear hi)
     refine hK.out _ _ ((blk_cell BK912.out 0).trans rfl) (fun hHeld => ?_)
     clear hK K
     refine nm_ 68 ?_
     refine pv_ 3 69 tth11 HT_ ?_
     refine pv_ 4 70 tth12 HT_ ?_
     refine pv_ 5 71 tth13 HT_ ?_
     refine pv_ 6 72 tth14 HT_ ?_
     refine pv_ 7 73 tth15 HT_ ?_
     refine pv_ 8 74 tth16 HT_ ?_
     refine pv_ 9 75 tth17 HT_ ?_
     refine pv_ 10 76 tth18 HT_ ?_
     refine pv_ 11 77 tth19 HT_ ?_
     refine pv_ 12 78 tth20 HT_ ?_
     refine pv_ 13 79 tth21 HT_ ?_
     refine pv_ 14 80 tth22 HT_ ?_
     refine pv_ 15 81 tth23 HT_ ?_
     refine pv_ 16 82 tth24 HT_ ?_
     refine pu_ 17 83 tth47 HT_ ?_
     refine pu_ 18 84 tth26 HT_ ?_
     refine pu_ 19 85 tth27 HT_ ?_
     refine pu_ 20 86 tth28 HT_ ?_
     refine pv_ 21 87 tth29 HT_ ?_
     refine pv_ 22 88 tth30 HT_ ?_
     refine pu_ 23 89 tth44 HT_ ?_
     refine pu_ 24 90 tth45 HT_ ?_
     refine pu_ 25 91 tth46 HT_ ?_
     refine pu_ 26 92 tth34 HT_ ?_
     refine pu_ 27 93 tth35 HT_ ?_
     refine pu_ 28 94 tth36 HT_ ?_
     refine pu_ 29 95 tth37 HT_ ?_
     refine pu_ 30 96 tth38 HT_ ?_
     refine pv_ 31 97 tth39 HT_ ?_
     refine pv_ 32 98 tth40 HT_ ?_
     refine pu_ 33 99 tth41 HT_ ?_
     refine pv_ 34 100 tth42 HT_ ?_
     refine pv_ 35 6 tth43 HT_ ?_
     refine done_ (done_of HT_.out (by kernel_rfl)) ?_
     try go_wp2
     go_ret
     exact ⟨by first | rfl | (simp [errW_none, errW_some] <;> rfl) | (simp [*, errW_none, errW_some] <;> rfl), by repeat (first | (with_reducible first | exact HB.out | apply below_alloc | apply pw_below_drewN | apply below_drew1 | refine below_set ?_ GE912.out) | exact HB.out)⟩
    rw [if_pos c32] at H
    have c32b0 : decide ((wrap64 (6 * (t913.length : Int))) ≤ (wrap64 ((wrap64 ((wrap64 ((l0_0.length : Int) * (l0_0.length : Int))) * (l0_0.length : Int))) - (l0_0.length : Int)))) = true := decide_eq_true c32
    clear c32
    replace H := Option.bind_eq_some_iff.mp H
    obtain ⟨t930, A330, H⟩ := H
    replace H : (if t930 = 1 then ((mizmazetop_joined.f kj9 (([t923, t913, t926] : List (List Int)))).bind fun t934 => ((mizmazetop_spread.f kj9 l0_0 t934).bind fun t937 => (if t937 = 1 then ((mizmazetop_homes.f kj9).bind fun t938 => (some t938)) else (some false)))) else (some false)) = some r := H
    have A33 := Aside0.mk A330
    clear A330
    by_cases c34 : t930 = 1
    rotate_left
    ·rw [if_neg c34] at H
     have c34b0 : (t930 == 1) = false := beq_eq_false_iff_ne.mpr c34
     have c34b1 : (t930 != 1) = true := bne_iff_ne.mpr c34
     obtain rfl := Option.some.inj H
     try go_wp2
     replace HO_1 := Aside0.mk (Kd.R_drew HO_1.out)
     replace HO_2 := Aside0.mk (Kd.R_drew HO_2.out)
     replace HO_7 := Aside0.mk (Kd.R_drew HO_7.out)
     replace HO_9 := Aside0.mk (Kd.R_drew HO_9.out)
     replace BK912 := Aside0.mk (blk_drew BK912.out)
     replace HB := Aside0.mk (below_drew1 HB.out)
     obtain ⟨Ao65, co65, eo65⟩ := Kd.R_slice HO_7.out
     (first | subst eo65 | (injection eo65 with f1_ f2_ f3_; have f4_ := f1_.symm; have f5_ := f3_.symm; clear f1_ f2_ f3_; subst f4_; subst f5_))
     refine start_ (n := 36) (S := fun w' => w'.cell? ⟨gb912, 0, none⟩ = some (.slice A0_0 l0_0.length c0_0)) (ds := []) #[false, false, false, false, false, false, false, false, false, false, false, false, false, false, false, false, false, false, false, false, false, false, false, false, false, false, false, false, false, false, false, false, false, false, false, false] (by kernel_rfl) rfl rfl ((blk_cell BK912.out 0).trans rfl) (fun hHeld => ?_); refine with_tabW mizmazetop_TopHome.tab10 mizmazetop_TopHome.bits10 (fun HT_ HW_ => ?_)
     generalize wc.drew = w64 at HO_1 HO_2 HO_7 HO_9 BK912 HB hHeld ⊢
     refine pv_ 1 67 tth8 HT_ ?_
     refine tv_ 0 66 tth9 HT_ HW_ hHeld ?_
     refine one_ (i := 2) (N := some 68) tth10 rfl rfl (one_of HT_.out (by kernel_rfl)) (by decide) (fun K hK => ?_)
     refine goes_ Try.func33 (by kernel_rfl) rfl #[.agg #[.slice A0_0 l0_0.length c0_0], .slice Ao65 t913.length co65] (by rfl) rfl rfl (by (try simp only [List.map_toArray, List.map_cons, List.map_nil]); first | done | rfl | (simp only [List.length_drop, List.length_take]; rfl)) ?_
     with_reducible refine (mizmazetop_right.calls kj9 _ _ l0_0 _ _ t913 true _ ?side1 ?side2 ?side3 ?side4 A30.out).mono ?_
     (case side1 => repeat (first | exact (Kd.C_below HR0_0.out HB.out) | (with_reducible refine Kd.C_alloc ?_ _) | (with_reducible refine Kd.C_drewN ?_ _) | (with_reducible refine Kd.C_drew ?_)))
     (case side2 => exact HC0_0.out)
     (case side3 => repeat (first | exact (Kd.R_reads' HO_7.out).2.2 | (with_reducible refine Kd.C_alloc ?_ _) | (with_reducible refine Kd.C_drewN ?_ _) | (with_reducible refine Kd.C_drew ?_)))
     (case side4 => exact (Kd.R_reads' HO_7.out).2.1)
     rintro e w66 ⟨rfl, hb⟩
     refine ⟨_, rfl, ?_⟩
     replace HO_1 := Aside0.mk (Kd.R_below HO_1.out hb)
     replace HO_2 := Aside0.mk (Kd.R_below HO_2.out hb)
     replace HO_7 := Aside0.mk (Kd.R_below HO_7.out hb)
     replace HO_9 := Aside0.mk (Kd.R_below HO_9.out hb)
     replace BK912 := Aside0.mk (blk_below (g := gb912) (o := .cells #[.slice A0_0 l0_0.length c0_0] 24 (0, 0)) BK912.out hb)
     replace HB := Aside0.mk (below_step HB.out hb)
     (try clear hb)
     (try clear hb2)
     (try clear hk)
     (try clear hi)
     refine hK.out _ _ ((blk_cell BK912.out 0).trans rfl) (fun hHeld => ?_)
     clear hK K
     refine nm_ 68 ?_
     refine pv_ 3 69 tth11 HT_ ?_
     refine pv_ 4 70 tth12 HT_ ?_
     refine pv_ 5 71 tth13 HT_ ?_
     refine pv_ 6 72 tth14 HT_ ?_
     refine pv_ 7 73 tth15 HT_ ?_
     refine pv_ 8 74 tth16 HT_ ?_
     refine pv_ 9 75 tth17 HT_ ?_
     refine pv_ 10 76 tth18 HT_ ?_
     refine pv_ 11 77 tth19 HT_ ?_
     refine pv_ 12 78 tth20 HT_ ?_
     refine pv_ 13 79 tth21 HT_ ?_
     refine pv_ 14 80 tth22 HT_ ?_
     refine pv_ 15 81 tth23 HT_ ?_
     refine pv_ 16 82 tth24 HT_ ?_
     refine pv_ 18 84 tth25 HT_ ?_
     refine tv_ 17 83 tth26 HT_ HW_ hHeld ?_
     refine one_ (i := 19) (N := some 85) tth27 rfl rfl (one_of HT_.out (by kernel_rfl)) (by decide) (fun K hK => ?_)
     refine goes_ Try.func27 (by kernel_rfl) rfl #[.agg #[.slice A0_0 l0_0.length c0_0], .slice Ao65 t913.length co65] (by rfl) rfl rfl (by (try simp only [List.map_toArray, List.map_cons, List.map_nil]); first | done | rfl | (simp only [List.length_drop, List.length_take]; rfl)) ?_
     with_reducible refine (mizmazetop_spread.calls kj9 _ _ l0_0 _ _ t913 t930 _ ?side1 ?side2 ?side3 ?side4 A33.out).mono ?_
     (case side1 => repeat (first | exact (Kd.C_below HR0_0.out HB.out) | (with_reducible refine Kd.C_alloc ?_ _) | (with_reducible refine Kd.C_drewN ?_ _) | (with_reducible refine Kd.C_drew ?_)))
     (case side2 => exact HC0_0.out)
     (case side3 => repeat (first | exact (Kd.R_reads' HO_7.out).2.2 | (with_reducible refine Kd.C_alloc ?_ _) | (with_reducible refine Kd.C_drewN ?_ _) | (with_reducible refine Kd.C_drew ?_)))
     (case side4 => exact (Kd.R_reads' HO_7.out).2.1)
     rintro e w67 ⟨rfl, hb⟩
     refine ⟨_, rfl, ?_⟩
     replace HO_1 := Aside0.mk (Kd.R_below HO_1.out hb)
     replace HO_2 := Aside0.mk (Kd.R_below HO_2.out hb)
     replace HO_7 := Aside0.mk (Kd.R_below HO_7.out hb)
     replace HO_9 := Aside0.mk (Kd.R_below HO_9.out hb)
     replace BK912 := Aside0.mk (blk_below (g := gb912) (o := .cells #[.slice A0_0 l0_0.length c0_0] 24 (0, 0)) BK912.out hb)
     replace HB := Aside0.mk (below_step HB.out hb)
     (try clear hb)
     (try clear hb2)
     (try clear hk)
     (try clear hi)
     refine hK.out _ _ ((blk_cell BK912.out 0).trans rfl) (fun hHeld => ?_)
     clear hK K
     refine nm_ 85 ?_
     refine pv_ 20 86 tth28 HT_ ?_
     refine pv_ 21 87 tth29 HT_ ?_
     refine pv_ 22 88 tth30 HT_ ?_
     refine pu_ 23 89 tth44 HT_ ?_
     refine pu_ 24 90 tth45 HT_ ?_
     refine pu_ 25 91 tth46 HT_ ?_
     refine pu_ 26 92 tth34 HT_ ?_
     refine pu_ 27 93 tth35 HT_ ?_
     refine pu_ 28 94 tth36 HT_ ?_
     refine pu_ 29 95 tth37 HT_ ?_
     refine pu_ 30 96 tth38 HT_ ?_
     refine pv_ 31 97 tth39 HT_ ?_
     refine pv_ 32 98 tth40 HT_ ?_
     refine pu_ 33 99 tth41 HT_ ?_
     refine pv_ 34 100 tth42 HT_ ?_
     refine pv_ 35 6 tth43 HT_ ?_
     refine done_ (done_of HT_.out (by kernel_rfl)) ?_
     try go_wp2
     go_ret
     exact ⟨by first | rfl | (simp [errW_none, errW_some] <;> rfl) | (simp [*, errW_none, errW_some] <;> rfl), by repeat (first | (with_reducible first | exact HB.out | apply below_alloc | apply pw_below_drewN | apply below_drew1 | refine below_set ?_ GE912.out) | exact HB.out)⟩
    rw [if_pos c34] at H
    have c34b0 : (t930 == 1) = true := beq_iff_eq.mpr c34
    have c34b1 : (t930 != 1) = false := bne_eq_false_iff_eq.mpr c34
    clear c34
    obtain ⟨y931, hy931⟩ : ∃ y_ : List (List Int), y_ = (([t923, t913, t926] : List (List Int))) := ⟨_, rfl⟩
    replace H : ((mizmazetop_joined.f kj9 y931).bind fun t934 => ((mizmazetop_spread.f kj9 l0_0 t934).bind fun t937 => (if t937 = 1 then ((mizmazetop_homes.f kj9).bind fun t938 => (some t938)) else (some false)))) = some r := by first | (rw [hy931]; with_reducible exact H) | (have H2_ := (Option.bind_some _ _).symm.trans H; rw [hy931]; with_reducible exact H2_) | (have H2_ := (Option.bind_some _ _).symm.trans H; with_reducible exact H2_) | with_reducible exact H | (rw [hy931]; exact H) | exact H
    have Ny931 := Aside0.mk hy931
    clear hy931
    replace H := Option.bind_eq_some_iff.mp H
    obtain ⟨t934, A350, H⟩ := H
    replace H : ((mizmazetop_spread.f kj9 l0_0 t934).bind fun t937 => (if t937 = 1 then ((mizmazetop_homes.f kj9).bind fun t938 => (some t938)) else (some false))) = some r := H
    have A35 := Aside0.mk A350
    clear A350
    replace H := Option.bind_eq_some_iff.mp H
    obtain ⟨t937, A360, H⟩ := H
    replace H : (if t937 = 1 then ((mizmazetop_homes.f kj9).bind fun t938 => (some t938)) else (some false)) = some r := H
    have A36 := Aside0.mk A360
    clear A360
    by_cases c37 : t937 = 1
    rotate_left
    ·rw [if_neg c37] at H
     have c37b0 : (t937 == 1) = false := beq_eq_false_iff_ne.mpr c37
     have c37b1 : (t937 != 1) = true := bne_iff_ne.mpr c37
     obtain rfl := Option.some.inj H
     try go_wp2
     replace HO_1 := Aside0.mk (Kd.R_drew HO_1.out)
     replace HO_2 := Aside0.mk (Kd.R_drew HO_2.out)
     replace HO_7 := Aside0.mk (Kd.R_drew HO_7.out)
     replace HO_9 := Aside0.mk (Kd.R_drew HO_9.out)
     replace BK912 := Aside0.mk (blk_drew BK912.out)
     replace HB := Aside0.mk (below_drew1 HB.out)
     obtain ⟨Ao53, co53, eo53⟩ := Kd.R_slice HO_7.out
     (first | subst eo53 | (injection eo53 with f1_ f2_ f3_; have f4_ := f1_.symm; have f5_ := f3_.symm; clear f1_ f2_ f3_; subst f4_; subst f5_))
     refine start_ (n := 36) (S := fun w' => w'.cell? ⟨gb912, 0, none⟩ = some (.slice A0_0 l0_0.length c0_0)) (ds := []) #[false, false, false, false, false, false, false, false, false, false, false, false, false, false, false, false, false, false, false, false, false, false, false, false, false, false, false, false, false, false, false, false, false, false, false, false] (by kernel_rfl) rfl rfl ((blk_cell BK912.out 0).trans rfl) (fun hHeld => ?_); refine with_tabW mizmazetop_TopHome.tab10 mizmazetop_TopHome.bits10 (fun HT_ HW_ => ?_)
     generalize wc.drew = w52 at HO_1 HO_2 HO_7 HO_9 BK912 HB hHeld ⊢
     refine pv_ 1 67 tth8 HT_ ?_
     refine tv_ 0 66 tth9 HT_ HW_ hHeld ?_
     refine one_ (i := 2) (N := some 68) tth10 rfl rfl (one_of HT_.out (by kernel_rfl)) (by decide) (fun K hK => ?_)
     refine goes_ Try.func33 (by kernel_rfl) rfl #[.agg #[.slice A0_0 l0_0.length c0_0], .slice Ao53 t913.length co53] (by rfl) rfl rfl (by (try simp only [List.map_toArray, List.map_cons, List.map_nil]); first | done | rfl | (simp only [List.length_drop, List.length_take]; rfl)) ?_
     with_reducible refine (mizmazetop_right.calls kj9 _ _ l0_0 _ _ t913 true _ ?side1 ?side2 ?side3 ?side4 A30.out).mono ?_
     (case side1 => repeat (first | exact (Kd.C_below HR0_0.out HB.out) | (with_reducible refine Kd.C_alloc ?_ _) | (with_reducible refine Kd.C_drewN ?_ _) | (with_reducible refine Kd.C_drew ?_)))
     (case side2 => exact HC0_0.out)
     (case side3 => repeat (first | exact (Kd.R_reads' HO_7.out).2.2 | (with_reducible refine Kd.C_alloc ?_ _) | (with_reducible refine Kd.C_drewN ?_ _) | (with_reducible refine Kd.C_drew ?_)))
     (case side4 => exact (Kd.R_reads' HO_7.out).2.1)
     rintro e w54 ⟨rfl, hb⟩
     refine ⟨_, rfl, ?_⟩
     replace HO_1 := Aside0.mk (Kd.R_below HO_1.out hb)
     replace HO_2 := Aside0.mk (Kd.R_below HO_2.out hb)
     replace HO_7 := Aside0.mk (Kd.R_below HO_7.out hb)
     replace HO_9 := Aside0.mk (Kd.R_below HO_9.out hb)
     replace BK912 := Aside0.mk (blk_below (g := gb912) (o := .cells #[.slice A0_0 l0_0.length c0_0] 24 (0, 0)) BK912.out hb)
     replace HB := Aside0.mk (below_step HB.out hb)
     (try clear hb)
     (try clear hb2)
     (try clear hk)
     (try clear hi)
     refine hK.out _ _ ((blk_cell BK912.out 0).trans rfl) (fun hHeld => ?_)
     clear hK K
     refine nm_ 68 ?_
     refine pv_ 3 69 tth11 HT_ ?_
     refine pv_ 4 70 tth12 HT_ ?_
     refine pv_ 5 71 tth13 HT_ ?_
     refine pv_ 6 72 tth14 HT_ ?_
     refine pv_ 7 73 tth15 HT_ ?_
     refine pv_ 8 74 tth16 HT_ ?_
     refine pv_ 9 75 tth17 HT_ ?_
     refine pv_ 10 76 tth18 HT_ ?_
     refine pv_ 11 77 tth19 HT_ ?_
     refine pv_ 12 78 tth20 HT_ ?_
     refine pv_ 13 79 tth21 HT_ ?_
     refine pv_ 14 80 tth22 HT_ ?_
     refine pv_ 15 81 tth23 HT_ ?_
     refine pv_ 16 82 tth24 HT_ ?_
     refine pv_ 18 84 tth25 HT_ ?_
     refine tv_ 17 83 tth26 HT_ HW_ hHeld ?_
     refine one_ (i := 19) (N := some 85) tth27 rfl rfl (one_of HT_.out (by kernel_rfl)) (by decide) (fun K hK => ?_)
     refine goes_ Try.func27 (by kernel_rfl) rfl #[.agg #[.slice A0_0 l0_0.length c0_0], .slice Ao53 t913.length co53] (by rfl) rfl rfl (by (try simp only [List.map_toArray, List.map_cons, List.map_nil]); first | done | rfl | (simp only [List.length_drop, List.length_take]; rfl)) ?_
     with_reducible refine (mizmazetop_spread.calls kj9 _ _ l0_0 _ _ t913 t930 _ ?side1 ?side2 ?side3 ?side4 A33.out).mono ?_
     (case side1 => repeat (first | exact (Kd.C_below HR0_0.out HB.out) | (with_reducible refine Kd.C_alloc ?_ _) | (with_reducible refine Kd.C_drewN ?_ _) | (with_reducible refine Kd.C_drew ?_)))
     (case side2 => exact HC0_0.out)
     (case side3 => repeat (first | exact (Kd.R_reads' HO_7.out).2.2 | (with_reducible refine Kd.C_alloc ?_ _) | (with_reducible refine Kd.C_drewN ?_ _) | (with_reducible refine Kd.C_drew ?_)))
     (case side4 => exact (Kd.R_reads' HO_7.out).2.1)
     rintro e w55 ⟨rfl, hb⟩
     refine ⟨_, rfl, ?_⟩
     replace HO_1 := Aside0.mk (Kd.R_below HO_1.out hb)
     replace HO_2 := Aside0.mk (Kd.R_below HO_2.out hb)
     replace HO_7 := Aside0.mk (Kd.R_below HO_7.out hb)
     replace HO_9 := Aside0.mk (Kd.R_below HO_9.out hb)
     replace BK912 := Aside0.mk (blk_below (g := gb912) (o := .cells #[.slice A0_0 l0_0.length c0_0] 24 (0, 0)) BK912.out hb)
     replace HB := Aside0.mk (below_step HB.out hb)
     (try clear hb)
     (try clear hb2)
     (try clear hk)
     (try clear hi)
     obtain ⟨Ao56, co56, eo56⟩ := Kd.R_slice HO_1.out
     (first | subst eo56 | (injection eo56 with f1_ f2_ f3_; have f4_ := f1_.symm; have f5_ := f3_.symm; clear f1_ f2_ f3_; subst f4_; subst f5_))
     obtain ⟨Ao57, co57, eo57⟩ := Kd.R_slice HO_2.out
     (first | subst eo57 | (injection eo57 with f1_ f2_ f3_; have f4_ := f1_.symm; have f5_ := f3_.symm; clear f1_ f2_ f3_; subst f4_; subst f5_))
     refine hK.out _ _ ((blk_cell BK912.out 0).trans rfl) (fun hHeld => ?_)
     clear hK K
     refine nm_ 85 ?_
     refine pv_ 20 86 tth28 HT_ ?_
     refine pv_ 21 87 tth29 HT_ ?_
     refine pv_ 22 88 tth30 HT_ ?_
     refine pv_ 24 90 tth31 HT_ ?_
     refine pv_ 25 91 tth32 HT_ ?_
     refine pv_ 26 92 tth33 HT_ ?_
     refine tv_ 23 89 tth34 HT_ HW_ hHeld ?_
     refine one_ (i := 27) (N := some 93) tth35 rfl rfl (one_of HT_.out (by kernel_rfl)) (by decide) (fun K hK => ?_)
     refine Kd.N_lit_step (Kd.slice 3 (Kd.int .i64)) _ 25 ?hg (N' := 93) ?hd (xs := ([t923, t913, t926] : List (List Int))) (inner := [.slice Ao56 t923.length co56, .slice Ao53 t913.length co53, .slice Ao57 t926.length co57]) (ok := (fun k_ => some k_ ≠ (v918 : Value).ownBlock ∧ k_ ≠ gb912)) (okp := (fun k_ => some k_ ≠ (v918 : Value).ownBlock ∧ k_ ≠ gb912)) ?hr ?hp (fun _ hk => hk) ((show ∀ k_, w55.heap.size ≤ k_ → (fun k_ => some k_ ≠ (v918 : Value).ownBlock ∧ k_ ≠ gb912) k_ from fun k_ hk => ⟨Kd.fresh' (Kd.R_lt HO_9.out) k_ hk, Kd.freshB (g := gb912) (o := .cells #[.slice A0_0 l0_0.length c0_0] 24 (0, 0)) BK912.out k_ hk⟩) _ (Nat.le_refl _)) (Below.refl _ _) (Nat.le_refl _) (by simp) ?_; (case hd => rfl); (case hg => rfl); (case hr => first | (go_simp; done) | (go_simp; rfl)); (case hp => exact (Reps.one (show Kd.FK (Kd.slice 3 (Kd.int .i64)) _ _ t923 [.slice Ao56 t923.length co56] from (Kd.FK_slice_mk (Kd.R_reads' (Kd.R_mono (ok' := (fun k_ => some k_ ≠ (v918 : Value).ownBlock ∧ k_ ≠ gb912)) (Kd.R_types (Kd.R_apart' (HO_1.out) (Kd.R_typed HO_9.out) (by decide)) BK912.out (by decide)) (fun k_ hk => ⟨hk.1.2, hk.2⟩))).2.1 (Kd.R_F (Kd.R_mono (ok' := (fun k_ => some k_ ≠ (v918 : Value).ownBlock ∧ k_ ≠ gb912)) (Kd.R_types (Kd.R_apart' (HO_1.out) (Kd.R_typed HO_9.out) (by decide)) BK912.out (by decide)) (fun k_ hk => ⟨hk.1.2, hk.2⟩))))) (Reps.one (show Kd.FK (Kd.slice 3 (Kd.int .i64)) _ _ t913 [.slice Ao53 t913.length co53] from (Kd.FK_slice_mk (Kd.R_reads' (Kd.R_mono (ok' := (fun k_ => some k_ ≠ (v918 : Value).ownBlock ∧ k_ ≠ gb912)) (Kd.R_types (Kd.R_apart' (HO_7.out) (Kd.R_typed HO_9.out) (by decide)) BK912.out (by decide)) (fun k_ hk => ⟨hk.1.2, hk.2⟩))).2.1 (Kd.R_F (Kd.R_mono (ok' := (fun k_ => some k_ ≠ (v918 : Value).ownBlock ∧ k_ ≠ gb912)) (Kd.R_types (Kd.R_apart' (HO_7.out) (Kd.R_typed HO_9.out) (by decide)) BK912.out (by decide)) (fun k_ hk => ⟨hk.1.2, hk.2⟩))))) (Reps.one (show Kd.FK (Kd.slice 3 (Kd.int .i64)) _ _ t926 [.slice Ao57 t926.length co57] from (Kd.FK_slice_mk (Kd.R_reads' (Kd.R_mono (ok' := (fun k_ => some k_ ≠ (v918 : Value).ownBlock ∧ k_ ≠ gb912)) (Kd.R_types (Kd.R_apart' (HO_2.out) (Kd.R_typed HO_9.out) (by decide)) BK912.out (by decide)) (fun k_ hk => ⟨hk.1.2, hk.2⟩))).2.1 (Kd.R_F (Kd.R_mono (ok' := (fun k_ => some k_ ≠ (v918 : Value).ownBlock ∧ k_ ≠ gb912)) (Kd.R_types (Kd.R_apart' (HO_2.out) (Kd.R_typed HO_9.out) (by decide)) BK912.out (by decide)) (fun k_ hk => ⟨hk.1.2, hk.2⟩))))) (Reps.none _ _)))))
     intro v932 w58 ho59 hb hg_ hnew_
     clear hg_ hnew_
     (first | rw [← Ny931.out] at ho59 | (simp only [Int.reduceToNat] at ho59; rw [← Ny931.out] at ho59))
     replace HO_1 := Aside0.mk (Kd.R_below HO_1.out hb)
     replace HO_2 := Aside0.mk (Kd.R_below HO_2.out hb)
     replace HO_7 := Aside0.mk (Kd.R_below HO_7.out hb)
     replace HO_9 := Aside0.mk (Kd.R_below HO_9.out hb)
     have HO933 := Aside0.mk (Kd.N_lower ho59 (below_size HB.out))
     replace BK912 := Aside0.mk (blk_below (g := gb912) (o := .cells #[.slice A0_0 l0_0.length c0_0] 24 (0, 0)) BK912.out hb)
     replace HB := Aside0.mk (below_step HB.out hb)
     clear hb ho59
     obtain ⟨Ao60, co60, eo60⟩ := Kd.N_slice HO933.out
     (first | subst eo60 | (injection eo60 with f1_ f2_ f3_; have f4_ := f1_.symm; have f5_ := f3_.symm; clear f1_ f2_ f3_; subst f4_; subst f5_))
     refine hK.out _ _ ((blk_cell BK912.out 0).trans rfl) (fun hHeld => ?_)
     clear hK K
     refine nm_ 93 ?_
     refine one_ (i := 28) (N := some 94) tth36 rfl rfl (one_of HT_.out (by kernel_rfl)) (by decide) (fun K hK => ?_)
     refine goes_ Try.func34 (by kernel_rfl) rfl #[.slice Ao60 y931.length co60] (by rfl) rfl rfl (by (try simp only [List.map_toArray, List.map_cons, List.map_nil]); first | done | rfl | (simp only [List.length_drop, List.length_take]; rfl)) ?_
     with_reducible refine (mizmazetop_joined.calls kj9 _ _ y931 t934 _ ?side1 ?side2 A35.out).mono ?_
     (case side1 => repeat (first | exact (Kd.N_reads' HO933.out).2.2 | (with_reducible refine Kd.C_alloc ?_ _) | (with_reducible refine Kd.C_drewN ?_ _) | (with_reducible refine Kd.C_drew ?_)))
     (case side2 => exact (Kd.N_reads' HO933.out).2.1)
     rintro e w61 ⟨v935, rfl, ho0, hb⟩
     refine ⟨_, rfl, ?_⟩
     have n0_ := Aside0.mk (Kd.R_elder' HO_1.out (Kd.R_base ho0) hb)
     have n1_ := Aside0.mk (Kd.R_elder' HO_2.out (Kd.R_base ho0) hb)
     have n2_ := Aside0.mk (Kd.R_elder' HO_7.out (Kd.R_base ho0) hb)
     have n3_ := Aside0.mk (Kd.R_below HO_9.out hb)
     have n4_ := Aside0.mk (Kd.N_elder' HO933.out (Kd.R_base ho0) hb)
     have n5_ := Aside0.mk (Kd.R_lower (Kd.R_new' (Kd.R_new' (Kd.R_new' ho0 (Kd.R_lt HO_1.out)) (Kd.R_lt HO_2.out)) (Kd.R_lt HO_7.out)) (below_size HB.out))
     have n6_ := Aside0.mk (blk_below (g := gb912) (o := .cells #[.slice A0_0 l0_0.length c0_0] 24 (0, 0)) BK912.out hb)
     have n7_ := Aside0.mk (below_step HB.out hb)
     clear HO_1
     clear HO_2
     clear HO_7
     clear HO_9
     clear HO933
     clear BK912
     clear HB
     have HO_1 := n0_
     have HO_2 := n1_
     have HO_7 := n2_
     have HO_9 := n3_
     have HO933 := n4_
     have HO936 := n5_
     have BK912 := n6_
     have HB := n7_
     clear n0_ n1_ n2_ n3_ n4_ n5_ n6_ n7_
     (try clear hb)
     (try clear hb2)
     (try clear hk)
     (try clear hi)
     (try clear ho0)
     obtain ⟨Ao62, co62, eo62⟩ := Kd.R_slice HO936.out
     (first | subst eo62 | (injection eo62 with f1_ f2_ f3_; have f4_ := f1_.symm; have f5_ := f3_.symm; clear f1_ f2_ f3_; subst f4_; subst f5_))
     refine hK.out _ _ ((blk_cell BK912.out 0).trans rfl) (fun hHeld => ?_)
     clear hK K
     refine nm_ 94 ?_
     refine one_ (i := 29) (N := some 95) tth37 rfl rfl (one_of HT_.out (by kernel_rfl)) (by decide) (fun K hK => ?_)
     refine goes_ Try.func27 (by kernel_rfl) rfl #[.agg #[.slice A0_0 l0_0.length c0_0], .slice Ao62 t934.length co62] (by rfl) rfl rfl (by (try simp only [List.map_toArray, List.map_cons, List.map_nil]); first | done | rfl | (simp only [List.length_drop, List.length_take]; rfl)) ?_
     with_reducible refine (mizmazetop_spread.calls kj9 _ _ l0_0 _ _ t934 t937 _ ?side1 ?side2 ?side3 ?side4 A36.out).mono ?_
     (case side1 => repeat (first | exact (Kd.C_below HR0_0.out HB.out) | (with_reducible refine Kd.C_alloc ?_ _) | (with_reducible refine Kd.C_drewN ?_ _) | (with_reducible refine Kd.C_drew ?_)))
     (case side2 => exact HC0_0.out)
     (case side3 => repeat (first | exact (Kd.R_reads' HO936.out).2.2 | (with_reducible refine Kd.C_alloc ?_ _) | (with_reducible refine Kd.C_drewN ?_ _) | (with_reducible refine Kd.C_drew ?_)))
     (case side4 => exact (Kd.R_reads' HO936.out).2.1)
     rintro e w63 ⟨rfl, hb⟩
     refine ⟨_, rfl, ?_⟩
     replace HO_1 := Aside0.mk (Kd.R_below HO_1.out hb)
     replace HO_2 := Aside0.mk (Kd.R_below HO_2.out hb)
     replace HO_7 := Aside0.mk (Kd.R_below HO_7.out hb)
     replace HO_9 := Aside0.mk (Kd.R_below HO_9.out hb)
     replace HO933 := Aside0.mk (Kd.N_below HO933.out hb)
     replace HO936 := Aside0.mk (Kd.R_below HO936.out hb)
     replace BK912 := Aside0.mk (blk_below (g := gb912) (o := .cells #[.slice A0_0 l0_0.length c0_0] 24 (0, 0)) BK912.out hb)
     replace HB := Aside0.mk (below_step HB.out hb)
     (try clear hb)
     (try clear hb2)
     (try clear hk)
     (try clear hi)
     refine hK.out _ _ ((blk_cell BK912.out 0).trans rfl) (fun hHeld => ?_)
     clear hK K
     refine nm_ 95 ?_
     refine pv_ 30 96 tth38 HT_ ?_
     refine pv_ 31 97 tth39 HT_ ?_
     refine pv_ 32 98 tth40 HT_ ?_
     refine pu_ 33 99 tth41 HT_ ?_
     refine pv_ 34 100 tth42 HT_ ?_
     refine pv_ 35 6 tth43 HT_ ?_
     refine done_ (done_of HT_.out (by kernel_rfl)) ?_
     try go_wp2
     go_ret
     exact ⟨by first | rfl | (simp [errW_none, errW_some] <;> rfl) | (simp [*, errW_none, errW_some] <;> rfl), by repeat (first | (with_reducible first | exact HB.out | apply below_alloc | apply pw_below_drewN | apply below_drew1 | refine below_set ?_ GE912.out) | exact HB.out)⟩
    rw [if_pos c37] at H
    have c37b0 : (t937 == 1) = true := beq_iff_eq.mpr c37
    have c37b1 : (t937 != 1) = false := bne_eq_false_iff_eq.mpr c37
    clear c37
    replace H := Option.bind_eq_some_iff.mp H
    obtain ⟨t938, A380, H⟩ := H
    replace H : (some t938) = some r := H
    have A38 := Aside0.mk A380
    clear A380
    obtain rfl := Option.some.inj H
    try go_wp2
    replace HO_1 := Aside0.mk (Kd.R_drew HO_1.out)
    replace HO_2 := Aside0.mk (Kd.R_drew HO_2.out)
    replace HO_7 := Aside0.mk (Kd.R_drew HO_7.out)
    replace HO_9 := Aside0.mk (Kd.R_drew HO_9.out)
    replace BK912 := Aside0.mk (blk_drew BK912.out)
    replace HB := Aside0.mk (below_drew1 HB.out)
    obtain ⟨Ao40, co40, eo40⟩ := Kd.R_slice HO_7.out
    (first | subst eo40 | (injection eo40 with f1_ f2_ f3_; have f4_ := f1_.symm; have f5_ := f3_.symm; clear f1_ f2_ f3_; subst f4_; subst f5_))
    refine start_ (n := 36) (S := fun w' => w'.cell? ⟨gb912, 0, none⟩ = some (.slice A0_0 l0_0.length c0_0)) (ds := []) #[false, false, false, false, false, false, false, false, false, false, false, false, false, false, false, false, false, false, false, false, false, false, false, false, false, false, false, false, false, false, false, false, false, false, false, false] (by kernel_rfl) rfl rfl ((blk_cell BK912.out 0).trans rfl) (fun hHeld => ?_); refine with_tabW mizmazetop_TopHome.tab10 mizmazetop_TopHome.bits10 (fun HT_ HW_ => ?_)
    generalize wc.drew = w39 at HO_1 HO_2 HO_7 HO_9 BK912 HB hHeld ⊢
    refine pv_ 1 67 tth8 HT_ ?_
    refine tv_ 0 66 tth9 HT_ HW_ hHeld ?_
    refine one_ (i := 2) (N := some 68) tth10 rfl rfl (one_of HT_.out (by kernel_rfl)) (by decide) (fun K hK => ?_)
    refine goes_ Try.func33 (by kernel_rfl) rfl #[.agg #[.slice A0_0 l0_0.length c0_0], .slice Ao40 t913.length co40] (by rfl) rfl rfl (by (try simp only [List.map_toArray, List.map_cons, List.map_nil]); first | done | rfl | (simp only [List.length_drop, List.length_take]; rfl)) ?_
    with_reducible refine (mizmazetop_right.calls kj9 _ _ l0_0 _ _ t913 true _ ?side1 ?side2 ?side3 ?side4 A30.out).mono ?_
    (case side1 => repeat (first | exact (Kd.C_below HR0_0.out HB.out) | (with_reducible refine Kd.C_alloc ?_ _) | (with_reducible refine Kd.C_drewN ?_ _) | (with_reducible refine Kd.C_drew ?_)))
    (case side2 => exact HC0_0.out)
    (case side3 => repeat (first | exact (Kd.R_reads' HO_7.out).2.2 | (with_reducible refine Kd.C_alloc ?_ _) | (with_reducible refine Kd.C_drewN ?_ _) | (with_reducible refine Kd.C_drew ?_)))
    (case side4 => exact (Kd.R_reads' HO_7.out).2.1)
    rintro e w41 ⟨rfl, hb⟩
    refine ⟨_, rfl, ?_⟩
    replace HO_1 := Aside0.mk (Kd.R_below HO_1.out hb)
    replace HO_2 := Aside0.mk (Kd.R_below HO_2.out hb)
    replace HO_7 := Aside0.mk (Kd.R_below HO_7.out hb)
    replace HO_9 := Aside0.mk (Kd.R_below HO_9.out hb)
    replace BK912 := Aside0.mk (blk_below (g := gb912) (o := .cells #[.slice A0_0 l0_0.length c0_0] 24 (0, 0)) BK912.out hb)
    replace HB := Aside0.mk (below_step HB.out hb)
    (try clear hb)
    (try clear hb2)
    (try clear hk)
    (try clear hi)
    refine hK.out _ _ ((blk_cell BK912.out 0).trans rfl) (fun hHeld => ?_)
    clear hK K
    refine nm_ 68 ?_
    refine pv_ 3 69 tth11 HT_ ?_
    refine pv_ 4 70 tth12 HT_ ?_
    refine pv_ 5 71 tth13 HT_ ?_
    refine pv_ 6 72 tth14 HT_ ?_
    refine pv_ 7 73 tth15 HT_ ?_
    refine pv_ 8 74 tth16 HT_ ?_
    refine pv_ 9 75 tth17 HT_ ?_
    refine pv_ 10 76 tth18 HT_ ?_
    refine pv_ 11 77 tth19 HT_ ?_
    refine pv_ 12 78 tth20 HT_ ?_
    refine pv_ 13 79 tth21 HT_ ?_
    refine pv_ 14 80 tth22 HT_ ?_
    refine pv_ 15 81 tth23 HT_ ?_
    refine pv_ 16 82 tth24 HT_ ?_
    refine pv_ 18 84 tth25 HT_ ?_
    refine tv_ 17 83 tth26 HT_ HW_ hHeld ?_
    refine one_ (i := 19) (N := some 85) tth27 rfl rfl (one_of HT_.out (by kernel_rfl)) (by decide) (fun K hK => ?_)
    refine goes_ Try.func27 (by kernel_rfl) rfl #[.agg #[.slice A0_0 l0_0.length c0_0], .slice Ao40 t913.length co40] (by rfl) rfl rfl (by (try simp only [List.map_toArray, List.map_cons, List.map_nil]); first | done | rfl | (simp only [List.length_drop, List.length_take]; rfl)) ?_
    with_reducible refine (mizmazetop_spread.calls kj9 _ _ l0_0 _ _ t913 t930 _ ?side1 ?side2 ?side3 ?side4 A33.out).mono ?_
    (case side1 => repeat (first | exact (Kd.C_below HR0_0.out HB.out) | (with_reducible refine Kd.C_alloc ?_ _) | (with_reducible refine Kd.C_drewN ?_ _) | (with_reducible refine Kd.C_drew ?_)))
    (case side2 => exact HC0_0.out)
    (case side3 => repeat (first | exact (Kd.R_reads' HO_7.out).2.2 | (with_reducible refine Kd.C_alloc ?_ _) | (with_reducible refine Kd.C_drewN ?_ _) | (with_reducible refine Kd.C_drew ?_)))
    (case side4 => exact (Kd.R_reads' HO_7.out).2.1)
    rintro e w42 ⟨rfl, hb⟩
    refine ⟨_, rfl, ?_⟩
    replace HO_1 := Aside0.mk (Kd.R_below HO_1.out hb)
    replace HO_2 := Aside0.mk (Kd.R_below HO_2.out hb)
    replace HO_7 := Aside0.mk (Kd.R_below HO_7.out hb)
    replace HO_9 := Aside0.mk (Kd.R_below HO_9.out hb)
    replace BK912 := Aside0.mk (blk_below (g := gb912) (o := .cells #[.slice A0_0 l0_0.length c0_0] 24 (0, 0)) BK912.out hb)
    replace HB := Aside0.mk (below_step HB.out hb)
    (try clear hb)
    (try clear hb2)
    (try clear hk)
    (try clear hi)
    obtain ⟨Ao43, co43, eo43⟩ := Kd.R_slice HO_1.out
    (first | subst eo43 | (injection eo43 with f1_ f2_ f3_; have f4_ := f1_.symm; have f5_ := f3_.symm; clear f1_ f2_ f3_; subst f4_; subst f5_))
    obtain ⟨Ao44, co44, eo44⟩ := Kd.R_slice HO_2.out
    (first | subst eo44 | (injection eo44 with f1_ f2_ f3_; have f4_ := f1_.symm; have f5_ := f3_.symm; clear f1_ f2_ f3_; subst f4_; subst f5_))
    refine hK.out _ _ ((blk_cell BK912.out 0).trans rfl) (fun hHeld => ?_)
    clear hK K
    refine nm_ 85 ?_
    refine pv_ 20 86 tth28 HT_ ?_
    refine pv_ 21 87 tth29 HT_ ?_
    refine pv_ 22 88 tth30 HT_ ?_
    refine pv_ 24 90 tth31 HT_ ?_
    refine pv_ 25 91 tth32 HT_ ?_
    refine pv_ 26 92 tth33 HT_ ?_
    refine tv_ 23 89 tth34 HT_ HW_ hHeld ?_
    refine one_ (i := 27) (N := some 93) tth35 rfl rfl (one_of HT_.out (by kernel_rfl)) (by decide) (fun K hK => ?_)
    refine Kd.N_lit_step (Kd.slice 3 (Kd.int .i64)) _ 25 ?hg (N' := 93) ?hd (xs := ([t923, t913, t926] : List (List Int))) (inner := [.slice Ao43 t923.length co43, .slice Ao40 t913.length co40, .slice Ao44 t926.length co44]) (ok := (fun k_ => some k_ ≠ (v918 : Value).ownBlock ∧ k_ ≠ gb912)) (okp := (fun k_ => some k_ ≠ (v918 : Value).ownBlock ∧ k_ ≠ gb912)) ?hr ?hp (fun _ hk => hk) ((show ∀ k_, w42.heap.size ≤ k_ → (fun k_ => some k_ ≠ (v918 : Value).ownBlock ∧ k_ ≠ gb912) k_ from fun k_ hk => ⟨Kd.fresh' (Kd.R_lt HO_9.out) k_ hk, Kd.freshB (g := gb912) (o := .cells #[.slice A0_0 l0_0.length c0_0] 24 (0, 0)) BK912.out k_ hk⟩) _ (Nat.le_refl _)) (Below.refl _ _) (Nat.le_refl _) (by simp) ?_; (case hd => rfl); (case hg => rfl); (case hr => first | (go_simp; done) | (go_simp; rfl)); (case hp => exact (Reps.one (show Kd.FK (Kd.slice 3 (Kd.int .i64)) _ _ t923 [.slice Ao43 t923.length co43] from (Kd.FK_slice_mk (Kd.R_reads' (Kd.R_mono (ok' := (fun k_ => some k_ ≠ (v918 : Value).ownBlock ∧ k_ ≠ gb912)) (Kd.R_types (Kd.R_apart' (HO_1.out) (Kd.R_typed HO_9.out) (by decide)) BK912.out (by decide)) (fun k_ hk => ⟨hk.1.2, hk.2⟩))).2.1 (Kd.R_F (Kd.R_mono (ok' := (fun k_ => some k_ ≠ (v918 : Value).ownBlock ∧ k_ ≠ gb912)) (Kd.R_types (Kd.R_apart' (HO_1.out) (Kd.R_typed HO_9.out) (by decide)) BK912.out (by decide)) (fun k_ hk => ⟨hk.1.2, hk.2⟩))))) (Reps.one (show Kd.FK (Kd.slice 3 (Kd.int .i64)) _ _ t913 [.slice Ao40 t913.length co40] from (Kd.FK_slice_mk (Kd.R_reads' (Kd.R_mono (ok' := (fun k_ => some k_ ≠ (v918 : Value).ownBlock ∧ k_ ≠ gb912)) (Kd.R_types (Kd.R_apart' (HO_7.out) (Kd.R_typed HO_9.out) (by decide)) BK912.out (by decide)) (fun k_ hk => ⟨hk.1.2, hk.2⟩))).2.1 (Kd.R_F (Kd.R_mono (ok' := (fun k_ => some k_ ≠ (v918 : Value).ownBlock ∧ k_ ≠ gb912)) (Kd.R_types (Kd.R_apart' (HO_7.out) (Kd.R_typed HO_9.out) (by decide)) BK912.out (by decide)) (fun k_ hk => ⟨hk.1.2, hk.2⟩))))) (Reps.one (show Kd.FK (Kd.slice 3 (Kd.int .i64)) _ _ t926 [.slice Ao44 t926.length co44] from (Kd.FK_slice_mk (Kd.R_reads' (Kd.R_mono (ok' := (fun k_ => some k_ ≠ (v918 : Value).ownBlock ∧ k_ ≠ gb912)) (Kd.R_types (Kd.R_apart' (HO_2.out) (Kd.R_typed HO_9.out) (by decide)) BK912.out (by decide)) (fun k_ hk => ⟨hk.1.2, hk.2⟩))).2.1 (Kd.R_F (Kd.R_mono (ok' := (fun k_ => some k_ ≠ (v918 : Value).ownBlock ∧ k_ ≠ gb912)) (Kd.R_types (Kd.R_apart' (HO_2.out) (Kd.R_typed HO_9.out) (by decide)) BK912.out (by decide)) (fun k_ hk => ⟨hk.1.2, hk.2⟩))))) (Reps.none _ _)))))
    intro v932 w45 ho46 hb hg_ hnew_
    clear hg_ hnew_
    (first | rw [← Ny931.out] at ho46 | (simp only [Int.reduceToNat] at ho46; rw [← Ny931.out] at ho46))
    replace HO_1 := Aside0.mk (Kd.R_below HO_1.out hb)
    replace HO_2 := Aside0.mk (Kd.R_below HO_2.out hb)
    replace HO_7 := Aside0.mk (Kd.R_below HO_7.out hb)
    replace HO_9 := Aside0.mk (Kd.R_below HO_9.out hb)
    have HO933 := Aside0.mk (Kd.N_lower ho46 (below_size HB.out))
    replace BK912 := Aside0.mk (blk_below (g := gb912) (o := .cells #[.slice A0_0 l0_0.length c0_0] 24 (0, 0)) BK912.out hb)
    replace HB := Aside0.mk (below_step HB.out hb)
    clear hb ho46
    obtain ⟨Ao47, co47, eo47⟩ := Kd.N_slice HO933.out
    (first | subst eo47 | (injection eo47 with f1_ f2_ f3_; have f4_ := f1_.symm; have f5_ := f3_.symm; clear f1_ f2_ f3_; subst f4_; subst f5_))
    refine hK.out _ _ ((blk_cell BK912.out 0).trans rfl) (fun hHeld => ?_)
    clear hK K
    refine nm_ 93 ?_
    refine one_ (i := 28) (N := some 94) tth36 rfl rfl (one_of HT_.out (by kernel_rfl)) (by decide) (fun K hK => ?_)
    refine goes_ Try.func34 (by kernel_rfl) rfl #[.slice Ao47 y931.length co47] (by rfl) rfl rfl (by (try simp only [List.map_toArray, List.map_cons, List.map_nil]); first | done | rfl | (simp only [List.length_drop, List.length_take]; rfl)) ?_
    with_reducible refine (mizmazetop_joined.calls kj9 _ _ y931 t934 _ ?side1 ?side2 A35.out).mono ?_
    (case side1 => repeat (first | exact (Kd.N_reads' HO933.out).2.2 | (with_reducible refine Kd.C_alloc ?_ _) | (with_reducible refine Kd.C_drewN ?_ _) | (with_reducible refine Kd.C_drew ?_)))
    (case side2 => exact (Kd.N_reads' HO933.out).2.1)
    rintro e w48 ⟨v935, rfl, ho0, hb⟩
    refine ⟨_, rfl, ?_⟩
    have n0_ := Aside0.mk (Kd.R_elder' HO_1.out (Kd.R_base ho0) hb)
    have n1_ := Aside0.mk (Kd.R_elder' HO_2.out (Kd.R_base ho0) hb)
    have n2_ := Aside0.mk (Kd.R_elder' HO_7.out (Kd.R_base ho0) hb)
    have n3_ := Aside0.mk (Kd.R_below HO_9.out hb)
    have n4_ := Aside0.mk (Kd.N_elder' HO933.out (Kd.R_base ho0) hb)
    have n5_ := Aside0.mk (Kd.R_lower (Kd.R_new' (Kd.R_new' (Kd.R_new' ho0 (Kd.R_lt HO_1.out)) (Kd.R_lt HO_2.out)) (Kd.R_lt HO_7.out)) (below_size HB.out))
    have n6_ := Aside0.mk (blk_below (g := gb912) (o := .cells #[.slice A0_0 l0_0.length c0_0] 24 (0, 0)) BK912.out hb)
    have n7_ := Aside0.mk (below_step HB.out hb)
    clear HO_1
    clear HO_2
    clear HO_7
    clear HO_9
    clear HO933
    clear BK912
    clear HB
    have HO_1 := n0_
    have HO_2 := n1_
    have HO_7 := n2_
    have HO_9 := n3_
    have HO933 := n4_
    have HO936 := n5_
    have BK912 := n6_
    have HB := n7_
    clear n0_ n1_ n2_ n3_ n4_ n5_ n6_ n7_
    (try clear hb)
    (try clear hb2)
    (try clear hk)
    (try clear hi)
    (try clear ho0)
    obtain ⟨Ao49, co49, eo49⟩ := Kd.R_slice HO936.out
    (first | subst eo49 | (injection eo49 with f1_ f2_ f3_; have f4_ := f1_.symm; have f5_ := f3_.symm; clear f1_ f2_ f3_; subst f4_; subst f5_))
    refine hK.out _ _ ((blk_cell BK912.out 0).trans rfl) (fun hHeld => ?_)
    clear hK K
    refine nm_ 94 ?_
    refine one_ (i := 29) (N := some 95) tth37 rfl rfl (one_of HT_.out (by kernel_rfl)) (by decide) (fun K hK => ?_)
    refine goes_ Try.func27 (by kernel_rfl) rfl #[.agg #[.slice A0_0 l0_0.length c0_0], .slice Ao49 t934.length co49] (by rfl) rfl rfl (by (try simp only [List.map_toArray, List.map_cons, List.map_nil]); first | done | rfl | (simp only [List.length_drop, List.length_take]; rfl)) ?_
    with_reducible refine (mizmazetop_spread.calls kj9 _ _ l0_0 _ _ t934 t937 _ ?side1 ?side2 ?side3 ?side4 A36.out).mono ?_
    (case side1 => repeat (first | exact (Kd.C_below HR0_0.out HB.out) | (with_reducible refine Kd.C_alloc ?_ _) | (with_reducible refine Kd.C_drewN ?_ _) | (with_reducible refine Kd.C_drew ?_)))
    (case side2 => exact HC0_0.out)
    (case side3 => repeat (first | exact (Kd.R_reads' HO936.out).2.2 | (with_reducible refine Kd.C_alloc ?_ _) | (with_reducible refine Kd.C_drewN ?_ _) | (with_reducible refine Kd.C_drew ?_)))
    (case side4 => exact (Kd.R_reads' HO936.out).2.1)
    rintro e w50 ⟨rfl, hb⟩
    refine ⟨_, rfl, ?_⟩
    replace HO_1 := Aside0.mk (Kd.R_below HO_1.out hb)
    replace HO_2 := Aside0.mk (Kd.R_below HO_2.out hb)
    replace HO_7 := Aside0.mk (Kd.R_below HO_7.out hb)
    replace HO_9 := Aside0.mk (Kd.R_below HO_9.out hb)
    replace HO933 := Aside0.mk (Kd.N_below HO933.out hb)
    replace HO936 := Aside0.mk (Kd.R_below HO936.out hb)
    replace BK912 := Aside0.mk (blk_below (g := gb912) (o := .cells #[.slice A0_0 l0_0.length c0_0] 24 (0, 0)) BK912.out hb)
    replace HB := Aside0.mk (below_step HB.out hb)
    (try clear hb)
    (try clear hb2)
    (try clear hk)
    (try clear hi)
    refine hK.out _ _ ((blk_cell BK912.out 0).trans rfl) (fun hHeld => ?_)
    clear hK K
    refine nm_ 95 ?_
    refine pv_ 30 96 tth38 HT_ ?_
    refine pv_ 31 97 tth39 HT_ ?_
    refine pv_ 32 98 tth40 HT_ ?_
    refine one_ (i := 33) (N := some 99) tth41 rfl rfl (one_of HT_.out (by kernel_rfl)) (by decide) (fun K hK => ?_)
    refine goes_ Try.func31 (by kernel_rfl) rfl #[] (by rfl) rfl rfl (by (try simp only [List.map_toArray, List.map_cons, List.map_nil]); first | done | rfl | (simp only [List.length_drop, List.length_take]; rfl)) ?_
    with_reducible refine (mizmazetop_homes.calls kj9  t938 _ A38.out).mono ?_
    rintro e w51 ⟨rfl, hb⟩
    refine ⟨_, rfl, ?_⟩
    replace HO_1 := Aside0.mk (Kd.R_below HO_1.out hb)
    replace HO_2 := Aside0.mk (Kd.R_below HO_2.out hb)
    replace HO_7 := Aside0.mk (Kd.R_below HO_7.out hb)
    replace HO_9 := Aside0.mk (Kd.R_below HO_9.out hb)
    replace HO933 := Aside0.mk (Kd.N_below HO933.out hb)
    replace HO936 := Aside0.mk (Kd.R_below HO936.out hb)
    replace BK912 := Aside0.mk (blk_below (g := gb912) (o := .cells #[.slice A0_0 l0_0.length c0_0] 24 (0, 0)) BK912.out hb)
    replace HB := Aside0.mk (below_step HB.out hb)
    (try clear hb)
    (try clear hb2)
    (try clear hk)
    (try clear hi)
    refine hK.out _ _ ((blk_cell BK912.out 0).trans rfl) (fun hHeld => ?_)
    clear hK K
    refine nm_ 99 ?_
    refine pv_ 34 100 tth42 HT_ ?_
    refine pv_ 35 6 tth43 HT_ ?_
    refine done_ (done_of HT_.out (by kernel_rfl)) ?_
    try go_wp2
    go_ret
    exact ⟨by first | rfl | (simp [errW_none, errW_some] <;> rfl) | (simp [*, errW_none, errW_some] <;> rfl), by repeat (first | (with_reducible first | exact HB.out | apply below_alloc | apply pw_below_drewN | apply below_drew1 | refine below_set ?_ GE912.out) | exact HB.out)⟩
   rw [if_neg c29] at H
   have c29b0 : (t916 == 0) = false := beq_eq_false_iff_ne.mpr c29
   have c29b1 : (t916 != 0) = true := bne_iff_ne.mpr c29
   have H' := Aside0.mk H
   clear H
   go_wp2
   go_loopg [12] kj9 (fun kq v12 w' => ∃ (x12_2 : Int), v12 = .int .i64 x12_2 ∧ Aside0 (mizmazetop_TopHome.l0 kq t923 t926 t917 (l0_0.length : Int) x12_2 l0_0 = some r) ∧ Aside0 (kq ≤ kj9) ∧ Aside0 (Kd.R (Kd.int .i64) 3 w' w.heap.size (fun k_ => some k_ ≠ (v927 : Value).ownBlock) v924 t923) ∧ Aside0 (Kd.R (Kd.int .i64) 3 w' w.heap.size (fun k_ => some k_ ≠ (v924 : Value).ownBlock) v927 t926) ∧ Aside0 (Kd.R k49 49 w' w.heap.size (fun _ => True) v918 t917) ∧ Aside0 (w'.heap[gb912]? = some (.cells #[(.slice A0_0 l0_0.length c0_0)] 24 (0, 0))) ∧ Aside0 (Below w.heap.size w w'))
   case atStart => exact ⟨(0), (by first | rfl | (simp; done) | (simp [*]; done)), H', ⟨Nat.le_refl _⟩, ⟨by (with_reducible repeat (first | apply Kd.R_alloc | apply Kd.R_drewN | apply Kd.R_drew)); exact Kd.R_mono HO_1.out (fun _ hk => hk.1)⟩, ⟨by (with_reducible repeat (first | apply Kd.R_alloc | apply Kd.R_drewN | apply Kd.R_drew)); exact Kd.R_mono HO_2.out (fun _ hk => hk.1)⟩, ⟨by (with_reducible repeat (first | apply Kd.R_alloc | apply Kd.R_drewN | apply Kd.R_drew)); exact HO_9.out⟩, ⟨by (with_reducible repeat (first | refine blk_drewN ?_ _ | refine blk_drew ?_ | refine blk_alloc ?_ _)); exact BK912.out⟩, ⟨by repeat (first | (with_reducible first | exact HB.out | apply below_alloc | apply pw_below_drewN | apply below_drew1 | refine below_set ?_ GE912.out) | exact HB.out)⟩⟩
   case round =>
    clear H'
    try clear c2
    try clear p2
    try clear c3
    try clear p6
    try clear c29
    try clear c29b0
    try clear c29b1
    try clear c31
    try clear c32
    try clear c32b0
    try clear c33
    try clear p64
    obtain ⟨x12_2, rfl, HA, HK2, HO_1, HO_2, HO_9, BK912, HB⟩ := hrel
    cases gk with
    | zero => exact absurd HA.out (by simp [mizmazetop_TopHome.l0])
    | succ k2 =>
     have H := HA.out
     clear HA
     simp only [mizmazetop_TopHome.l0] at H
     by_cases c74 : x12_2 < (t917.length : Int)
     rotate_left
     ·rw [if_neg c74] at H
      have c74b0 : decide (x12_2 < (t917.length : Int)) = false := decide_eq_false c74
      clear c74
      replace H := Option.bind_eq_some_iff.mp H
      obtain ⟨t939, A1420, H⟩ := H
      replace H : (some t939) = some r := H
      have A142 := Aside0.mk A1420
      clear A1420
      obtain rfl := Option.some.inj H
      obtain ⟨Ao143, co143, eo143⟩ := Kd.R_slice HO_9.out
      subst eo143
      go_wp2_with (first | ((with_reducible refine gate_callee (f := 31) rfl ?_); refine goesL_ (some 157) rfl rfl Try.func31 (by kernel_rfl) rfl #[] rfl (by (try simp only [List.map_toArray, List.map_cons, List.map_nil]); first | done | rfl | (simp only [List.length_drop, List.length_take]; rfl)) ?_; (with_reducible refine (mizmazetop_homes.calls k2  t939 _ A142.out).mono ?_); rintro e w144 ⟨rfl, hb⟩; refine ⟨_, rfl, ?_⟩; have n0_ := Aside0.mk (Kd.R_below (by (with_reducible repeat (first | apply Kd.R_alloc | apply Kd.R_drewN | apply Kd.R_drew)); exact HO_1.out) hb); have n1_ := Aside0.mk (Kd.R_below (by (with_reducible repeat (first | apply Kd.R_alloc | apply Kd.R_drewN | apply Kd.R_drew)); exact HO_2.out) hb); have n2_ := Aside0.mk (Kd.R_below (by (with_reducible repeat (first | apply Kd.R_alloc | apply Kd.R_drewN | apply Kd.R_drew)); exact HO_9.out) hb); have n3_ := Aside0.mk (blk_below (g := gb912) (o := .cells #[.slice A0_0 l0_0.length c0_0] 24 (0, 0)) (by (with_reducible repeat (first | refine blk_drewN ?_ _ | refine blk_drew ?_ | refine blk_alloc ?_ _)); exact BK912.out) hb); have n4_ := Aside0.mk (below_step (by repeat (first | (with_reducible first | exact HB.out | apply below_alloc | apply pw_below_drewN | apply below_drew1 | refine below_set ?_ GE912.out) | exact HB.out)) hb); clear HO_1; clear HO_2; clear HO_9; clear BK912; clear HB; have HO_1 := n0_; have HO_2 := n1_; have HO_9 := n2_; have BK912 := n3_; have HB := n4_; clear n0_ n1_ n2_ n3_ n4_; (try clear hb); (try clear hb2); (try clear hk); (try clear hi)))
      go_ret
      exact ⟨by first | rfl | (simp [errW_none, errW_some] <;> rfl) | (simp [*, errW_none, errW_some] <;> rfl), by repeat (first | (with_reducible first | exact HB.out | apply below_alloc | apply pw_below_drewN | apply below_drew1 | refine below_set ?_ GE912.out) | exact HB.out)⟩
     rw [if_pos c74] at H
     have c74b0 : decide (x12_2 < (t917.length : Int)) = true := decide_eq_true c74
     clear c74
     by_cases c75 : 0 ≤ x12_2
     rotate_left
     ·rw [if_neg c75] at H
      exact absurd H (by simp)
     rw [if_pos c75] at H
     have c75b0 : decide (0 ≤ x12_2) = true := decide_eq_true c75
     clear c75
     by_cases c76 : ((rd_T49 t917 x12_2).f0) < 0
     ·rw [if_pos c76] at H
      have c76b0 : decide (((rd_T49 t917 x12_2).f0) < 0) = true := decide_eq_true c76
      clear c76
      obtain rfl := Option.some.inj H
      obtain ⟨Ao77, co77, eo77⟩ := Kd.R_slice HO_9.out
      subst eo77
      try go_wp2
      replace HO_1 := Aside0.mk (Kd.R_drew HO_1.out)
      replace HO_2 := Aside0.mk (Kd.R_drew HO_2.out)
      replace HO_9 := Aside0.mk (Kd.R_drew HO_9.out)
      replace BK912 := Aside0.mk (blk_drew BK912.out)
      replace HB := Aside0.mk (below_drew1 HB.out)
      have p940 : 0 ≤ (x12_2 : Int) := of_decide_eq_true (by first | (with_reducible assumption) | assumption)
      have q940 : x12_2 < (t917.length : Int) := of_decide_eq_true (by first | (with_reducible assumption) | assumption)
      obtain ⟨ad940, e940, hx940_0, hx940_1⟩ := at_T49 (Kd.R_reads' HO_9.out).2.2 x12_2 p940 q940
      cases e940
      replace p940 := eq_true p940
      replace q940 := eq_true q940
      have p941 : 0 ≤ (x12_2 : Int) := of_decide_eq_true (by first | (with_reducible assumption) | assumption)
      have q941 : x12_2 < (t917.length : Int) := of_decide_eq_true (by first | (with_reducible assumption) | assumption)
      obtain ⟨ad941, e941, hx941_0, hx941_1⟩ := at_T49 (Kd.R_reads' HO_9.out).2.2 x12_2 p941 q941
      obtain rfl : ad940 = ad941 := (by injection e941)
      replace p941 := eq_true p941
      replace q941 := eq_true q941
      refine start_ (n := 12) (S := fun w' => w'.cell? (ad940.add ((x12_2).toNat * 2)) = some (.int .i64 ((rd_T49 t917 x12_2).f0)) ∧ w'.cell? ⟨(ad940.add ((x12_2).toNat * 2)).block, (ad940.add ((x12_2).toNat * 2)).off + 1, none⟩ = some (.int .i64 ((rd_T49 t917 x12_2).f1)) ∧ w'.cell? (ad940.add ((x12_2).toNat * 2)) = some (.int .i64 ((rd_T49 t917 x12_2).f0)) ∧ w'.cell? ⟨(ad940.add ((x12_2).toNat * 2)).block, (ad940.add ((x12_2).toNat * 2)).off + 1, none⟩ = some (.int .i64 ((rd_T49 t917 x12_2).f1))) (ds := []) #[false, false, false, false, false, false, false, false, false, false, false, false] (by kernel_rfl) rfl rfl ⟨hx940_0, hx940_1, hx941_0, hx941_1⟩ (fun hHeld => ?_); refine with_tabW mizmazetop_TopHome.tab14 mizmazetop_TopHome.bits14 (fun HT_ HW_ => ?_)
      generalize wr.drew = w78 at HO_1 HO_2 HO_9 BK912 HB hx940_0 hx940_1 hx941_0 hx941_1 hHeld ⊢
      refine pv_ 0 107 tth48 HT_ ?_
      refine pv_ 1 108 tth49 HT_ ?_
      refine pv_ 2 109 tth50 HT_ ?_
      refine pv_ 3 110 tth51 HT_ ?_
      refine pv_ 5 112 tth52 HT_ ?_
      refine pv_ 6 113 tth53 HT_ ?_
      refine pv_ 7 114 tth54 HT_ ?_
      refine pv_ 8 115 tth55 HT_ ?_
      refine tv_ 4 111 tth56 HT_ HW_ hHeld ?_
      refine pv_ 10 13 tth57 HT_ ?_
      refine tv_ 9 116 tth58 HT_ HW_ hHeld ?_
      refine pv_ 11 14 tth59 HT_ ?_
      refine done_ (done_of HT_.out (by kernel_rfl)) ?_
      try go_wp2
      replace HO_1 := Aside0.mk (Kd.R_drew HO_1.out)
      replace HO_2 := Aside0.mk (Kd.R_drew HO_2.out)
      replace HO_9 := Aside0.mk (Kd.R_drew HO_9.out)
      replace BK912 := Aside0.mk (blk_drew BK912.out)
      replace HB := Aside0.mk (below_drew1 HB.out)
      refine start_ (n := 40) (S := fun w' => True) (ds := []) #[false, false, false, false, false, false, false, false, false, false, false, false, false, false, false, false, false, false, false, false, false, false, false, false, false, false, false, false, false, false, false, false, false, false, false, false, false, false, false, false] (by kernel_rfl) rfl rfl trivial (fun hHeld => ?_); refine with_tabW mizmazetop_TopHome.tab15 mizmazetop_TopHome.bits15 (fun HT_ HW_ => ?_)
      generalize w78.drew = w79 at HO_1 HO_2 HO_9 BK912 HB hHeld ⊢
      refine pv_ 0 117 tth60 HT_ ?_
      refine pv_ 1 118 tth61 HT_ ?_
      refine pv_ 2 119 tth62 HT_ ?_
      refine pu_ 3 120 tth63 HT_ ?_
      refine pu_ 4 121 tth64 HT_ ?_
      refine pu_ 5 122 tth65 HT_ ?_
      refine pv_ 6 123 tth66 HT_ ?_
      refine pv_ 7 124 tth67 HT_ ?_
      refine pu_ 8 125 tth68 HT_ ?_
      refine pu_ 9 126 tth69 HT_ ?_
      refine pu_ 10 127 tth70 HT_ ?_
      refine pv_ 11 128 tth71 HT_ ?_
      refine pv_ 12 129 tth72 HT_ ?_
      refine pu_ 13 130 tth73 HT_ ?_
      refine pu_ 14 131 tth74 HT_ ?_
      refine pu_ 15 132 tth75 HT_ ?_
      refine pu_ 16 133 tth76 HT_ ?_
      refine pu_ 17 134 tth77 HT_ ?_
      refine pu_ 18 135 tth78 HT_ ?_
      refine pu_ 19 136 tth79 HT_ ?_
      refine pu_ 20 137 tth80 HT_ ?_
      refine pu_ 21 138 tth81 HT_ ?_
      refine pv_ 22 139 tth82 HT_ ?_
      refine pv_ 23 140 tth83 HT_ ?_
      refine pu_ 24 141 tth84 HT_ ?_
      refine pu_ 25 142 tth85 HT_ ?_
      refine pu_ 26 143 tth86 HT_ ?_
      refine pu_ 27 144 tth87 HT_ ?_
      refine pu_ 28 145 tth88 HT_ ?_
      refine pu_ 29 146 tth89 HT_ ?_
      refine pu_ 30 147 tth90 HT_ ?_
      refine pu_ 31 148 tth91 HT_ ?_
      refine pu_ 32 149 tth92 HT_ ?_
      refine pu_ 33 150 tth93 HT_ ?_
      refine pu_ 34 151 tth94 HT_ ?_
      refine pu_ 35 152 tth95 HT_ ?_
      refine pu_ 36 153 tth96 HT_ ?_
      refine pu_ 37 154 tth97 HT_ ?_
      refine pu_ 38 155 tth98 HT_ ?_
      refine pv_ 39 156 tth99 HT_ ?_
      refine done_ (done_of HT_.out (by kernel_rfl)) ?_
      try go_wp2
      go_ret
      exact ⟨by first | rfl | (simp [errW_none, errW_some] <;> rfl) | (simp [*, errW_none, errW_some] <;> rfl), by repeat (first | (with_reducible first | exact HB.out | apply below_alloc | apply pw_below_drewN | apply below_drew1 | refine below_set ?_ GE912.out) | exact HB.out)⟩
     rw [if_neg c76] at H
     have c76b0 : decide (((rd_T49 t917 x12_2).f0) < 0) = false := decide_eq_false c76
     clear c76
     by_cases c80 : ((rd_T49 t917 x12_2).f1) ≥ (l0_0.length : Int)
     ·rw [if_pos c80] at H
      have c80b0 : decide ((l0_0.length : Int) ≤ ((rd_T49 t917 x12_2).f1)) = true := decide_eq_true c80
      clear c80
      obtain rfl := Option.some.inj H
      obtain ⟨Ao81, co81, eo81⟩ := Kd.R_slice HO_9.out
      subst eo81
      try go_wp2
      replace HO_1 := Aside0.mk (Kd.R_drew HO_1.out)
      replace HO_2 := Aside0.mk (Kd.R_drew HO_2.out)
      replace HO_9 := Aside0.mk (Kd.R_drew HO_9.out)
      replace BK912 := Aside0.mk (blk_drew BK912.out)
      replace HB := Aside0.mk (below_drew1 HB.out)
      have p940 : 0 ≤ (x12_2 : Int) := of_decide_eq_true (by first | (with_reducible assumption) | assumption)
      have q940 : x12_2 < (t917.length : Int) := of_decide_eq_true (by first | (with_reducible assumption) | assumption)
      obtain ⟨ad940, e940, hx940_0, hx940_1⟩ := at_T49 (Kd.R_reads' HO_9.out).2.2 x12_2 p940 q940
      cases e940
      replace p940 := eq_true p940
      replace q940 := eq_true q940
      have p941 : 0 ≤ (x12_2 : Int) := of_decide_eq_true (by first | (with_reducible assumption) | assumption)
      have q941 : x12_2 < (t917.length : Int) := of_decide_eq_true (by first | (with_reducible assumption) | assumption)
      obtain ⟨ad941, e941, hx941_0, hx941_1⟩ := at_T49 (Kd.R_reads' HO_9.out).2.2 x12_2 p941 q941
      obtain rfl : ad940 = ad941 := (by injection e941)
      replace p941 := eq_true p941
      replace q941 := eq_true q941
      refine start_ (n := 12) (S := fun w' => w'.cell? (ad940.add ((x12_2).toNat * 2)) = some (.int .i64 ((rd_T49 t917 x12_2).f0)) ∧ w'.cell? ⟨(ad940.add ((x12_2).toNat * 2)).block, (ad940.add ((x12_2).toNat * 2)).off + 1, none⟩ = some (.int .i64 ((rd_T49 t917 x12_2).f1)) ∧ w'.cell? (ad940.add ((x12_2).toNat * 2)) = some (.int .i64 ((rd_T49 t917 x12_2).f0)) ∧ w'.cell? ⟨(ad940.add ((x12_2).toNat * 2)).block, (ad940.add ((x12_2).toNat * 2)).off + 1, none⟩ = some (.int .i64 ((rd_T49 t917 x12_2).f1))) (ds := []) #[false, false, false, false, false, false, false, false, false, false, false, false] (by kernel_rfl) rfl rfl ⟨hx940_0, hx940_1, hx941_0, hx941_1⟩ (fun hHeld => ?_); refine with_tabW mizmazetop_TopHome.tab14 mizmazetop_TopHome.bits14 (fun HT_ HW_ => ?_)
      generalize wr.drew = w82 at HO_1 HO_2 HO_9 BK912 HB hx940_0 hx940_1 hx941_0 hx941_1 hHeld ⊢
      refine pv_ 0 107 tth48 HT_ ?_
      refine pv_ 1 108 tth49 HT_ ?_
      refine pv_ 2 109 tth50 HT_ ?_
      refine pv_ 3 110 tth51 HT_ ?_
      refine pv_ 5 112 tth52 HT_ ?_
      refine pv_ 6 113 tth53 HT_ ?_
      refine pv_ 7 114 tth54 HT_ ?_
      refine pv_ 8 115 tth55 HT_ ?_
      refine tv_ 4 111 tth56 HT_ HW_ hHeld ?_
      refine pv_ 10 13 tth57 HT_ ?_
      refine tv_ 9 116 tth58 HT_ HW_ hHeld ?_
      refine pv_ 11 14 tth59 HT_ ?_
      refine done_ (done_of HT_.out (by kernel_rfl)) ?_
      try go_wp2
      replace HO_1 := Aside0.mk (Kd.R_drew HO_1.out)
      replace HO_2 := Aside0.mk (Kd.R_drew HO_2.out)
      replace HO_9 := Aside0.mk (Kd.R_drew HO_9.out)
      replace BK912 := Aside0.mk (blk_drew BK912.out)
      replace HB := Aside0.mk (below_drew1 HB.out)
      refine start_ (n := 40) (S := fun w' => True) (ds := []) #[false, false, false, false, false, false, false, false, false, false, false, false, false, false, false, false, false, false, false, false, false, false, false, false, false, false, false, false, false, false, false, false, false, false, false, false, false, false, false, false] (by kernel_rfl) rfl rfl trivial (fun hHeld => ?_); refine with_tabW mizmazetop_TopHome.tab15 mizmazetop_TopHome.bits15 (fun HT_ HW_ => ?_)
      generalize w82.drew = w83 at HO_1 HO_2 HO_9 BK912 HB hHeld ⊢
      refine pv_ 0 117 tth60 HT_ ?_
      refine pv_ 1 118 tth61 HT_ ?_
      refine pv_ 2 119 tth62 HT_ ?_
      refine pv_ 3 120 tth63 HT_ ?_
      refine pv_ 4 121 tth64 HT_ ?_
      refine pv_ 5 122 tth65 HT_ ?_
      refine pv_ 6 123 tth66 HT_ ?_
      refine pv_ 7 124 tth67 HT_ ?_
      refine pu_ 8 125 tth68 HT_ ?_
      refine pu_ 9 126 tth69 HT_ ?_
      refine pu_ 10 127 tth70 HT_ ?_
      refine pv_ 11 128 tth71 HT_ ?_
      refine pv_ 12 129 tth72 HT_ ?_
      refine pu_ 13 130 tth73 HT_ ?_
      refine pu_ 14 131 tth74 HT_ ?_
      refine pu_ 15 132 tth75 HT_ ?_
      refine pu_ 16 133 tth76 HT_ ?_
      refine pu_ 17 134 tth77 HT_ ?_
      refine pu_ 18 135 tth78 HT_ ?_
      refine pu_ 19 136 tth79 HT_ ?_
      refine pu_ 20 137 tth80 HT_ ?_
      refine pu_ 21 138 tth81 HT_ ?_
      refine pv_ 22 139 tth82 HT_ ?_
      refine pv_ 23 140 tth83 HT_ ?_
      refine pu_ 24 141 tth84 HT_ ?_
      refine pu_ 25 142 tth85 HT_ ?_
      refine pu_ 26 143 tth86 HT_ ?_
      refine pu_ 27 144 tth87 HT_ ?_
      refine pu_ 28 145 tth88 HT_ ?_
      refine pu_ 29 146 tth89 HT_ ?_
      refine pu_ 30 147 tth90 HT_ ?_
      refine pu_ 31 148 tth91 HT_ ?_
      refine pu_ 32 149 tth92 HT_ ?_
      refine pu_ 33 150 tth93 HT_ ?_
      refine pu_ 34 151 tth94 HT_ ?_
      refine pu_ 35 152 tth95 HT_ ?_
      refine pu_ 36 153 tth96 HT_ ?_
      refine pu_ 37 154 tth97 HT_ ?_
      refine pu_ 38 155 tth98 HT_ ?_
      refine pv_ 39 156 tth99 HT_ ?_
      refine done_ (done_of HT_.out (by kernel_rfl)) ?_
      try go_wp2
      go_ret
      exact ⟨by first | rfl | (simp [errW_none, errW_some] <;> rfl) | (simp [*, errW_none, errW_some] <;> rfl), by repeat (first | (with_reducible first | exact HB.out | apply below_alloc | apply pw_below_drewN | apply below_drew1 | refine below_set ?_ GE912.out) | exact HB.out)⟩
     rw [if_neg c80] at H
     have c80b0 : decide ((l0_0.length : Int) ≤ ((rd_T49 t917 x12_2).f1)) = false := decide_eq_false c80
     clear c80
     by_cases c84 : ((rd_T49 t917 x12_2).f0) ≥ ((rd_T49 t917 x12_2).f1)
     ·rw [if_pos c84] at H
      have c84b0 : decide (((rd_T49 t917 x12_2).f1) ≤ ((rd_T49 t917 x12_2).f0)) = true := decide_eq_true c84
      clear c84
      obtain rfl := Option.some.inj H
      obtain ⟨Ao85, co85, eo85⟩ := Kd.R_slice HO_9.out
      subst eo85
      try go_wp2
      replace HO_1 := Aside0.mk (Kd.R_drew HO_1.out)
      replace HO_2 := Aside0.mk (Kd.R_drew HO_2.out)
      replace HO_9 := Aside0.mk (Kd.R_drew HO_9.out)
      replace BK912 := Aside0.mk (blk_drew BK912.out)
      replace HB := Aside0.mk (below_drew1 HB.out)
      have p940 : 0 ≤ (x12_2 : Int) := of_decide_eq_true (by first | (with_reducible assumption) | assumption)
      have q940 : x12_2 < (t917.length : Int) := of_decide_eq_true (by first | (with_reducible assumption) | assumption)
      obtain ⟨ad940, e940, hx940_0, hx940_1⟩ := at_T49 (Kd.R_reads' HO_9.out).2.2 x12_2 p940 q940
      cases e940
      replace p940 := eq_true p940
      replace q940 := eq_true q940
      have p941 : 0 ≤ (x12_2 : Int) := of_decide_eq_true (by first | (with_reducible assumption) | assumption)
      have q941 : x12_2 < (t917.length : Int) := of_decide_eq_true (by first | (with_reducible assumption) | assumption)
      obtain ⟨ad941, e941, hx941_0, hx941_1⟩ := at_T49 (Kd.R_reads' HO_9.out).2.2 x12_2 p941 q941
      obtain rfl : ad940 = ad941 := (by injection e941)
      replace p941 := eq_true p941
      replace q941 := eq_true q941
      refine start_ (n := 12) (S := fun w' => w'.cell? (ad940.add ((x12_2).toNat * 2)) = some (.int .i64 ((rd_T49 t917 x12_2).f0)) ∧ w'.cell? ⟨(ad940.add ((x12_2).toNat * 2)).block, (ad940.add ((x12_2).toNat * 2)).off + 1, none⟩ = some (.int .i64 ((rd_T49 t917 x12_2).f1)) ∧ w'.cell? (ad940.add ((x12_2).toNat * 2)) = some (.int .i64 ((rd_T49 t917 x12_2).f0)) ∧ w'.cell? ⟨(ad940.add ((x12_2).toNat * 2)).block, (ad940.add ((x12_2).toNat * 2)).off + 1, none⟩ = some (.int .i64 ((rd_T49 t917 x12_2).f1))) (ds := []) #[false, false, false, false, false, false, false, false, false, false, false, false] (by kernel_rfl) rfl rfl ⟨hx940_0, hx940_1, hx941_0, hx941_1⟩ (fun hHeld => ?_); refine with_tabW mizmazetop_TopHome.tab14 mizmazetop_TopHome.bits14 (fun HT_ HW_ => ?_)
      generalize wr.drew = w86 at HO_1 HO_2 HO_9 BK912 HB hx940_0 hx940_1 hx941_0 hx941_1 hHeld ⊢
      refine pv_ 0 107 tth48 HT_ ?_
      refine pv_ 1 108 tth49 HT_ ?_
      refine pv_ 2 109 tth50 HT_ ?_
      refine pv_ 3 110 tth51 HT_ ?_
      refine pv_ 5 112 tth52 HT_ ?_
      refine pv_ 6 113 tth53 HT_ ?_
      refine pv_ 7 114 tth54 HT_ ?_
      refine pv_ 8 115 tth55 HT_ ?_
      refine tv_ 4 111 tth56 HT_ HW_ hHeld ?_
      refine pv_ 10 13 tth57 HT_ ?_
      refine tv_ 9 116 tth58 HT_ HW_ hHeld ?_
      refine pv_ 11 14 tth59 HT_ ?_
      refine done_ (done_of HT_.out (by kernel_rfl)) ?_
      try go_wp2
      replace HO_1 := Aside0.mk (Kd.R_drew HO_1.out)
      replace HO_2 := Aside0.mk (Kd.R_drew HO_2.out)
      replace HO_9 := Aside0.mk (Kd.R_drew HO_9.out)
      replace BK912 := Aside0.mk (blk_drew BK912.out)
      replace HB := Aside0.mk (below_drew1 HB.out)
      refine start_ (n := 40) (S := fun w' => True) (ds := []) #[false, false, false, false, false, false, false, false, false, false, false, false, false, false, false, false, false, false, false, false, false, false, false, false, false, false, false, false, false, false, false, false, false, false, false, false, false, false, false, false] (by kernel_rfl) rfl rfl trivial (fun hHeld => ?_); refine with_tabW mizmazetop_TopHome.tab15 mizmazetop_TopHome.bits15 (fun HT_ HW_ => ?_)
      generalize w86.drew = w87 at HO_1 HO_2 HO_9 BK912 HB hHeld ⊢
      refine pv_ 0 117 tth60 HT_ ?_
      refine pv_ 1 118 tth61 HT_ ?_
      refine pv_ 2 119 tth62 HT_ ?_
      refine pv_ 3 120 tth63 HT_ ?_
      refine pv_ 4 121 tth64 HT_ ?_
      refine pv_ 5 122 tth65 HT_ ?_
      refine pv_ 6 123 tth66 HT_ ?_
      refine pv_ 7 124 tth67 HT_ ?_
      refine pv_ 8 125 tth68 HT_ ?_
      refine pv_ 9 126 tth69 HT_ ?_
      refine pv_ 10 127 tth70 HT_ ?_
      refine pv_ 11 128 tth71 HT_ ?_
      refine pv_ 12 129 tth72 HT_ ?_
      refine pu_ 13 130 tth73 HT_ ?_
      refine pu_ 14 131 tth74 HT_ ?_
      refine pu_ 15 132 tth75 HT_ ?_
      refine pu_ 16 133 tth76 HT_ ?_
      refine pu_ 17 134 tth77 HT_ ?_
      refine pu_ 18 135 tth78 HT_ ?_
      refine pu_ 19 136 tth79 HT_ ?_
      refine pu_ 20 137 tth80 HT_ ?_
      refine pu_ 21 138 tth81 HT_ ?_
      refine pv_ 22 139 tth82 HT_ ?_
      refine pv_ 23 140 tth83 HT_ ?_
      refine pu_ 24 141 tth84 HT_ ?_
      refine pu_ 25 142 tth85 HT_ ?_
      refine pu_ 26 143 tth86 HT_ ?_
      refine pu_ 27 144 tth87 HT_ ?_
      refine pu_ 28 145 tth88 HT_ ?_
      refine pu_ 29 146 tth89 HT_ ?_
      refine pu_ 30 147 tth90 HT_ ?_
      refine pu_ 31 148 tth91 HT_ ?_
      refine pu_ 32 149 tth92 HT_ ?_
      refine pu_ 33 150 tth93 HT_ ?_
      refine pu_ 34 151 tth94 HT_ ?_
      refine pu_ 35 152 tth95 HT_ ?_
      refine pu_ 36 153 tth96 HT_ ?_
      refine pu_ 37 154 tth97 HT_ ?_
      refine pu_ 38 155 tth98 HT_ ?_
      refine pv_ 39 156 tth99 HT_ ?_
      refine done_ (done_of HT_.out (by kernel_rfl)) ?_
      try go_wp2
      go_ret
      exact ⟨by first | rfl | (simp [errW_none, errW_some] <;> rfl) | (simp [*, errW_none, errW_some] <;> rfl), by repeat (first | (with_reducible first | exact HB.out | apply below_alloc | apply pw_below_drewN | apply below_drew1 | refine below_set ?_ GE912.out) | exact HB.out)⟩
     rw [if_neg c84] at H
     have c84b0 : decide (((rd_T49 t917 x12_2).f1) ≤ ((rd_T49 t917 x12_2).f0)) = false := decide_eq_false c84
     clear c84
     replace H := Option.bind_eq_some_iff.mp H
     obtain ⟨t942, A880, H⟩ := H
     replace H : ((mizmazetop_lead.f k2 l0_0 ((rd_T49 t917 x12_2).f1) t923).bind fun t943 => (if t942 = t943 then (some false) else ((mizmazetop_joined.f k2 (([t923, t926] : List (List Int)))).bind fun t947 => ((mizmazetop_lead.f k2 l0_0 ((rd_T49 t917 x12_2).f0) t947).bind fun t950 => ((mizmazetop_joined.f k2 (([t923, t926] : List (List Int)))).bind fun t954 => ((mizmazetop_lead.f k2 l0_0 ((rd_T49 t917 x12_2).f1) t954).bind fun t957 => (if t950 = t957 then (some false) else (mizmazetop_TopHome.l0 k2 t923 t926 t917 (l0_0.length : Int) (wrap64 (x12_2 + 1)) l0_0)))))))) = some r := H
     have A88 := Aside0.mk A880
     clear A880
     replace H := Option.bind_eq_some_iff.mp H
     obtain ⟨t943, A890, H⟩ := H
     replace H : (if t942 = t943 then (some false) else ((mizmazetop_joined.f k2 (([t923, t926] : List (List Int)))).bind fun t947 => ((mizmazetop_lead.f k2 l0_0 ((rd_T49 t917 x12_2).f0) t947).bind fun t950 => ((mizmazetop_joined.f k2 (([t923, t926] : List (List Int)))).bind fun t954 => ((mizmazetop_lead.f k2 l0_0 ((rd_T49 t917 x12_2).f1) t954).bind fun t957 => (if t950 = t957 then (some false) else (mizmazetop_TopHome.l0 k2 t923 t926 t917 (l0_0.length : Int) (wrap64 (x12_2 + 1)) l0_0))))))) = some r := H
     have A89 := Aside0.mk A890
     clear A890
     by_cases c90 : t942 = t943
     ·rw [if_pos c90] at H
      have c90b0 : (t942 == t943) = true := beq_iff_eq.mpr c90
      have c90b1 : (t942 != t943) = false := bne_eq_false_iff_eq.mpr c90
      clear c90
      obtain rfl := Option.some.inj H
      obtain ⟨Ao91, co91, eo91⟩ := Kd.R_slice HO_9.out
      subst eo91
      try go_wp2
      replace HO_1 := Aside0.mk (Kd.R_drew HO_1.out)
      replace HO_2 := Aside0.mk (Kd.R_drew HO_2.out)
      replace HO_9 := Aside0.mk (Kd.R_drew HO_9.out)
      replace BK912 := Aside0.mk (blk_drew BK912.out)
      replace HB := Aside0.mk (below_drew1 HB.out)
      have p940 : 0 ≤ (x12_2 : Int) := of_decide_eq_true (by first | (with_reducible assumption) | assumption)
      have q940 : x12_2 < (t917.length : Int) := of_decide_eq_true (by first | (with_reducible assumption) | assumption)
      obtain ⟨ad940, e940, hx940_0, hx940_1⟩ := at_T49 (Kd.R_reads' HO_9.out).2.2 x12_2 p940 q940
      cases e940
      replace p940 := eq_true p940
      replace q940 := eq_true q940
      have p941 : 0 ≤ (x12_2 : Int) := of_decide_eq_true (by first | (with_reducible assumption) | assumption)
      have q941 : x12_2 < (t917.length : Int) := of_decide_eq_true (by first | (with_reducible assumption) | assumption)
      obtain ⟨ad941, e941, hx941_0, hx941_1⟩ := at_T49 (Kd.R_reads' HO_9.out).2.2 x12_2 p941 q941
      obtain rfl : ad940 = ad941 := (by injection e941)
      replace p941 := eq_true p941
      replace q941 := eq_true q941
      refine start_ (n := 12) (S := fun w' => w'.cell? (ad940.add ((x12_2).toNat * 2)) = some (.int .i64 ((rd_T49 t917 x12_2).f0)) ∧ w'.cell? ⟨(ad940.add ((x12_2).toNat * 2)).block, (ad940.add ((x12_2).toNat * 2)).off + 1, none⟩ = some (.int .i64 ((rd_T49 t917 x12_2).f1)) ∧ w'.cell? (ad940.add ((x12_2).toNat * 2)) = some (.int .i64 ((rd_T49 t917 x12_2).f0)) ∧ w'.cell? ⟨(ad940.add ((x12_2).toNat * 2)).block, (ad940.add ((x12_2).toNat * 2)).off + 1, none⟩ = some (.int .i64 ((rd_T49 t917 x12_2).f1))) (ds := []) #[false, false, false, false, false, false, false, false, false, false, false, false] (by kernel_rfl) rfl rfl ⟨hx940_0, hx940_1, hx941_0, hx941_1⟩ (fun hHeld => ?_); refine with_tabW mizmazetop_TopHome.tab14 mizmazetop_TopHome.bits14 (fun HT_ HW_ => ?_)
      generalize wr.drew = w92 at HO_1 HO_2 HO_9 BK912 HB hx940_0 hx940_1 hx941_0 hx941_1 hHeld ⊢
      refine pv_ 0 107 tth48 HT_ ?_
      refine pv_ 1 108 tth49 HT_ ?_
      refine pv_ 2 109 tth50 HT_ ?_
      refine pv_ 3 110 tth51 HT_ ?_
      refine pv_ 5 112 tth52 HT_ ?_
      refine pv_ 6 113 tth53 HT_ ?_
      refine pv_ 7 114 tth54 HT_ ?_
      refine pv_ 8 115 tth55 HT_ ?_
      refine tv_ 4 111 tth56 HT_ HW_ hHeld ?_
      refine pv_ 10 13 tth57 HT_ ?_
      refine tv_ 9 116 tth58 HT_ HW_ hHeld ?_
      refine pv_ 11 14 tth59 HT_ ?_
      refine done_ (done_of HT_.out (by kernel_rfl)) ?_
      try go_wp2
      replace HO_1 := Aside0.mk (Kd.R_drew HO_1.out)
      replace HO_2 := Aside0.mk (Kd.R_drew HO_2.out)
      replace HO_9 := Aside0.mk (Kd.R_drew HO_9.out)
      replace BK912 := Aside0.mk (blk_drew BK912.out)
      replace HB := Aside0.mk (below_drew1 HB.out)
      obtain ⟨Ao94, co94, eo94⟩ := Kd.R_slice HO_1.out
      (first | subst eo94 | (injection eo94 with f1_ f2_ f3_; have f4_ := f1_.symm; have f5_ := f3_.symm; clear f1_ f2_ f3_; subst f4_; subst f5_))
      refine start_ (n := 40) (S := fun w' => w'.cell? ⟨gb912, 0, none⟩ = some (.slice A0_0 l0_0.length c0_0)) (ds := []) #[false, false, false, false, false, false, false, false, false, false, false, false, false, false, false, false, false, false, false, false, false, false, false, false, false, false, false, false, false, false, false, false, false, false, false, false, false, false, false, false] (by kernel_rfl) rfl rfl ((blk_cell BK912.out 0).trans rfl) (fun hHeld => ?_); refine with_tabW mizmazetop_TopHome.tab15 mizmazetop_TopHome.bits15 (fun HT_ HW_ => ?_)
      generalize w92.drew = w93 at HO_1 HO_2 HO_9 BK912 HB hHeld ⊢
      refine pv_ 0 117 tth60 HT_ ?_
      refine pv_ 1 118 tth61 HT_ ?_
      refine pv_ 2 119 tth62 HT_ ?_
      refine pv_ 3 120 tth63 HT_ ?_
      refine pv_ 4 121 tth64 HT_ ?_
      refine pv_ 5 122 tth65 HT_ ?_
      refine pv_ 6 123 tth66 HT_ ?_
      refine pv_ 7 124 tth67 HT_ ?_
      refine pv_ 8 125 tth68 HT_ ?_
      refine pv_ 9 126 tth69 HT_ ?_
      refine pv_ 10 127 tth70 HT_ ?_
      refine pv_ 11 128 tth71 HT_ ?_
      refine pv_ 12 129 tth72 HT_ ?_
      refine pv_ 14 131 tth100 HT_ ?_
      refine pv_ 15 132 tth101 HT_ ?_
      refine pv_ 18 135 tth102 HT_ ?_
      refine pv_ 19 136 tth103 HT_ ?_
      refine tv_ 13 130 tth104 HT_ HW_ hHeld ?_
      refine tv_ 17 134 tth105 HT_ HW_ hHeld ?_
      refine one_ (i := 16) (N := some 133) tth79 rfl rfl (one_of HT_.out (by kernel_rfl)) (by decide) (fun K hK => ?_)
      refine goes_ Try.func35 (by kernel_rfl) rfl #[.agg #[.slice A0_0 l0_0.length c0_0], .int .i64 ((rd_T49 t917 x12_2).f0), .slice Ao94 t923.length co94] (by rfl) rfl rfl (by (try simp only [List.map_toArray, List.map_cons, List.map_nil]); first | done | rfl | (simp only [List.length_drop, List.length_take]; rfl)) ?_
      with_reducible refine (mizmazetop_lead.calls k2 _ _ l0_0 ((rd_T49 t917 x12_2).f0) _ _ t923 t942 _ ?side1 ?side2 ?side3 ?side4 A88.out).mono ?_
      (case side1 => repeat (first | exact (Kd.C_below HR0_0.out HB.out) | (with_reducible refine Kd.C_alloc ?_ _) | (with_reducible refine Kd.C_drewN ?_ _) | (with_reducible refine Kd.C_drew ?_)))
      (case side2 => exact HC0_0.out)
      (case side3 => repeat (first | exact (Kd.R_reads' HO_1.out).2.2 | (with_reducible refine Kd.C_alloc ?_ _) | (with_reducible refine Kd.C_drewN ?_ _) | (with_reducible refine Kd.C_drew ?_)))
      (case side4 => exact (Kd.R_reads' HO_1.out).2.1)
      rintro e w95 ⟨rfl, hb⟩
      refine ⟨_, rfl, ?_⟩
      replace HO_1 := Aside0.mk (Kd.R_below HO_1.out hb)
      replace HO_2 := Aside0.mk (Kd.R_below HO_2.out hb)
      replace HO_9 := Aside0.mk (Kd.R_below HO_9.out hb)
      replace BK912 := Aside0.mk (blk_below (g := gb912) (o := .cells #[.slice A0_0 l0_0.length c0_0] 24 (0, 0)) BK912.out hb)
      replace HB := Aside0.mk (below_step HB.out hb)
      (try clear hb)
      (try clear hb2)
      (try clear hk)
      (try clear hi)
      refine hK.out _ _ ((blk_cell BK912.out 0).trans rfl) (fun hHeld => ?_)
      clear hK K
      refine nm_ 133 ?_
      refine one_ (i := 20) (N := some 137) tth80 rfl rfl (one_of HT_.out (by kernel_rfl)) (by decide) (fun K hK => ?_)
      refine goes_ Try.func35 (by kernel_rfl) rfl #[.agg #[.slice A0_0 l0_0.length c0_0], .int .i64 ((rd_T49 t917 x12_2).f1), .slice Ao94 t923.length co94] (by rfl) rfl rfl (by (try simp only [List.map_toArray, List.map_cons, List.map_nil]); first | done | rfl | (simp only [List.length_drop, List.length_take]; rfl)) ?_
      with_reducible refine (mizmazetop_lead.calls k2 _ _ l0_0 ((rd_T49 t917 x12_2).f1) _ _ t923 t943 _ ?side1 ?side2 ?side3 ?side4 A89.out).mono ?_
      (case side1 => repeat (first | exact (Kd.C_below HR0_0.out HB.out) | (with_reducible refine Kd.C_alloc ?_ _) | (with_reducible refine Kd.C_drewN ?_ _) | (with_reducible refine Kd.C_drew ?_)))
      (case side2 => exact HC0_0.out)
      (case side3 => repeat (first | exact (Kd.R_reads' HO_1.out).2.2 | (with_reducible refine Kd.C_alloc ?_ _) | (with_reducible refine Kd.C_drewN ?_ _) | (with_reducible refine Kd.C_drew ?_)))
      (case side4 => exact (Kd.R_reads' HO_1.out).2.1)
      rintro e w96 ⟨rfl, hb⟩
      refine ⟨_, rfl, ?_⟩
      replace HO_1 := Aside0.mk (Kd.R_below HO_1.out hb)
      replace HO_2 := Aside0.mk (Kd.R_below HO_2.out hb)
      replace HO_9 := Aside0.mk (Kd.R_below HO_9.out hb)
      replace BK912 := Aside0.mk (blk_below (g := gb912) (o := .cells #[.slice A0_0 l0_0.length c0_0] 24 (0, 0)) BK912.out hb)
      replace HB := Aside0.mk (below_step HB.out hb)
      (try clear hb)
      (try clear hb2)
      (try clear hk)
      (try clear hi)
      refine hK.out _ _ ((blk_cell BK912.out 0).trans rfl) (fun hHeld => ?_)
      clear hK K
      refine nm_ 137 ?_
      refine pv_ 21 138 tth81 HT_ ?_
      refine pv_ 22 139 tth82 HT_ ?_
      refine pv_ 23 140 tth83 HT_ ?_
      refine pu_ 24 141 tth84 HT_ ?_
      refine pu_ 25 142 tth85 HT_ ?_
      refine pu_ 26 143 tth86 HT_ ?_
      refine pu_ 27 144 tth87 HT_ ?_
      refine pu_ 28 145 tth88 HT_ ?_
      refine pu_ 29 146 tth89 HT_ ?_
      refine pu_ 30 147 tth90 HT_ ?_
      refine pu_ 31 148 tth91 HT_ ?_
      refine pu_ 32 149 tth92 HT_ ?_
      refine pu_ 33 150 tth93 HT_ ?_
      refine pu_ 34 151 tth94 HT_ ?_
      refine pu_ 35 152 tth95 HT_ ?_
      refine pu_ 36 153 tth96 HT_ ?_
      refine pu_ 37 154 tth97 HT_ ?_
      refine pu_ 38 155 tth98 HT_ ?_
      refine pv_ 39 156 tth99 HT_ ?_
      refine done_ (done_of HT_.out (by kernel_rfl)) ?_
      try go_wp2
      go_ret
      exact ⟨by first | rfl | (simp [errW_none, errW_some] <;> rfl) | (simp [*, errW_none, errW_some] <;> rfl), by repeat (first | (with_reducible first | exact HB.out | apply below_alloc | apply pw_below_drewN | apply below_drew1 | refine below_set ?_ GE912.out) | exact HB.out)⟩
     rw [if_neg c90] at H
     have c90b0 : (t942 == t943) = false := beq_eq_false_iff_ne.mpr c90
     have c90b1 : (t942 != t943) = true := bne_iff_ne.mpr c90
     obtain ⟨y944, hy944⟩ : ∃ y_ : List (List Int), y_ = (([t923, t926] : List (List Int))) := ⟨_, rfl⟩
     replace H : ((mizmazetop_joined.f k2 y944).bind fun t947 => ((mizmazetop_lead.f k2 l0_0 ((rd_T49 t917 x12_2).f0) t947).bind fun t950 => ((mizmazetop_joined.f k2 (([t923, t926] : List (List Int)))).bind fun t954 => ((mizmazetop_lead.f k2 l0_0 ((rd_T49 t917 x12_2).f1) t954).bind fun t957 => (if t950 = t957 then (some false) else (mizmazetop_TopHome.l0 k2 t923 t926 t917 (l0_0.length : Int) (wrap64 (x12_2 + 1)) l0_0)))))) = some r := by first | (rw [hy944]; with_reducible exact H) | (have H2_ := (Option.bind_some _ _).symm.trans H; rw [hy944]; with_reducible exact H2_) | (have H2_ := (Option.bind_some _ _).symm.trans H; with_reducible exact H2_) | with_reducible exact H | (rw [hy944]; exact H) | exact H
     have Ny944 := Aside0.mk hy944
     clear hy944
     replace H := Option.bind_eq_some_iff.mp H
     obtain ⟨t947, A970, H⟩ := H
     replace H : ((mizmazetop_lead.f k2 l0_0 ((rd_T49 t917 x12_2).f0) t947).bind fun t950 => ((mizmazetop_joined.f k2 (([t923, t926] : List (List Int)))).bind fun t954 => ((mizmazetop_lead.f k2 l0_0 ((rd_T49 t917 x12_2).f1) t954).bind fun t957 => (if t950 = t957 then (some false) else (mizmazetop_TopHome.l0 k2 t923 t926 t917 (l0_0.length : Int) (wrap64 (x12_2 + 1)) l0_0))))) = some r := H
     have A97 := Aside0.mk A970
     clear A970
     replace H := Option.bind_eq_some_iff.mp H
     obtain ⟨t950, A980, H⟩ := H
     replace H : ((mizmazetop_joined.f k2 (([t923, t926] : List (List Int)))).bind fun t954 => ((mizmazetop_lead.f k2 l0_0 ((rd_T49 t917 x12_2).f1) t954).bind fun t957 => (if t950 = t957 then (some false) else (mizmazetop_TopHome.l0 k2 t923 t926 t917 (l0_0.length : Int) (wrap64 (x12_2 + 1)) l0_0)))) = some r := H
     have A98 := Aside0.mk A980
     clear A980
     obtain ⟨y951, hy951⟩ : ∃ y_ : List (List Int), y_ = (([t923, t926] : List (List Int))) := ⟨_, rfl⟩
     replace H : ((mizmazetop_joined.f k2 y951).bind fun t954 => ((mizmazetop_lead.f k2 l0_0 ((rd_T49 t917 x12_2).f1) t954).bind fun t957 => (if t950 = t957 then (some false) else (mizmazetop_TopHome.l0 k2 t923 t926 t917 (l0_0.length : Int) (wrap64 (x12_2 + 1)) l0_0)))) = some r := by first | (rw [hy951]; with_reducible exact H) | (have H2_ := (Option.bind_some _ _).symm.trans H; rw [hy951]; with_reducible exact H2_) | (have H2_ := (Option.bind_some _ _).symm.trans H; with_reducible exact H2_) | with_reducible exact H | (rw [hy951]; exact H) | exact H
     have Ny951 := Aside0.mk hy951
     clear hy951
     replace H := Option.bind_eq_some_iff.mp H
     obtain ⟨t954, A990, H⟩ := H
     replace H : ((mizmazetop_lead.f k2 l0_0 ((rd_T49 t917 x12_2).f1) t954).bind fun t957 => (if t950 = t957 then (some false) else (mizmazetop_TopHome.l0 k2 t923 t926 t917 (l0_0.length : Int) (wrap64 (x12_2 + 1)) l0_0))) = some r := H
     have A99 := Aside0.mk A990
     clear A990
     replace H := Option.bind_eq_some_iff.mp H
     obtain ⟨t957, A1000, H⟩ := H
     replace H : (if t950 = t957 then (some false) else (mizmazetop_TopHome.l0 k2 t923 t926 t917 (l0_0.length : Int) (wrap64 (x12_2 + 1)) l0_0)) = some r := H
     have A100 := Aside0.mk A1000
     clear A1000
     by_cases c101 : t950 = t957
     ·rw [if_pos c101] at H
      have c101b0 : (t950 == t957) = true := beq_iff_eq.mpr c101
      have c101b1 : (t950 != t957) = false := bne_eq_false_iff_eq.mpr c101
      clear c101
      obtain rfl := Option.some.inj H
      obtain ⟨Ao102, co102, eo102⟩ := Kd.R_slice HO_9.out
      subst eo102
      try go_wp2
      replace HO_1 := Aside0.mk (Kd.R_drew HO_1.out)
      replace HO_2 := Aside0.mk (Kd.R_drew HO_2.out)
      replace HO_9 := Aside0.mk (Kd.R_drew HO_9.out)
      replace BK912 := Aside0.mk (blk_drew BK912.out)
      replace HB := Aside0.mk (below_drew1 HB.out)
      have p940 : 0 ≤ (x12_2 : Int) := of_decide_eq_true (by first | (with_reducible assumption) | assumption)
      have q940 : x12_2 < (t917.length : Int) := of_decide_eq_true (by first | (with_reducible assumption) | assumption)
      obtain ⟨ad940, e940, hx940_0, hx940_1⟩ := at_T49 (Kd.R_reads' HO_9.out).2.2 x12_2 p940 q940
      cases e940
      replace p940 := eq_true p940
      replace q940 := eq_true q940
      have p941 : 0 ≤ (x12_2 : Int) := of_decide_eq_true (by first | (with_reducible assumption) | assumption)
      have q941 : x12_2 < (t917.length : Int) := of_decide_eq_true (by first | (with_reducible assumption) | assumption)
      obtain ⟨ad941, e941, hx941_0, hx941_1⟩ := at_T49 (Kd.R_reads' HO_9.out).2.2 x12_2 p941 q941
      obtain rfl : ad940 = ad941 := (by injection e941)
      replace p941 := eq_true p941
      replace q941 := eq_true q941
      refine start_ (n := 12) (S := fun w' => w'.cell? (ad940.add ((x12_2).toNat * 2)) = some (.int .i64 ((rd_T49 t917 x12_2).f0)) ∧ w'.cell? ⟨(ad940.add ((x12_2).toNat * 2)).block, (ad940.add ((x12_2).toNat * 2)).off + 1, none⟩ = some (.int .i64 ((rd_T49 t917 x12_2).f1)) ∧ w'.cell? (ad940.add ((x12_2).toNat * 2)) = some (.int .i64 ((rd_T49 t917 x12_2).f0)) ∧ w'.cell? ⟨(ad940.add ((x12_2).toNat * 2)).block, (ad940.add ((x12_2).toNat * 2)).off + 1, none⟩ = some (.int .i64 ((rd_T49 t917 x12_2).f1))) (ds := []) #[false, false, false, false, false, false, false, false, false, false, false, false] (by kernel_rfl) rfl rfl ⟨hx940_0, hx940_1, hx941_0, hx941_1⟩ (fun hHeld => ?_); refine with_tabW mizmazetop_TopHome.tab14 mizmazetop_TopHome.bits14 (fun HT_ HW_ => ?_)
      generalize wr.drew = w103 at HO_1 HO_2 HO_9 BK912 HB hx940_0 hx940_1 hx941_0 hx941_1 hHeld ⊢
      refine pv_ 0 107 tth48 HT_ ?_
      refine pv_ 1 108 tth49 HT_ ?_
      refine pv_ 2 109 tth50 HT_ ?_
      refine pv_ 3 110 tth51 HT_ ?_
      refine pv_ 5 112 tth52 HT_ ?_
      refine pv_ 6 113 tth53 HT_ ?_
      refine pv_ 7 114 tth54 HT_ ?_
      refine pv_ 8 115 tth55 HT_ ?_
      refine tv_ 4 111 tth56 HT_ HW_ hHeld ?_
      refine pv_ 10 13 tth57 HT_ ?_
      refine tv_ 9 116 tth58 HT_ HW_ hHeld ?_
      refine pv_ 11 14 tth59 HT_ ?_
      refine done_ (done_of HT_.out (by kernel_rfl)) ?_
      obtain ⟨Ao104, co104, eo104⟩ := Kd.R_slice HO_1.out
      subst eo104
      try go_wp2
      replace HO_1 := Aside0.mk (Kd.R_drew HO_1.out)
      replace HO_2 := Aside0.mk (Kd.R_drew HO_2.out)
      replace HO_9 := Aside0.mk (Kd.R_drew HO_9.out)
      replace BK912 := Aside0.mk (blk_drew BK912.out)
      replace HB := Aside0.mk (below_drew1 HB.out)
      refine start_ (n := 40) (S := fun w' => w'.cell? ⟨gb912, 0, none⟩ = some (.slice A0_0 l0_0.length c0_0)) (ds := []) #[false, false, false, false, false, false, false, false, false, false, false, false, false, false, false, false, false, false, false, false, false, false, false, false, false, false, false, false, false, false, false, false, false, false, false, false, false, false, false, false] (by kernel_rfl) rfl rfl ((blk_cell BK912.out 0).trans rfl) (fun hHeld => ?_); refine with_tabW mizmazetop_TopHome.tab15 mizmazetop_TopHome.bits15 (fun HT_ HW_ => ?_)
      generalize w103.drew = w105 at HO_1 HO_2 HO_9 BK912 HB hHeld ⊢
      refine pv_ 0 117 tth60 HT_ ?_
      refine pv_ 1 118 tth61 HT_ ?_
      refine pv_ 2 119 tth62 HT_ ?_
      refine pv_ 3 120 tth63 HT_ ?_
      refine pv_ 4 121 tth64 HT_ ?_
      refine pv_ 5 122 tth65 HT_ ?_
      refine pv_ 6 123 tth66 HT_ ?_
      refine pv_ 7 124 tth67 HT_ ?_
      refine pv_ 8 125 tth68 HT_ ?_
      refine pv_ 9 126 tth69 HT_ ?_
      refine pv_ 10 127 tth70 HT_ ?_
      refine pv_ 11 128 tth71 HT_ ?_
      refine pv_ 12 129 tth72 HT_ ?_
      refine pv_ 14 131 tth100 HT_ ?_
      refine pv_ 15 132 tth101 HT_ ?_
      refine pv_ 18 135 tth102 HT_ ?_
      refine pv_ 19 136 tth103 HT_ ?_
      refine tv_ 13 130 tth104 HT_ HW_ hHeld ?_
      refine tv_ 17 134 tth105 HT_ HW_ hHeld ?_
      refine one_ (i := 16) (N := some 133) tth79 rfl rfl (one_of HT_.out (by kernel_rfl)) (by decide) (fun K hK => ?_)
      refine goes_ Try.func35 (by kernel_rfl) rfl #[.agg #[.slice A0_0 l0_0.length c0_0], .int .i64 ((rd_T49 t917 x12_2).f0), .slice Ao104 t923.length co104] (by rfl) rfl rfl (by (try simp only [List.map_toArray, List.map_cons, List.map_nil]); first | done | rfl | (simp only [List.length_drop, List.length_take]; rfl)) ?_
      with_reducible refine (mizmazetop_lead.calls k2 _ _ l0_0 ((rd_T49 t917 x12_2).f0) _ _ t923 t942 _ ?side1 ?side2 ?side3 ?side4 A88.out).mono ?_
      (case side1 => repeat (first | exact (Kd.C_below HR0_0.out HB.out) | (with_reducible refine Kd.C_alloc ?_ _) | (with_reducible refine Kd.C_drewN ?_ _) | (with_reducible refine Kd.C_drew ?_)))
      (case side2 => exact HC0_0.out)
      (case side3 => repeat (first | exact (Kd.R_reads' HO_1.out).2.2 | (with_reducible refine Kd.C_alloc ?_ _) | (with_reducible refine Kd.C_drewN ?_ _) | (with_reducible refine Kd.C_drew ?_)))
      (case side4 => exact (Kd.R_reads' HO_1.out).2.1)
      rintro e w106 ⟨rfl, hb⟩
      refine ⟨_, rfl, ?_⟩
      replace HO_1 := Aside0.mk (Kd.R_below HO_1.out hb)
      replace HO_2 := Aside0.mk (Kd.R_below HO_2.out hb)
      replace HO_9 := Aside0.mk (Kd.R_below HO_9.out hb)
      replace BK912 := Aside0.mk (blk_below (g := gb912) (o := .cells #[.slice A0_0 l0_0.length c0_0] 24 (0, 0)) BK912.out hb)
      replace HB := Aside0.mk (below_step HB.out hb)
      (try clear hb)
      (try clear hb2)
      (try clear hk)
      (try clear hi)
      refine hK.out _ _ ((blk_cell BK912.out 0).trans rfl) (fun hHeld => ?_)
      clear hK K
      refine nm_ 133 ?_
      refine one_ (i := 20) (N := some 137) tth80 rfl rfl (one_of HT_.out (by kernel_rfl)) (by decide) (fun K hK => ?_)
      refine goes_ Try.func35 (by kernel_rfl) rfl #[.agg #[.slice A0_0 l0_0.length c0_0], .int .i64 ((rd_T49 t917 x12_2).f1), .slice Ao104 t923.length co104] (by rfl) rfl rfl (by (try simp only [List.map_toArray, List.map_cons, List.map_nil]); first | done | rfl | (simp only [List.length_drop, List.length_take]; rfl)) ?_
      with_reducible refine (mizmazetop_lead.calls k2 _ _ l0_0 ((rd_T49 t917 x12_2).f1) _ _ t923 t943 _ ?side1 ?side2 ?side3 ?side4 A89.out).mono ?_
      (case side1 => repeat (first | exact (Kd.C_below HR0_0.out HB.out) | (with_reducible refine Kd.C_alloc ?_ _) | (with_reducible refine Kd.C_drewN ?_ _) | (with_reducible refine Kd.C_drew ?_)))
      (case side2 => exact HC0_0.out)
      (case side3 => repeat (first | exact (Kd.R_reads' HO_1.out).2.2 | (with_reducible refine Kd.C_alloc ?_ _) | (with_reducible refine Kd.C_drewN ?_ _) | (with_reducible refine Kd.C_drew ?_)))
      (case side4 => exact (Kd.R_reads' HO_1.out).2.1)
      rintro e w107 ⟨rfl, hb⟩
      refine ⟨_, rfl, ?_⟩
      replace HO_1 := Aside0.mk (Kd.R_below HO_1.out hb)
      replace HO_2 := Aside0.mk (Kd.R_below HO_2.out hb)
      replace HO_9 := Aside0.mk (Kd.R_below HO_9.out hb)
      replace BK912 := Aside0.mk (blk_below (g := gb912) (o := .cells #[.slice A0_0 l0_0.length c0_0] 24 (0, 0)) BK912.out hb)
      replace HB := Aside0.mk (below_step HB.out hb)
      (try clear hb)
      (try clear hb2)
      (try clear hk)
      (try clear hi)
      obtain ⟨Ao108, co108, eo108⟩ := Kd.R_slice HO_2.out
      (first | subst eo108 | (injection eo108 with f1_ f2_ f3_; have f4_ := f1_.symm; have f5_ := f3_.symm; clear f1_ f2_ f3_; subst f4_; subst f5_))
      refine hK.out _ _ ((blk_cell BK912.out 0).trans rfl) (fun hHeld => ?_)
      clear hK K
      refine nm_ 137 ?_
      refine pv_ 21 138 tth81 HT_ ?_
      refine pv_ 22 139 tth82 HT_ ?_
      refine pv_ 23 140 tth83 HT_ ?_
      refine pv_ 25 142 tth106 HT_ ?_
      refine pv_ 26 143 tth107 HT_ ?_
      refine pv_ 27 144 tth108 HT_ ?_
      refine pv_ 32 149 tth109 HT_ ?_
      refine pv_ 33 150 tth110 HT_ ?_
      refine pv_ 34 151 tth111 HT_ ?_
      refine tv_ 24 141 tth112 HT_ HW_ hHeld ?_
      refine tv_ 31 148 tth113 HT_ HW_ hHeld ?_
      refine join_ (σ := Value × Value × Value) 4 #[true, true, true, true, true, true, true, true, true, true, true, true, true, true, true, true, true, true, true, true, true, true, true, true, true, true, true, true, true, true, true, true, true, true, true, true, false, false, false, false] (fun s_ => [(145, s_.1), (146, s_.2.1), (147, .int .i64 t950), (152, s_.2.2)]) (fun s_ w' => (w'.cell? ⟨gb912, 0, none⟩ = some (.slice A0_0 l0_0.length c0_0)) ∧ (Kd.N (Kd.slice 3 (Kd.int .i64)) 25 w' w.heap.size (fun k_ => some k_ ≠ (s_.2.1 : Value).ownBlock ∧ some k_ ≠ (s_.2.2 : Value).ownBlock ∧ some k_ ≠ (.slice (some ad940) t917.length co102 : Value).ownBlock ∧ k_ ≠ gb912) s_.1 y944) ∧ (Kd.R (Kd.int .i64) 3 w' w.heap.size (fun k_ => some k_ ≠ (.slice Ao104 t923.length co104 : Value).ownBlock ∧ some k_ ≠ (.slice Ao108 t926.length co108 : Value).ownBlock) s_.2.1 t947) ∧ (Kd.N (Kd.slice 3 (Kd.int .i64)) 25 w' w.heap.size (fun k_ => some k_ ≠ (s_.1 : Value).ownBlock ∧ some k_ ≠ (s_.2.1 : Value).ownBlock ∧ some k_ ≠ (.slice (some ad940) t917.length co102 : Value).ownBlock ∧ k_ ≠ gb912) s_.2.2 y951) ∧ (Kd.R (Kd.int .i64) 3 w' w.heap.size (fun k_ => some k_ ≠ (s_.2.1 : Value).ownBlock ∧ some k_ ≠ (.slice Ao108 t926.length co108 : Value).ownBlock) (.slice Ao104 t923.length co104) t923) ∧ (Kd.R (Kd.int .i64) 3 w' w.heap.size (fun k_ => some k_ ≠ (s_.2.1 : Value).ownBlock ∧ some k_ ≠ (.slice Ao104 t923.length co104 : Value).ownBlock) (.slice Ao108 t926.length co108) t926) ∧ (Kd.R k49 49 w' w.heap.size (fun _ => True) (.slice (some ad940) t917.length co102) t917) ∧ (w'.heap[gb912]? = some (.cells #[.slice A0_0 l0_0.length c0_0] 24 (0, 0))) ∧ (Below w.heap.size w w')) ?_ ?_
      rotate_left
      ·intro hCont
       refine two_ (i := 28) (j := 35) (Ni := some 145) (Nj := some 152) tth114 tth115 rfl rfl rfl rfl (two_of HT_.out (by kernel_rfl)) (by decide) (by decide) (fun K hK => ?_) (fun K hK => ?_)
       ·skip
        refine Kd.N_lit_step (Kd.slice 3 (Kd.int .i64)) _ 25 ?hg (N' := 145) ?hd (xs := ([t923, t926] : List (List Int))) (inner := [.slice Ao104 t923.length co104, .slice Ao108 t926.length co108]) (ok := (fun k_ => some k_ ≠ (.slice (some ad940) t917.length co102 : Value).ownBlock ∧ k_ ≠ gb912)) (okp := (fun k_ => some k_ ≠ (.slice (some ad940) t917.length co102 : Value).ownBlock ∧ k_ ≠ gb912)) ?hr ?hp (fun _ hk => hk) ((show ∀ k_, w107.heap.size ≤ k_ → (fun k_ => some k_ ≠ (.slice (some ad940) t917.length co102 : Value).ownBlock ∧ k_ ≠ gb912) k_ from fun k_ hk => ⟨Kd.fresh' (Kd.R_lt HO_9.out) k_ hk, Kd.freshB (g := gb912) (o := .cells #[.slice A0_0 l0_0.length c0_0] 24 (0, 0)) BK912.out k_ hk⟩) _ (Nat.le_refl _)) (Below.refl _ _) (Nat.le_refl _) (by simp) ?_; (case hd => rfl); (case hg => rfl); (case hr => first | (go_simp; done) | (go_simp; rfl)); (case hp => exact (Reps.one (show Kd.FK (Kd.slice 3 (Kd.int .i64)) _ _ t923 [.slice Ao104 t923.length co104] from (Kd.FK_slice_mk (Kd.R_reads' (Kd.R_mono (ok' := (fun k_ => some k_ ≠ (.slice (some ad940) t917.length co102 : Value).ownBlock ∧ k_ ≠ gb912)) (Kd.R_types (Kd.R_apart' (HO_1.out) (Kd.R_typed HO_9.out) (by decide)) BK912.out (by decide)) (fun k_ hk => ⟨hk.1.2, hk.2⟩))).2.1 (Kd.R_F (Kd.R_mono (ok' := (fun k_ => some k_ ≠ (.slice (some ad940) t917.length co102 : Value).ownBlock ∧ k_ ≠ gb912)) (Kd.R_types (Kd.R_apart' (HO_1.out) (Kd.R_typed HO_9.out) (by decide)) BK912.out (by decide)) (fun k_ hk => ⟨hk.1.2, hk.2⟩))))) (Reps.one (show Kd.FK (Kd.slice 3 (Kd.int .i64)) _ _ t926 [.slice Ao108 t926.length co108] from (Kd.FK_slice_mk (Kd.R_reads' (Kd.R_mono (ok' := (fun k_ => some k_ ≠ (.slice (some ad940) t917.length co102 : Value).ownBlock ∧ k_ ≠ gb912)) (Kd.R_types (Kd.R_apart' (HO_2.out) (Kd.R_typed HO_9.out) (by decide)) BK912.out (by decide)) (fun k_ hk => ⟨hk.1.2, hk.2⟩))).2.1 (Kd.R_F (Kd.R_mono (ok' := (fun k_ => some k_ ≠ (.slice (some ad940) t917.length co102 : Value).ownBlock ∧ k_ ≠ gb912)) (Kd.R_types (Kd.R_apart' (HO_2.out) (Kd.R_typed HO_9.out) (by decide)) BK912.out (by decide)) (fun k_ hk => ⟨hk.1.2, hk.2⟩))))) (Reps.none _ _))))
        intro v945 w109 ho110 hb hg_ hnew_
        clear hg_ hnew_
        (first | rw [← Ny944.out] at ho110 | (simp only [Int.reduceToNat] at ho110; rw [← Ny944.out] at ho110))
        replace HO_1 := Aside0.mk (Kd.R_below HO_1.out hb)
        replace HO_2 := Aside0.mk (Kd.R_below HO_2.out hb)
        replace HO_9 := Aside0.mk (Kd.R_below HO_9.out hb)
        have HO946 := Aside0.mk (Kd.N_lower ho110 (below_size HB.out))
        replace BK912 := Aside0.mk (blk_below (g := gb912) (o := .cells #[.slice A0_0 l0_0.length c0_0] 24 (0, 0)) BK912.out hb)
        replace HB := Aside0.mk (below_step HB.out hb)
        clear hb ho110
        obtain ⟨Ao111, co111, eo111⟩ := Kd.N_slice HO946.out
        (first | subst eo111 | (injection eo111 with f1_ f2_ f3_; have f4_ := f1_.symm; have f5_ := f3_.symm; clear f1_ f2_ f3_; subst f4_; subst f5_))
        refine hK.out _ _ ((blk_cell BK912.out 0).trans rfl) (fun hHeld => ?_)
        clear hK K
        refine nm_ 145 ?_
        refine two_ (i := 29) (j := 35) (Ni := some 146) (Nj := some 152) tth116 tth117 rfl rfl rfl rfl (two_of HT_.out (by kernel_rfl)) (by decide) (by decide) (fun K hK => ?_) (fun K hK => ?_)
        ·skip
         refine goes_ Try.func34 (by kernel_rfl) rfl #[.slice Ao111 y944.length co111] (by rfl) rfl rfl (by (try simp only [List.map_toArray, List.map_cons, List.map_nil]); first | done | rfl | (simp only [List.length_drop, List.length_take]; rfl)) ?_
         with_reducible refine (mizmazetop_joined.calls k2 _ _ y944 t947 _ ?side1 ?side2 A97.out).mono ?_
         (case side1 => repeat (first | exact (Kd.N_reads' HO946.out).2.2 | (with_reducible refine Kd.C_alloc ?_ _) | (with_reducible refine Kd.C_drewN ?_ _) | (with_reducible refine Kd.C_drew ?_)))
         (case side2 => exact (Kd.N_reads' HO946.out).2.1)
         rintro e w112 ⟨v948, rfl, ho0, hb⟩
         refine ⟨_, rfl, ?_⟩
         have n0_ := Aside0.mk (Kd.R_elder' HO_1.out (Kd.R_base ho0) hb)
         have n1_ := Aside0.mk (Kd.R_elder' HO_2.out (Kd.R_base ho0) hb)
         have n2_ := Aside0.mk (Kd.R_below HO_9.out hb)
         have n3_ := Aside0.mk (Kd.N_elder' HO946.out (Kd.R_base ho0) hb)
         have n4_ := Aside0.mk (Kd.R_lower (Kd.R_new' (Kd.R_new' ho0 (Kd.R_lt HO_1.out)) (Kd.R_lt HO_2.out)) (below_size HB.out))
         have n5_ := Aside0.mk (blk_below (g := gb912) (o := .cells #[.slice A0_0 l0_0.length c0_0] 24 (0, 0)) BK912.out hb)
         have n6_ := Aside0.mk (below_step HB.out hb)
         clear HO_1
         clear HO_2
         clear HO_9
         clear HO946
         clear BK912
         clear HB
         have HO_1 := n0_
         have HO_2 := n1_
         have HO_9 := n2_
         have HO946 := n3_
         have HO949 := n4_
         have BK912 := n5_
         have HB := n6_
         clear n0_ n1_ n2_ n3_ n4_ n5_ n6_
         (try clear hb)
         (try clear hb2)
         (try clear hk)
         (try clear hi)
         (try clear ho0)
         obtain ⟨Ao113, co113, eo113⟩ := Kd.R_slice HO949.out
         (first | subst eo113 | (injection eo113 with f1_ f2_ f3_; have f4_ := f1_.symm; have f5_ := f3_.symm; clear f1_ f2_ f3_; subst f4_; subst f5_))
         refine hK.out _ _ ((blk_cell BK912.out 0).trans rfl) (fun hHeld => ?_)
         clear hK K
         refine nm_ 146 ?_
         refine two_ (i := 30) (j := 35) (Ni := some 147) (Nj := some 152) tth94 tth118 rfl rfl rfl rfl (two_of HT_.out (by kernel_rfl)) (by decide) (by decide) (fun K hK => ?_) (fun K hK => ?_)
         ·skip
          refine goes_ Try.func35 (by kernel_rfl) rfl #[.agg #[.slice A0_0 l0_0.length c0_0], .int .i64 ((rd_T49 t917 x12_2).f0), .slice Ao113 t947.length co113] (by rfl) rfl rfl (by (try simp only [List.map_toArray, List.map_cons, List.map_nil]); first | done | rfl | (simp only [List.length_drop, List.length_take]; rfl)) ?_
          with_reducible refine (mizmazetop_lead.calls k2 _ _ l0_0 ((rd_T49 t917 x12_2).f0) _ _ t947 t950 _ ?side1 ?side2 ?side3 ?side4 A98.out).mono ?_
          (case side1 => repeat (first | exact (Kd.C_below HR0_0.out HB.out) | (with_reducible refine Kd.C_alloc ?_ _) | (with_reducible refine Kd.C_drewN ?_ _) | (with_reducible refine Kd.C_drew ?_)))
          (case side2 => exact HC0_0.out)
          (case side3 => repeat (first | exact (Kd.R_reads' HO949.out).2.2 | (with_reducible refine Kd.C_alloc ?_ _) | (with_reducible refine Kd.C_drewN ?_ _) | (with_reducible refine Kd.C_drew ?_)))
          (case side4 => exact (Kd.R_reads' HO949.out).2.1)
          rintro e w114 ⟨rfl, hb⟩
          refine ⟨_, rfl, ?_⟩
          replace HO_1 := Aside0.mk (Kd.R_below HO_1.out hb)
          replace HO_2 := Aside0.mk (Kd.R_below HO_2.out hb)
          replace HO_9 := Aside0.mk (Kd.R_below HO_9.out hb)
          replace HO946 := Aside0.mk (Kd.N_below HO946.out hb)
          replace HO949 := Aside0.mk (Kd.R_below HO949.out hb)
          replace BK912 := Aside0.mk (blk_below (g := gb912) (o := .cells #[.slice A0_0 l0_0.length c0_0] 24 (0, 0)) BK912.out hb)
          replace HB := Aside0.mk (below_step HB.out hb)
          (try clear hb)
          (try clear hb2)
          (try clear hk)
          (try clear hi)
          refine hK.out _ _ ((blk_cell BK912.out 0).trans rfl) (fun hHeld => ?_)
          clear hK K
          refine nm_ 147 ?_
          refine one_ (i := 35) (N := some 152) tth95 rfl rfl (one_of HT_.out (by kernel_rfl)) (by decide) (fun K hK => ?_)
          refine Kd.N_lit_step (Kd.slice 3 (Kd.int .i64)) _ 25 ?hg (N' := 152) ?hd (xs := ([t923, t926] : List (List Int))) (inner := [.slice Ao104 t923.length co104, .slice Ao108 t926.length co108]) (ok := (fun k_ => some k_ ≠ (.slice (some ad940) t917.length co102 : Value).ownBlock ∧ some k_ ≠ (.slice Ao111 y944.length co111 : Value).ownBlock ∧ some k_ ≠ (.slice Ao113 t947.length co113 : Value).ownBlock ∧ k_ ≠ gb912)) (okp := (fun k_ => some k_ ≠ (.slice (some ad940) t917.length co102 : Value).ownBlock ∧ some k_ ≠ (.slice Ao111 y944.length co111 : Value).ownBlock ∧ some k_ ≠ (.slice Ao113 t947.length co113 : Value).ownBlock ∧ k_ ≠ gb912)) ?hr ?hp (fun _ hk => hk) ((show ∀ k_, w114.heap.size ≤ k_ → (fun k_ => some k_ ≠ (.slice (some ad940) t917.length co102 : Value).ownBlock ∧ some k_ ≠ (.slice Ao111 y944.length co111 : Value).ownBlock ∧ some k_ ≠ (.slice Ao113 t947.length co113 : Value).ownBlock ∧ k_ ≠ gb912) k_ from fun k_ hk => ⟨Kd.fresh' (Kd.R_lt HO_9.out) k_ hk, Kd.fresh' (Kd.N_lt HO946.out) k_ hk, Kd.fresh' (Kd.R_lt HO949.out) k_ hk, Kd.freshB (g := gb912) (o := .cells #[.slice A0_0 l0_0.length c0_0] 24 (0, 0)) BK912.out k_ hk⟩) _ (Nat.le_refl _)) (Below.refl _ _) (Nat.le_refl _) (by simp) ?_; (case hd => rfl); (case hg => rfl); (case hr => first | (go_simp; done) | (go_simp; rfl)); (case hp => exact (Reps.one (show Kd.FK (Kd.slice 3 (Kd.int .i64)) _ _ t923 [.slice Ao104 t923.length co104] from (Kd.FK_slice_mk (Kd.R_reads' (Kd.R_mono (ok' := (fun k_ => some k_ ≠ (.slice (some ad940) t917.length co102 : Value).ownBlock ∧ some k_ ≠ (.slice Ao111 y944.length co111 : Value).ownBlock ∧ some k_ ≠ (.slice Ao113 t947.length co113 : Value).ownBlock ∧ k_ ≠ gb912)) (Kd.R_types (Kd.R_apart' (Kd.R_apart' (HO_1.out) (Kd.R_typed HO_9.out) (by decide)) (Kd.N_typed HO946.out) (by decide)) BK912.out (by decide)) (fun k_ hk => ⟨hk.1.1.2, ⟨hk.1.2, ⟨hk.1.1.1.2, hk.2⟩⟩⟩))).2.1 (Kd.R_F (Kd.R_mono (ok' := (fun k_ => some k_ ≠ (.slice (some ad940) t917.length co102 : Value).ownBlock ∧ some k_ ≠ (.slice Ao111 y944.length co111 : Value).ownBlock ∧ some k_ ≠ (.slice Ao113 t947.length co113 : Value).ownBlock ∧ k_ ≠ gb912)) (Kd.R_types (Kd.R_apart' (Kd.R_apart' (HO_1.out) (Kd.R_typed HO_9.out) (by decide)) (Kd.N_typed HO946.out) (by decide)) BK912.out (by decide)) (fun k_ hk => ⟨hk.1.1.2, ⟨hk.1.2, ⟨hk.1.1.1.2, hk.2⟩⟩⟩))))) (Reps.one (show Kd.FK (Kd.slice 3 (Kd.int .i64)) _ _ t926 [.slice Ao108 t926.length co108] from (Kd.FK_slice_mk (Kd.R_reads' (Kd.R_mono (ok' := (fun k_ => some k_ ≠ (.slice (some ad940) t917.length co102 : Value).ownBlock ∧ some k_ ≠ (.slice Ao111 y944.length co111 : Value).ownBlock ∧ some k_ ≠ (.slice Ao113 t947.length co113 : Value).ownBlock ∧ k_ ≠ gb912)) (Kd.R_types (Kd.R_apart' (Kd.R_apart' (HO_2.out) (Kd.R_typed HO_9.out) (by decide)) (Kd.N_typed HO946.out) (by decide)) BK912.out (by decide)) (fun k_ hk => ⟨hk.1.1.2, ⟨hk.1.2, ⟨hk.1.1.1.2, hk.2⟩⟩⟩))).2.1 (Kd.R_F (Kd.R_mono (ok' := (fun k_ => some k_ ≠ (.slice (some ad940) t917.length co102 : Value).ownBlock ∧ some k_ ≠ (.slice Ao111 y944.length co111 : Value).ownBlock ∧ some k_ ≠ (.slice Ao113 t947.length co113 : Value).ownBlock ∧ k_ ≠ gb912)) (Kd.R_types (Kd.R_apart' (Kd.R_apart' (HO_2.out) (Kd.R_typed HO_9.out) (by decide)) (Kd.N_typed HO946.out) (by decide)) BK912.out (by decide)) (fun k_ hk => ⟨hk.1.1.2, ⟨hk.1.2, ⟨hk.1.1.1.2, hk.2⟩⟩⟩))))) (Reps.none _ _))))
          intro v952 w115 ho116 hb hg_ hnew_
          clear hg_ hnew_
          (first | rw [← Ny951.out] at ho116 | (simp only [Int.reduceToNat] at ho116; rw [← Ny951.out] at ho116))
          replace HO_1 := Aside0.mk (Kd.R_below HO_1.out hb)
          replace HO_2 := Aside0.mk (Kd.R_below HO_2.out hb)
          replace HO_9 := Aside0.mk (Kd.R_below HO_9.out hb)
          replace HO946 := Aside0.mk (Kd.N_elder' HO946.out (by first | exact Kd.N_base ho116 | exact Kd.S_base ho116 | exact Kd.R_base ho116) hb)
          replace HO949 := Aside0.mk (Kd.R_below HO949.out hb)
          have HO953 := Aside0.mk (Kd.N_lower ho116 (below_size HB.out))
          replace BK912 := Aside0.mk (blk_below (g := gb912) (o := .cells #[.slice A0_0 l0_0.length c0_0] 24 (0, 0)) BK912.out hb)
          replace HB := Aside0.mk (below_step HB.out hb)
          clear hb ho116
          refine hK.out _ _ ((blk_cell BK912.out 0).trans rfl) (fun hHeld => ?_)
          clear hK K
          refine nm_ 152 ?_
          exact norm_ (by simp only [putAll, Act.put, List.setIfInBounds_toArray, List.set_cons_zero, List.set_cons_succ]) (hCont (.slice Ao111 y944.length co111, .slice Ao113 t947.length co113, v952) _ ⟨hHeld, (Kd.N_mono HO946.out (fun _ hk => ⟨hk.1.2, ⟨hk.2, ⟨hk.1.1.1, hk.1.1.2⟩⟩⟩)), (Kd.R_mono HO949.out (fun _ hk => ⟨hk.1.2, hk.2⟩)), (Kd.N_mono HO953.out (fun _ hk => ⟨hk.2.1, ⟨hk.2.2.1, ⟨hk.1, hk.2.2.2⟩⟩⟩)), (Kd.R_mono HO_1.out (fun _ hk => ⟨hk.2, hk.1⟩)), (Kd.R_mono HO_2.out (fun _ hk => ⟨hk.2, hk.1⟩)), HO_9.out, BK912.out, HB.out⟩)
         ·skip
          refine Kd.N_lit_step (Kd.slice 3 (Kd.int .i64)) _ 25 ?hg (N' := 152) ?hd (xs := ([t923, t926] : List (List Int))) (inner := [.slice Ao104 t923.length co104, .slice Ao108 t926.length co108]) (ok := (fun k_ => some k_ ≠ (.slice (some ad940) t917.length co102 : Value).ownBlock ∧ some k_ ≠ (.slice Ao111 y944.length co111 : Value).ownBlock ∧ some k_ ≠ (.slice Ao113 t947.length co113 : Value).ownBlock ∧ k_ ≠ gb912)) (okp := (fun k_ => some k_ ≠ (.slice (some ad940) t917.length co102 : Value).ownBlock ∧ some k_ ≠ (.slice Ao111 y944.length co111 : Value).ownBlock ∧ some k_ ≠ (.slice Ao113 t947.length co113 : Value).ownBlock ∧ k_ ≠ gb912)) ?hr ?hp (fun _ hk => hk) ((show ∀ k_, w112.heap.size ≤ k_ → (fun k_ => some k_ ≠ (.slice (some ad940) t917.length co102 : Value).ownBlock ∧ some k_ ≠ (.slice Ao111 y944.length co111 : Value).ownBlock ∧ some k_ ≠ (.slice Ao113 t947.length co113 : Value).ownBlock ∧ k_ ≠ gb912) k_ from fun k_ hk => ⟨Kd.fresh' (Kd.R_lt HO_9.out) k_ hk, Kd.fresh' (Kd.N_lt HO946.out) k_ hk, Kd.fresh' (Kd.R_lt HO949.out) k_ hk, Kd.freshB (g := gb912) (o := .cells #[.slice A0_0 l0_0.length c0_0] 24 (0, 0)) BK912.out k_ hk⟩) _ (Nat.le_refl _)) (Below.refl _ _) (Nat.le_refl _) (by simp) ?_; (case hd => rfl); (case hg => rfl); (case hr => first | (go_simp; done) | (go_simp; rfl)); (case hp => exact (Reps.one (show Kd.FK (Kd.slice 3 (Kd.int .i64)) _ _ t923 [.slice Ao104 t923.length co104] from (Kd.FK_slice_mk (Kd.R_reads' (Kd.R_mono (ok' := (fun k_ => some k_ ≠ (.slice (some ad940) t917.length co102 : Value).ownBlock ∧ some k_ ≠ (.slice Ao111 y944.length co111 : Value).ownBlock ∧ some k_ ≠ (.slice Ao113 t947.length co113 : Value).ownBlock ∧ k_ ≠ gb912)) (Kd.R_types (Kd.R_apart' (Kd.R_apart' (HO_1.out) (Kd.R_typed HO_9.out) (by decide)) (Kd.N_typed HO946.out) (by decide)) BK912.out (by decide)) (fun k_ hk => ⟨hk.1.1.2, ⟨hk.1.2, ⟨hk.1.1.1.2, hk.2⟩⟩⟩))).2.1 (Kd.R_F (Kd.R_mono (ok' := (fun k_ => some k_ ≠ (.slice (some ad940) t917.length co102 : Value).ownBlock ∧ some k_ ≠ (.slice Ao111 y944.length co111 : Value).ownBlock ∧ some k_ ≠ (.slice Ao113 t947.length co113 : Value).ownBlock ∧ k_ ≠ gb912)) (Kd.R_types (Kd.R_apart' (Kd.R_apart' (HO_1.out) (Kd.R_typed HO_9.out) (by decide)) (Kd.N_typed HO946.out) (by decide)) BK912.out (by decide)) (fun k_ hk => ⟨hk.1.1.2, ⟨hk.1.2, ⟨hk.1.1.1.2, hk.2⟩⟩⟩))))) (Reps.one (show Kd.FK (Kd.slice 3 (Kd.int .i64)) _ _ t926 [.slice Ao108 t926.length co108] from (Kd.FK_slice_mk (Kd.R_reads' (Kd.R_mono (ok' := (fun k_ => some k_ ≠ (.slice (some ad940) t917.length co102 : Value).ownBlock ∧ some k_ ≠ (.slice Ao111 y944.length co111 : Value).ownBlock ∧ some k_ ≠ (.slice Ao113 t947.length co113 : Value).ownBlock ∧ k_ ≠ gb912)) (Kd.R_types (Kd.R_apart' (Kd.R_apart' (HO_2.out) (Kd.R_typed HO_9.out) (by decide)) (Kd.N_typed HO946.out) (by decide)) BK912.out (by decide)) (fun k_ hk => ⟨hk.1.1.2, ⟨hk.1.2, ⟨hk.1.1.1.2, hk.2⟩⟩⟩))).2.1 (Kd.R_F (Kd.R_mono (ok' := (fun k_ => some k_ ≠ (.slice (some ad940) t917.length co102 : Value).ownBlock ∧ some k_ ≠ (.slice Ao111 y944.length co111 : Value).ownBlock ∧ some k_ ≠ (.slice Ao113 t947.length co113 : Value).ownBlock ∧ k_ ≠ gb912)) (Kd.R_types (Kd.R_apart' (Kd.R_apart' (HO_2.out) (Kd.R_typed HO_9.out) (by decide)) (Kd.N_typed HO946.out) (by decide)) BK912.out (by decide)) (fun k_ hk => ⟨hk.1.1.2, ⟨hk.1.2, ⟨hk.1.1.1.2, hk.2⟩⟩⟩))))) (Reps.none _ _))))
          intro v952 w113 ho114 hb hg_ hnew_
          clear hg_ hnew_
          (first | rw [← Ny951.out] at ho114 | (simp only [Int.reduceToNat] at ho114; rw [← Ny951.out] at ho114))
          replace HO_1 := Aside0.mk (Kd.R_below HO_1.out hb)
          replace HO_2 := Aside0.mk (Kd.R_below HO_2.out hb)
          replace HO_9 := Aside0.mk (Kd.R_below HO_9.out hb)
          replace HO946 := Aside0.mk (Kd.N_elder' HO946.out (by first | exact Kd.N_base ho114 | exact Kd.S_base ho114 | exact Kd.R_base ho114) hb)
          replace HO949 := Aside0.mk (Kd.R_below HO949.out hb)
          have HO953 := Aside0.mk (Kd.N_lower ho114 (below_size HB.out))
          replace BK912 := Aside0.mk (blk_below (g := gb912) (o := .cells #[.slice A0_0 l0_0.length c0_0] 24 (0, 0)) BK912.out hb)
          replace HB := Aside0.mk (below_step HB.out hb)
          clear hb ho114
          obtain ⟨Ao115, co115, eo115⟩ := Kd.R_slice HO949.out
          (first | subst eo115 | (injection eo115 with f1_ f2_ f3_; have f4_ := f1_.symm; have f5_ := f3_.symm; clear f1_ f2_ f3_; subst f4_; subst f5_))
          refine hK.out _ _ ((blk_cell BK912.out 0).trans rfl) (fun hHeld => ?_)
          clear hK K
          refine nm_ 152 ?_
          refine one_ (i := 30) (N := some 147) tth95 rfl rfl (one_of HT_.out (by kernel_rfl)) (by decide) (fun K hK => ?_)
          refine goes_ Try.func35 (by kernel_rfl) rfl #[.agg #[.slice A0_0 l0_0.length c0_0], .int .i64 ((rd_T49 t917 x12_2).f0), .slice Ao115 t947.length co115] (by rfl) rfl rfl (by (try simp only [List.map_toArray, List.map_cons, List.map_nil]); first | done | rfl | (simp only [List.length_drop, List.length_take]; rfl)) ?_
          with_reducible refine (mizmazetop_lead.calls k2 _ _ l0_0 ((rd_T49 t917 x12_2).f0) _ _ t947 t950 _ ?side1 ?side2 ?side3 ?side4 A98.out).mono ?_
          (case side1 => repeat (first | exact (Kd.C_below HR0_0.out HB.out) | (with_reducible refine Kd.C_alloc ?_ _) | (with_reducible refine Kd.C_drewN ?_ _) | (with_reducible refine Kd.C_drew ?_)))
          (case side2 => exact HC0_0.out)
          (case side3 => repeat (first | exact (Kd.R_reads' HO949.out).2.2 | (with_reducible refine Kd.C_alloc ?_ _) | (with_reducible refine Kd.C_drewN ?_ _) | (with_reducible refine Kd.C_drew ?_)))
          (case side4 => exact (Kd.R_reads' HO949.out).2.1)
          rintro e w116 ⟨rfl, hb⟩
          refine ⟨_, rfl, ?_⟩
          replace HO_1 := Aside0.mk (Kd.R_below HO_1.out hb)
          replace HO_2 := Aside0.mk (Kd.R_below HO_2.out hb)
          replace HO_9 := Aside0.mk (Kd.R_below HO_9.out hb)
          replace HO946 := Aside0.mk (Kd.N_below HO946.out hb)
          replace HO949 := Aside0.mk (Kd.R_below HO949.out hb)
          replace HO953 := Aside0.mk (Kd.N_below HO953.out hb)
          replace BK912 := Aside0.mk (blk_below (g := gb912) (o := .cells #[.slice A0_0 l0_0.length c0_0] 24 (0, 0)) BK912.out hb)
          replace HB := Aside0.mk (below_step HB.out hb)
          (try clear hb)
          (try clear hb2)
          (try clear hk)
          (try clear hi)
          refine hK.out _ _ ((blk_cell BK912.out 0).trans rfl) (fun hHeld => ?_)
          clear hK K
          refine nm_ 147 ?_
          exact norm_ (by simp only [putAll, Act.put, List.setIfInBounds_toArray, List.set_cons_zero, List.set_cons_succ]) (hCont (.slice Ao111 y944.length co111, .slice Ao115 t947.length co115, v952) _ ⟨hHeld, (Kd.N_mono HO946.out (fun _ hk => ⟨hk.1.2, ⟨hk.2, ⟨hk.1.1.1, hk.1.1.2⟩⟩⟩)), (Kd.R_mono HO949.out (fun _ hk => ⟨hk.1.2, hk.2⟩)), (Kd.N_mono HO953.out (fun _ hk => ⟨hk.2.1, ⟨hk.2.2.1, ⟨hk.1, hk.2.2.2⟩⟩⟩)), (Kd.R_mono HO_1.out (fun _ hk => ⟨hk.2, hk.1⟩)), (Kd.R_mono HO_2.out (fun _ hk => ⟨hk.2, hk.1⟩)), HO_9.out, BK912.out, HB.out⟩)
        ·skip
         refine Kd.N_lit_step (Kd.slice 3 (Kd.int .i64)) _ 25 ?hg (N' := 152) ?hd (xs := ([t923, t926] : List (List Int))) (inner := [.slice Ao104 t923.length co104, .slice Ao108 t926.length co108]) (ok := (fun k_ => some k_ ≠ (.slice (some ad940) t917.length co102 : Value).ownBlock ∧ some k_ ≠ (.slice Ao111 y944.length co111 : Value).ownBlock ∧ k_ ≠ gb912)) (okp := (fun k_ => some k_ ≠ (.slice (some ad940) t917.length co102 : Value).ownBlock ∧ some k_ ≠ (.slice Ao111 y944.length co111 : Value).ownBlock ∧ k_ ≠ gb912)) ?hr ?hp (fun _ hk => hk) ((show ∀ k_, w109.heap.size ≤ k_ → (fun k_ => some k_ ≠ (.slice (some ad940) t917.length co102 : Value).ownBlock ∧ some k_ ≠ (.slice Ao111 y944.length co111 : Value).ownBlock ∧ k_ ≠ gb912) k_ from fun k_ hk => ⟨Kd.fresh' (Kd.R_lt HO_9.out) k_ hk, Kd.fresh' (Kd.N_lt HO946.out) k_ hk, Kd.freshB (g := gb912) (o := .cells #[.slice A0_0 l0_0.length c0_0] 24 (0, 0)) BK912.out k_ hk⟩) _ (Nat.le_refl _)) (Below.refl _ _) (Nat.le_refl _) (by simp) ?_; (case hd => rfl); (case hg => rfl); (case hr => first | (go_simp; done) | (go_simp; rfl)); (case hp => exact (Reps.one (show Kd.FK (Kd.slice 3 (Kd.int .i64)) _ _ t923 [.slice Ao104 t923.length co104] from (Kd.FK_slice_mk (Kd.R_reads' (Kd.R_mono (ok' := (fun k_ => some k_ ≠ (.slice (some ad940) t917.length co102 : Value).ownBlock ∧ some k_ ≠ (.slice Ao111 y944.length co111 : Value).ownBlock ∧ k_ ≠ gb912)) (Kd.R_types (Kd.R_apart' (Kd.R_apart' (HO_1.out) (Kd.R_typed HO_9.out) (by decide)) (Kd.N_typed HO946.out) (by decide)) BK912.out (by decide)) (fun k_ hk => ⟨hk.1.1.2, ⟨hk.1.2, hk.2⟩⟩))).2.1 (Kd.R_F (Kd.R_mono (ok' := (fun k_ => some k_ ≠ (.slice (some ad940) t917.length co102 : Value).ownBlock ∧ some k_ ≠ (.slice Ao111 y944.length co111 : Value).ownBlock ∧ k_ ≠ gb912)) (Kd.R_types (Kd.R_apart' (Kd.R_apart' (HO_1.out) (Kd.R_typed HO_9.out) (by decide)) (Kd.N_typed HO946.out) (by decide)) BK912.out (by decide)) (fun k_ hk => ⟨hk.1.1.2, ⟨hk.1.2, hk.2⟩⟩))))) (Reps.one (show Kd.FK (Kd.slice 3 (Kd.int .i64)) _ _ t926 [.slice Ao108 t926.length co108] from (Kd.FK_slice_mk (Kd.R_reads' (Kd.R_mono (ok' := (fun k_ => some k_ ≠ (.slice (some ad940) t917.length co102 : Value).ownBlock ∧ some k_ ≠ (.slice Ao111 y944.length co111 : Value).ownBlock ∧ k_ ≠ gb912)) (Kd.R_types (Kd.R_apart' (Kd.R_apart' (HO_2.out) (Kd.R_typed HO_9.out) (by decide)) (Kd.N_typed HO946.out) (by decide)) BK912.out (by decide)) (fun k_ hk => ⟨hk.1.1.2, ⟨hk.1.2, hk.2⟩⟩))).2.1 (Kd.R_F (Kd.R_mono (ok' := (fun k_ => some k_ ≠ (.slice (some ad940) t917.length co102 : Value).ownBlock ∧ some k_ ≠ (.slice Ao111 y944.length co111 : Value).ownBlock ∧ k_ ≠ gb912)) (Kd.R_types (Kd.R_apart' (Kd.R_apart' (HO_2.out) (Kd.R_typed HO_9.out) (by decide)) (Kd.N_typed HO946.out) (by decide)) BK912.out (by decide)) (fun k_ hk => ⟨hk.1.1.2, ⟨hk.1.2, hk.2⟩⟩))))) (Reps.none _ _))))
         intro v952 w111 ho112 hb hg_ hnew_
         clear hg_ hnew_
         (first | rw [← Ny951.out] at ho112 | (simp only [Int.reduceToNat] at ho112; rw [← Ny951.out] at ho112))
         replace HO_1 := Aside0.mk (Kd.R_below HO_1.out hb)
         replace HO_2 := Aside0.mk (Kd.R_below HO_2.out hb)
         replace HO_9 := Aside0.mk (Kd.R_below HO_9.out hb)
         replace HO946 := Aside0.mk (Kd.N_elder' HO946.out (by first | exact Kd.N_base ho112 | exact Kd.S_base ho112 | exact Kd.R_base ho112) hb)
         have HO953 := Aside0.mk (Kd.N_lower ho112 (below_size HB.out))
         replace BK912 := Aside0.mk (blk_below (g := gb912) (o := .cells #[.slice A0_0 l0_0.length c0_0] 24 (0, 0)) BK912.out hb)
         replace HB := Aside0.mk (below_step HB.out hb)
         clear hb ho112
         obtain ⟨Ao113, co113, eo113⟩ := Kd.N_slice HO946.out
         (first | subst eo113 | (injection eo113 with f1_ f2_ f3_; have f4_ := f1_.symm; have f5_ := f3_.symm; clear f1_ f2_ f3_; subst f4_; subst f5_))
         refine hK.out _ _ ((blk_cell BK912.out 0).trans rfl) (fun hHeld => ?_)
         clear hK K
         refine nm_ 152 ?_
         refine one_ (i := 29) (N := some 146) tth118 rfl rfl (one_of HT_.out (by kernel_rfl)) (by decide) (fun K hK => ?_)
         refine goes_ Try.func34 (by kernel_rfl) rfl #[.slice Ao113 y944.length co113] (by rfl) rfl rfl (by (try simp only [List.map_toArray, List.map_cons, List.map_nil]); first | done | rfl | (simp only [List.length_drop, List.length_take]; rfl)) ?_
         with_reducible refine (mizmazetop_joined.calls k2 _ _ y944 t947 _ ?side1 ?side2 A97.out).mono ?_
         (case side1 => repeat (first | exact (Kd.N_reads' HO946.out).2.2 | (with_reducible refine Kd.C_alloc ?_ _) | (with_reducible refine Kd.C_drewN ?_ _) | (with_reducible refine Kd.C_drew ?_)))
         (case side2 => exact (Kd.N_reads' HO946.out).2.1)
         rintro e w114 ⟨v948, rfl, ho0, hb⟩
         refine ⟨_, rfl, ?_⟩
         have n0_ := Aside0.mk (Kd.R_elder' HO_1.out (Kd.R_base ho0) hb)
         have n1_ := Aside0.mk (Kd.R_elder' HO_2.out (Kd.R_base ho0) hb)
         have n2_ := Aside0.mk (Kd.R_below HO_9.out hb)
         have n3_ := Aside0.mk (Kd.N_elder' HO946.out (Kd.R_base ho0) hb)
         have n4_ := Aside0.mk (Kd.N_elder' HO953.out (Kd.R_base ho0) hb)
         have n5_ := Aside0.mk (Kd.R_lower (Kd.R_new' (Kd.R_new' ho0 (Kd.R_lt HO_1.out)) (Kd.R_lt HO_2.out)) (below_size HB.out))
         have n6_ := Aside0.mk (blk_below (g := gb912) (o := .cells #[.slice A0_0 l0_0.length c0_0] 24 (0, 0)) BK912.out hb)
         have n7_ := Aside0.mk (below_step HB.out hb)
         clear HO_1
         clear HO_2
         clear HO_9
         clear HO946
         clear HO953
         clear BK912
         clear HB
         have HO_1 := n0_
         have HO_2 := n1_
         have HO_9 := n2_
         have HO946 := n3_
         have HO953 := n4_
         have HO949 := n5_
         have BK912 := n6_
         have HB := n7_
         clear n0_ n1_ n2_ n3_ n4_ n5_ n6_ n7_
         (try clear hb)
         (try clear hb2)
         (try clear hk)
         (try clear hi)
         (try clear ho0)
         obtain ⟨Ao115, co115, eo115⟩ := Kd.R_slice HO949.out
         (first | subst eo115 | (injection eo115 with f1_ f2_ f3_; have f4_ := f1_.symm; have f5_ := f3_.symm; clear f1_ f2_ f3_; subst f4_; subst f5_))
         refine hK.out _ _ ((blk_cell BK912.out 0).trans rfl) (fun hHeld => ?_)
         clear hK K
         refine nm_ 146 ?_
         refine one_ (i := 30) (N := some 147) tth95 rfl rfl (one_of HT_.out (by kernel_rfl)) (by decide) (fun K hK => ?_)
         refine goes_ Try.func35 (by kernel_rfl) rfl #[.agg #[.slice A0_0 l0_0.length c0_0], .int .i64 ((rd_T49 t917 x12_2).f0), .slice Ao115 t947.length co115] (by rfl) rfl rfl (by (try simp only [List.map_toArray, List.map_cons, List.map_nil]); first | done | rfl | (simp only [List.length_drop, List.length_take]; rfl)) ?_
         with_reducible refine (mizmazetop_lead.calls k2 _ _ l0_0 ((rd_T49 t917 x12_2).f0) _ _ t947 t950 _ ?side1 ?side2 ?side3 ?side4 A98.out).mono ?_
         (case side1 => repeat (first | exact (Kd.C_below HR0_0.out HB.out) | (with_reducible refine Kd.C_alloc ?_ _) | (with_reducible refine Kd.C_drewN ?_ _) | (with_reducible refine Kd.C_drew ?_)))
         (case side2 => exact HC0_0.out)
         (case side3 => repeat (first | exact (Kd.R_reads' HO949.out).2.2 | (with_reducible refine Kd.C_alloc ?_ _) | (with_reducible refine Kd.C_drewN ?_ _) | (with_reducible refine Kd.C_drew ?_)))
         (case side4 => exact (Kd.R_reads' HO949.out).2.1)
         rintro e w116 ⟨rfl, hb⟩
         refine ⟨_, rfl, ?_⟩
         replace HO_1 := Aside0.mk (Kd.R_below HO_1.out hb)
         replace HO_2 := Aside0.mk (Kd.R_below HO_2.out hb)
         replace HO_9 := Aside0.mk (Kd.R_below HO_9.out hb)
         replace HO946 := Aside0.mk (Kd.N_below HO946.out hb)
         replace HO953 := Aside0.mk (Kd.N_below HO953.out hb)
         replace HO949 := Aside0.mk (Kd.R_below HO949.out hb)
         replace BK912 := Aside0.mk (blk_below (g := gb912) (o := .cells #[.slice A0_0 l0_0.length c0_0] 24 (0, 0)) BK912.out hb)
         replace HB := Aside0.mk (below_step HB.out hb)
         (try clear hb)
         (try clear hb2)
         (try clear hk)
         (try clear hi)
         refine hK.out _ _ ((blk_cell BK912.out 0).trans rfl) (fun hHeld => ?_)
         clear hK K
         refine nm_ 147 ?_
         exact norm_ (by simp only [putAll, Act.put, List.setIfInBounds_toArray, List.set_cons_zero, List.set_cons_succ]) (hCont (.slice Ao113 y944.length co113, .slice Ao115 t947.length co115, v952) _ ⟨hHeld, (Kd.N_mono HO946.out (fun _ hk => ⟨hk.2, ⟨hk.1.2, ⟨hk.1.1.1, hk.1.1.2⟩⟩⟩)), (Kd.R_mono HO949.out (fun _ hk => ⟨hk.1.2, hk.2⟩)), (Kd.N_mono HO953.out (fun _ hk => ⟨hk.1.2.1, ⟨hk.2, ⟨hk.1.1, hk.1.2.2⟩⟩⟩)), (Kd.R_mono HO_1.out (fun _ hk => ⟨hk.2, hk.1⟩)), (Kd.R_mono HO_2.out (fun _ hk => ⟨hk.2, hk.1⟩)), HO_9.out, BK912.out, HB.out⟩)
       ·skip
        refine Kd.N_lit_step (Kd.slice 3 (Kd.int .i64)) _ 25 ?hg (N' := 152) ?hd (xs := ([t923, t926] : List (List Int))) (inner := [.slice Ao104 t923.length co104, .slice Ao108 t926.length co108]) (ok := (fun k_ => some k_ ≠ (.slice (some ad940) t917.length co102 : Value).ownBlock ∧ k_ ≠ gb912)) (okp := (fun k_ => some k_ ≠ (.slice (some ad940) t917.length co102 : Value).ownBlock ∧ k_ ≠ gb912)) ?hr ?hp (fun _ hk => hk) ((show ∀ k_, w107.heap.size ≤ k_ → (fun k_ => some k_ ≠ (.slice (some ad940) t917.length co102 : Value).ownBlock ∧ k_ ≠ gb912) k_ from fun k_ hk => ⟨Kd.fresh' (Kd.R_lt HO_9.out) k_ hk, Kd.freshB (g := gb912) (o := .cells #[.slice A0_0 l0_0.length c0_0] 24 (0, 0)) BK912.out k_ hk⟩) _ (Nat.le_refl _)) (Below.refl _ _) (Nat.le_refl _) (by simp) ?_; (case hd => rfl); (case hg => rfl); (case hr => first | (go_simp; done) | (go_simp; rfl)); (case hp => exact (Reps.one (show Kd.FK (Kd.slice 3 (Kd.int .i64)) _ _ t923 [.slice Ao104 t923.length co104] from (Kd.FK_slice_mk (Kd.R_reads' (Kd.R_mono (ok' := (fun k_ => some k_ ≠ (.slice (some ad940) t917.length co102 : Value).ownBlock ∧ k_ ≠ gb912)) (Kd.R_types (Kd.R_apart' (HO_1.out) (Kd.R_typed HO_9.out) (by decide)) BK912.out (by decide)) (fun k_ hk => ⟨hk.1.2, hk.2⟩))).2.1 (Kd.R_F (Kd.R_mono (ok' := (fun k_ => some k_ ≠ (.slice (some ad940) t917.length co102 : Value).ownBlock ∧ k_ ≠ gb912)) (Kd.R_types (Kd.R_apart' (HO_1.out) (Kd.R_typed HO_9.out) (by decide)) BK912.out (by decide)) (fun k_ hk => ⟨hk.1.2, hk.2⟩))))) (Reps.one (show Kd.FK (Kd.slice 3 (Kd.int .i64)) _ _ t926 [.slice Ao108 t926.length co108] from (Kd.FK_slice_mk (Kd.R_reads' (Kd.R_mono (ok' := (fun k_ => some k_ ≠ (.slice (some ad940) t917.length co102 : Value).ownBlock ∧ k_ ≠ gb912)) (Kd.R_types (Kd.R_apart' (HO_2.out) (Kd.R_typed HO_9.out) (by decide)) BK912.out (by decide)) (fun k_ hk => ⟨hk.1.2, hk.2⟩))).2.1 (Kd.R_F (Kd.R_mono (ok' := (fun k_ => some k_ ≠ (.slice (some ad940) t917.length co102 : Value).ownBlock ∧ k_ ≠ gb912)) (Kd.R_types (Kd.R_apart' (HO_2.out) (Kd.R_typed HO_9.out) (by decide)) BK912.out (by decide)) (fun k_ hk => ⟨hk.1.2, hk.2⟩))))) (Reps.none _ _))))
        intro v952 w109 ho110 hb hg_ hnew_
        clear hg_ hnew_
        (first | rw [← Ny951.out] at ho110 | (simp only [Int.reduceToNat] at ho110; rw [← Ny951.out] at ho110))
        replace HO_1 := Aside0.mk (Kd.R_below HO_1.out hb)
        replace HO_2 := Aside0.mk (Kd.R_below HO_2.out hb)
        replace HO_9 := Aside0.mk (Kd.R_below HO_9.out hb)
        have HO953 := Aside0.mk (Kd.N_lower ho110 (below_size HB.out))
        replace BK912 := Aside0.mk (blk_below (g := gb912) (o := .cells #[.slice A0_0 l0_0.length c0_0] 24 (0, 0)) BK912.out hb)
        replace HB := Aside0.mk (below_step HB.out hb)
        clear hb ho110
        refine hK.out _ _ ((blk_cell BK912.out 0).trans rfl) (fun hHeld => ?_)
        clear hK K
        refine nm_ 152 ?_
        refine one_ (i := 28) (N := some 145) tth117 rfl rfl (one_of HT_.out (by kernel_rfl)) (by decide) (fun K hK => ?_)
        refine Kd.N_lit_step (Kd.slice 3 (Kd.int .i64)) _ 25 ?hg (N' := 145) ?hd (xs := ([t923, t926] : List (List Int))) (inner := [.slice Ao104 t923.length co104, .slice Ao108 t926.length co108]) (ok := (fun k_ => some k_ ≠ (.slice (some ad940) t917.length co102 : Value).ownBlock ∧ some k_ ≠ (v952 : Value).ownBlock ∧ k_ ≠ gb912)) (okp := (fun k_ => some k_ ≠ (.slice (some ad940) t917.length co102 : Value).ownBlock ∧ some k_ ≠ (v952 : Value).ownBlock ∧ k_ ≠ gb912)) ?hr ?hp (fun _ hk => hk) ((show ∀ k_, w109.heap.size ≤ k_ → (fun k_ => some k_ ≠ (.slice (some ad940) t917.length co102 : Value).ownBlock ∧ some k_ ≠ (v952 : Value).ownBlock ∧ k_ ≠ gb912) k_ from fun k_ hk => ⟨Kd.fresh' (Kd.R_lt HO_9.out) k_ hk, Kd.fresh' (Kd.N_lt HO953.out) k_ hk, Kd.freshB (g := gb912) (o := .cells #[.slice A0_0 l0_0.length c0_0] 24 (0, 0)) BK912.out k_ hk⟩) _ (Nat.le_refl _)) (Below.refl _ _) (Nat.le_refl _) (by simp) ?_; (case hd => rfl); (case hg => rfl); (case hr => first | (go_simp; done) | (go_simp; rfl)); (case hp => exact (Reps.one (show Kd.FK (Kd.slice 3 (Kd.int .i64)) _ _ t923 [.slice Ao104 t923.length co104] from (Kd.FK_slice_mk (Kd.R_reads' (Kd.R_mono (ok' := (fun k_ => some k_ ≠ (.slice (some ad940) t917.length co102 : Value).ownBlock ∧ some k_ ≠ (v952 : Value).ownBlock ∧ k_ ≠ gb912)) (Kd.R_types (Kd.R_apart' (Kd.R_apart' (HO_1.out) (Kd.R_typed HO_9.out) (by decide)) (Kd.N_typed HO953.out) (by decide)) BK912.out (by decide)) (fun k_ hk => ⟨hk.1.1.2, ⟨hk.1.2, hk.2⟩⟩))).2.1 (Kd.R_F (Kd.R_mono (ok' := (fun k_ => some k_ ≠ (.slice (some ad940) t917.length co102 : Value).ownBlock ∧ some k_ ≠ (v952 : Value).ownBlock ∧ k_ ≠ gb912)) (Kd.R_types (Kd.R_apart' (Kd.R_apart' (HO_1.out) (Kd.R_typed HO_9.out) (by decide)) (Kd.N_typed HO953.out) (by decide)) BK912.out (by decide)) (fun k_ hk => ⟨hk.1.1.2, ⟨hk.1.2, hk.2⟩⟩))))) (Reps.one (show Kd.FK (Kd.slice 3 (Kd.int .i64)) _ _ t926 [.slice Ao108 t926.length co108] from (Kd.FK_slice_mk (Kd.R_reads' (Kd.R_mono (ok' := (fun k_ => some k_ ≠ (.slice (some ad940) t917.length co102 : Value).ownBlock ∧ some k_ ≠ (v952 : Value).ownBlock ∧ k_ ≠ gb912)) (Kd.R_types (Kd.R_apart' (Kd.R_apart' (HO_2.out) (Kd.R_typed HO_9.out) (by decide)) (Kd.N_typed HO953.out) (by decide)) BK912.out (by decide)) (fun k_ hk => ⟨hk.1.1.2, ⟨hk.1.2, hk.2⟩⟩))).2.1 (Kd.R_F (Kd.R_mono (ok' := (fun k_ => some k_ ≠ (.slice (some ad940) t917.length co102 : Value).ownBlock ∧ some k_ ≠ (v952 : Value).ownBlock ∧ k_ ≠ gb912)) (Kd.R_types (Kd.R_apart' (Kd.R_apart' (HO_2.out) (Kd.R_typed HO_9.out) (by decide)) (Kd.N_typed HO953.out) (by decide)) BK912.out (by decide)) (fun k_ hk => ⟨hk.1.1.2, ⟨hk.1.2, hk.2⟩⟩))))) (Reps.none _ _))))
        intro v945 w111 ho112 hb hg_ hnew_
        clear hg_ hnew_
        (first | rw [← Ny944.out] at ho112 | (simp only [Int.reduceToNat] at ho112; rw [← Ny944.out] at ho112))
        replace HO_1 := Aside0.mk (Kd.R_below HO_1.out hb)
        replace HO_2 := Aside0.mk (Kd.R_below HO_2.out hb)
        replace HO_9 := Aside0.mk (Kd.R_below HO_9.out hb)
        replace HO953 := Aside0.mk (Kd.N_elder' HO953.out (by first | exact Kd.N_base ho112 | exact Kd.S_base ho112 | exact Kd.R_base ho112) hb)
        have HO946 := Aside0.mk (Kd.N_lower ho112 (below_size HB.out))
        replace BK912 := Aside0.mk (blk_below (g := gb912) (o := .cells #[.slice A0_0 l0_0.length c0_0] 24 (0, 0)) BK912.out hb)
        replace HB := Aside0.mk (below_step HB.out hb)
        clear hb ho112
        obtain ⟨Ao113, co113, eo113⟩ := Kd.N_slice HO946.out
        (first | subst eo113 | (injection eo113 with f1_ f2_ f3_; have f4_ := f1_.symm; have f5_ := f3_.symm; clear f1_ f2_ f3_; subst f4_; subst f5_))
        refine hK.out _ _ ((blk_cell BK912.out 0).trans rfl) (fun hHeld => ?_)
        clear hK K
        refine nm_ 145 ?_
        refine one_ (i := 29) (N := some 146) tth118 rfl rfl (one_of HT_.out (by kernel_rfl)) (by decide) (fun K hK => ?_)
        refine goes_ Try.func34 (by kernel_rfl) rfl #[.slice Ao113 y944.length co113] (by rfl) rfl rfl (by (try simp only [List.map_toArray, List.map_cons, List.map_nil]); first | done | rfl | (simp only [List.length_drop, List.length_take]; rfl)) ?_
        with_reducible refine (mizmazetop_joined.calls k2 _ _ y944 t947 _ ?side1 ?side2 A97.out).mono ?_
        (case side1 => repeat (first | exact (Kd.N_reads' HO946.out).2.2 | (with_reducible refine Kd.C_alloc ?_ _) | (with_reducible refine Kd.C_drewN ?_ _) | (with_reducible refine Kd.C_drew ?_)))
        (case side2 => exact (Kd.N_reads' HO946.out).2.1)
        rintro e w114 ⟨v948, rfl, ho0, hb⟩
        refine ⟨_, rfl, ?_⟩
        have n0_ := Aside0.mk (Kd.R_elder' HO_1.out (Kd.R_base ho0) hb)
        have n1_ := Aside0.mk (Kd.R_elder' HO_2.out (Kd.R_base ho0) hb)
        have n2_ := Aside0.mk (Kd.R_below HO_9.out hb)
        have n3_ := Aside0.mk (Kd.N_elder' HO953.out (Kd.R_base ho0) hb)
        have n4_ := Aside0.mk (Kd.N_elder' HO946.out (Kd.R_base ho0) hb)
        have n5_ := Aside0.mk (Kd.R_lower (Kd.R_new' (Kd.R_new' ho0 (Kd.R_lt HO_1.out)) (Kd.R_lt HO_2.out)) (below_size HB.out))
        have n6_ := Aside0.mk (blk_below (g := gb912) (o := .cells #[.slice A0_0 l0_0.length c0_0] 24 (0, 0)) BK912.out hb)
        have n7_ := Aside0.mk (below_step HB.out hb)
        clear HO_1
        clear HO_2
        clear HO_9
        clear HO953
        clear HO946
        clear BK912
        clear HB
        have HO_1 := n0_
        have HO_2 := n1_
        have HO_9 := n2_
        have HO953 := n3_
        have HO946 := n4_
        have HO949 := n5_
        have BK912 := n6_
        have HB := n7_
        clear n0_ n1_ n2_ n3_ n4_ n5_ n6_ n7_
        (try clear hb)
        (try clear hb2)
        (try clear hk)
        (try clear hi)
        (try clear ho0)
        obtain ⟨Ao115, co115, eo115⟩ := Kd.R_slice HO949.out
        (first | subst eo115 | (injection eo115 with f1_ f2_ f3_; have f4_ := f1_.symm; have f5_ := f3_.symm; clear f1_ f2_ f3_; subst f4_; subst f5_))
        refine hK.out _ _ ((blk_cell BK912.out 0).trans rfl) (fun hHeld => ?_)
        clear hK K
        refine nm_ 146 ?_
        refine one_ (i := 30) (N := some 147) tth95 rfl rfl (one_of HT_.out (by kernel_rfl)) (by decide) (fun K hK => ?_)
        refine goes_ Try.func35 (by kernel_rfl) rfl #[.agg #[.slice A0_0 l0_0.length c0_0], .int .i64 ((rd_T49 t917 x12_2).f0), .slice Ao115 t947.length co115] (by rfl) rfl rfl (by (try simp only [List.map_toArray, List.map_cons, List.map_nil]); first | done | rfl | (simp only [List.length_drop, List.length_take]; rfl)) ?_
        with_reducible refine (mizmazetop_lead.calls k2 _ _ l0_0 ((rd_T49 t917 x12_2).f0) _ _ t947 t950 _ ?side1 ?side2 ?side3 ?side4 A98.out).mono ?_
        (case side1 => repeat (first | exact (Kd.C_below HR0_0.out HB.out) | (with_reducible refine Kd.C_alloc ?_ _) | (with_reducible refine Kd.C_drewN ?_ _) | (with_reducible refine Kd.C_drew ?_)))
        (case side2 => exact HC0_0.out)
        (case side3 => repeat (first | exact (Kd.R_reads' HO949.out).2.2 | (with_reducible refine Kd.C_alloc ?_ _) | (with_reducible refine Kd.C_drewN ?_ _) | (with_reducible refine Kd.C_drew ?_)))
        (case side4 => exact (Kd.R_reads' HO949.out).2.1)
        rintro e w116 ⟨rfl, hb⟩
        refine ⟨_, rfl, ?_⟩
        replace HO_1 := Aside0.mk (Kd.R_below HO_1.out hb)
        replace HO_2 := Aside0.mk (Kd.R_below HO_2.out hb)
        replace HO_9 := Aside0.mk (Kd.R_below HO_9.out hb)
        replace HO953 := Aside0.mk (Kd.N_below HO953.out hb)
        replace HO946 := Aside0.mk (Kd.N_below HO946.out hb)
        replace HO949 := Aside0.mk (Kd.R_below HO949.out hb)
        replace BK912 := Aside0.mk (blk_below (g := gb912) (o := .cells #[.slice A0_0 l0_0.length c0_0] 24 (0, 0)) BK912.out hb)
        replace HB := Aside0.mk (below_step HB.out hb)
        (try clear hb)
        (try clear hb2)
        (try clear hk)
        (try clear hi)
        refine hK.out _ _ ((blk_cell BK912.out 0).trans rfl) (fun hHeld => ?_)
        clear hK K
        refine nm_ 147 ?_
        exact norm_ (by simp only [putAll, Act.put, List.setIfInBounds_toArray, List.set_cons_zero, List.set_cons_succ]) (hCont (.slice Ao113 y944.length co113, .slice Ao115 t947.length co115, v952) _ ⟨hHeld, (Kd.N_mono HO946.out (fun _ hk => ⟨hk.2, ⟨hk.1.2.1, ⟨hk.1.1, hk.1.2.2⟩⟩⟩)), (Kd.R_mono HO949.out (fun _ hk => ⟨hk.1.2, hk.2⟩)), (Kd.N_mono HO953.out (fun _ hk => ⟨hk.1.2, ⟨hk.2, ⟨hk.1.1.1, hk.1.1.2⟩⟩⟩)), (Kd.R_mono HO_1.out (fun _ hk => ⟨hk.2, hk.1⟩)), (Kd.R_mono HO_2.out (fun _ hk => ⟨hk.2, hk.1⟩)), HO_9.out, BK912.out, HB.out⟩)
      rintro ⟨v945, v948, v952⟩ w117 ⟨hS_, h0_, h1_, h2_, h3_, h4_, h5_, h6_, h7_⟩
      have n0_ : Aside0 (Kd.N (Kd.slice 3 (Kd.int .i64)) 25 w117 w.heap.size (fun k_ => some k_ ≠ (v948 : Value).ownBlock ∧ some k_ ≠ (v952 : Value).ownBlock ∧ some k_ ≠ (.slice (some ad940) t917.length co102 : Value).ownBlock ∧ k_ ≠ gb912) v945 y944) := ⟨h0_⟩
      have n1_ : Aside0 (Kd.R (Kd.int .i64) 3 w117 w.heap.size (fun k_ => some k_ ≠ (.slice Ao104 t923.length co104 : Value).ownBlock ∧ some k_ ≠ (.slice Ao108 t926.length co108 : Value).ownBlock) v948 t947) := ⟨h1_⟩
      have n2_ : Aside0 (Kd.N (Kd.slice 3 (Kd.int .i64)) 25 w117 w.heap.size (fun k_ => some k_ ≠ (v945 : Value).ownBlock ∧ some k_ ≠ (v948 : Value).ownBlock ∧ some k_ ≠ (.slice (some ad940) t917.length co102 : Value).ownBlock ∧ k_ ≠ gb912) v952 y951) := ⟨h2_⟩
      have n3_ : Aside0 (Kd.R (Kd.int .i64) 3 w117 w.heap.size (fun k_ => some k_ ≠ (v948 : Value).ownBlock ∧ some k_ ≠ (.slice Ao108 t926.length co108 : Value).ownBlock) (.slice Ao104 t923.length co104) t923) := ⟨h3_⟩
      have n4_ : Aside0 (Kd.R (Kd.int .i64) 3 w117 w.heap.size (fun k_ => some k_ ≠ (v948 : Value).ownBlock ∧ some k_ ≠ (.slice Ao104 t923.length co104 : Value).ownBlock) (.slice Ao108 t926.length co108) t926) := ⟨h4_⟩
      have n5_ : Aside0 (Kd.R k49 49 w117 w.heap.size (fun _ => True) (.slice (some ad940) t917.length co102) t917) := ⟨h5_⟩
      have n6_ : Aside0 (w117.heap[gb912]? = some (.cells #[.slice A0_0 l0_0.length c0_0] 24 (0, 0))) := ⟨h6_⟩
      have n7_ : Aside0 (Below w.heap.size w w117) := ⟨h7_⟩
      clear HO_1
      clear HO_2
      clear HO_9
      clear BK912
      clear HB
      clear h0_ h1_ h2_ h3_ h4_ h5_ h6_ h7_
      have HO946 := n0_
      have HO949 := n1_
      have HO953 := n2_
      have HO_1 := n3_
      have HO_2 := n4_
      have HO_9 := n5_
      have BK912 := n6_
      have HB := n7_
      clear n0_ n1_ n2_ n3_ n4_ n5_ n6_ n7_
      have hHeld : w117.cell? ⟨gb912, 0, none⟩ = some (.slice A0_0 l0_0.length c0_0) := hS_
      obtain ⟨Ao118, co118, eo118⟩ := Kd.N_slice HO953.out
      (first | subst eo118 | (injection eo118 with f1_ f2_ f3_; have f4_ := f1_.symm; have f5_ := f3_.symm; clear f1_ f2_ f3_; subst f4_; subst f5_))
      refine norm_ (a' := ?_) ?_ ?_
      rotate_left
      ·simp only [putAll, Act.put, List.setIfInBounds_toArray, List.set_cons_zero, List.set_cons_succ]
       rfl
      refine one_ (i := 36) (N := some 153) tth96 rfl rfl (one_of HT_.out (by kernel_rfl)) (by decide) (fun K hK => ?_)
      refine goes_ Try.func34 (by kernel_rfl) rfl #[.slice Ao118 y951.length co118] (by rfl) rfl rfl (by (try simp only [List.map_toArray, List.map_cons, List.map_nil]); first | done | rfl | (simp only [List.length_drop, List.length_take]; rfl)) ?_
      with_reducible refine (mizmazetop_joined.calls k2 _ _ y951 t954 _ ?side1 ?side2 A99.out).mono ?_
      (case side1 => repeat (first | exact (Kd.N_reads' HO953.out).2.2 | (with_reducible refine Kd.C_alloc ?_ _) | (with_reducible refine Kd.C_drewN ?_ _) | (with_reducible refine Kd.C_drew ?_)))
      (case side2 => exact (Kd.N_reads' HO953.out).2.1)
      rintro e w119 ⟨v955, rfl, ho0, hb⟩
      refine ⟨_, rfl, ?_⟩
      have n0_ := Aside0.mk (Kd.R_elder' HO_1.out (Kd.R_base ho0) hb)
      have n1_ := Aside0.mk (Kd.R_elder' HO_2.out (Kd.R_base ho0) hb)
      have n2_ := Aside0.mk (Kd.R_below HO_9.out hb)
      have n3_ := Aside0.mk (Kd.N_elder' HO946.out (Kd.R_base ho0) hb)
      have n4_ := Aside0.mk (Kd.R_elder' HO949.out (Kd.R_base ho0) hb)
      have n5_ := Aside0.mk (Kd.N_elder' HO953.out (Kd.R_base ho0) hb)
      have n6_ := Aside0.mk (Kd.R_lower (Kd.R_new' (Kd.R_new' (Kd.R_new' ho0 (Kd.R_lt HO_1.out)) (Kd.R_lt HO_2.out)) (Kd.R_lt HO949.out)) (below_size HB.out))
      have n7_ := Aside0.mk (blk_below (g := gb912) (o := .cells #[.slice A0_0 l0_0.length c0_0] 24 (0, 0)) BK912.out hb)
      have n8_ := Aside0.mk (below_step HB.out hb)
      clear HO_1
      clear HO_2
      clear HO_9
      clear HO946
      clear HO949
      clear HO953
      clear BK912
      clear HB
      have HO_1 := n0_
      have HO_2 := n1_
      have HO_9 := n2_
      have HO946 := n3_
      have HO949 := n4_
      have HO953 := n5_
      have HO956 := n6_
      have BK912 := n7_
      have HB := n8_
      clear n0_ n1_ n2_ n3_ n4_ n5_ n6_ n7_ n8_
      (try clear hb)
      (try clear hb2)
      (try clear hk)
      (try clear hi)
      (try clear ho0)
      obtain ⟨Ao120, co120, eo120⟩ := Kd.R_slice HO956.out
      (first | subst eo120 | (injection eo120 with f1_ f2_ f3_; have f4_ := f1_.symm; have f5_ := f3_.symm; clear f1_ f2_ f3_; subst f4_; subst f5_))
      refine hK.out _ _ ((blk_cell BK912.out 0).trans rfl) (fun hHeld => ?_)
      clear hK K
      refine nm_ 153 ?_
      refine one_ (i := 37) (N := some 154) tth97 rfl rfl (one_of HT_.out (by kernel_rfl)) (by decide) (fun K hK => ?_)
      refine goes_ Try.func35 (by kernel_rfl) rfl #[.agg #[.slice A0_0 l0_0.length c0_0], .int .i64 ((rd_T49 t917 x12_2).f1), .slice Ao120 t954.length co120] (by rfl) rfl rfl (by (try simp only [List.map_toArray, List.map_cons, List.map_nil]); first | done | rfl | (simp only [List.length_drop, List.length_take]; rfl)) ?_
      with_reducible refine (mizmazetop_lead.calls k2 _ _ l0_0 ((rd_T49 t917 x12_2).f1) _ _ t954 t957 _ ?side1 ?side2 ?side3 ?side4 A100.out).mono ?_
      (case side1 => repeat (first | exact (Kd.C_below HR0_0.out HB.out) | (with_reducible refine Kd.C_alloc ?_ _) | (with_reducible refine Kd.C_drewN ?_ _) | (with_reducible refine Kd.C_drew ?_)))
      (case side2 => exact HC0_0.out)
      (case side3 => repeat (first | exact (Kd.R_reads' HO956.out).2.2 | (with_reducible refine Kd.C_alloc ?_ _) | (with_reducible refine Kd.C_drewN ?_ _) | (with_reducible refine Kd.C_drew ?_)))
      (case side4 => exact (Kd.R_reads' HO956.out).2.1)
      rintro e w121 ⟨rfl, hb⟩
      refine ⟨_, rfl, ?_⟩
      replace HO_1 := Aside0.mk (Kd.R_below HO_1.out hb)
      replace HO_2 := Aside0.mk (Kd.R_below HO_2.out hb)
      replace HO_9 := Aside0.mk (Kd.R_below HO_9.out hb)
      replace HO946 := Aside0.mk (Kd.N_below HO946.out hb)
      replace HO949 := Aside0.mk (Kd.R_below HO949.out hb)
      replace HO953 := Aside0.mk (Kd.N_below HO953.out hb)
      replace HO956 := Aside0.mk (Kd.R_below HO956.out hb)
      replace BK912 := Aside0.mk (blk_below (g := gb912) (o := .cells #[.slice A0_0 l0_0.length c0_0] 24 (0, 0)) BK912.out hb)
      replace HB := Aside0.mk (below_step HB.out hb)
      (try clear hb)
      (try clear hb2)
      (try clear hk)
      (try clear hi)
      refine hK.out _ _ ((blk_cell BK912.out 0).trans rfl) (fun hHeld => ?_)
      clear hK K
      refine nm_ 154 ?_
      refine pv_ 38 155 tth98 HT_ ?_
      refine pv_ 39 156 tth99 HT_ ?_
      refine done_ (done_of HT_.out (by kernel_rfl)) ?_
      try go_wp2
      go_ret
      exact ⟨by first | rfl | (simp [errW_none, errW_some] <;> rfl) | (simp [*, errW_none, errW_some] <;> rfl), by repeat (first | (with_reducible first | exact HB.out | apply below_alloc | apply pw_below_drewN | apply below_drew1 | refine below_set ?_ GE912.out) | exact HB.out)⟩
     rw [if_neg c101] at H
     have c101b0 : (t950 == t957) = false := beq_eq_false_iff_ne.mpr c101
     have c101b1 : (t950 != t957) = true := bne_iff_ne.mpr c101
     have H' := Aside0.mk H
     clear H
     obtain ⟨Ao122, co122, eo122⟩ := Kd.R_slice HO_9.out
     subst eo122
     try go_wp2
     replace HO_1 := Aside0.mk (Kd.R_drew HO_1.out)
     replace HO_2 := Aside0.mk (Kd.R_drew HO_2.out)
     replace HO_9 := Aside0.mk (Kd.R_drew HO_9.out)
     replace BK912 := Aside0.mk (blk_drew BK912.out)
     replace HB := Aside0.mk (below_drew1 HB.out)
     have p940 : 0 ≤ (x12_2 : Int) := of_decide_eq_true (by first | (with_reducible assumption) | assumption)
     have q940 : x12_2 < (t917.length : Int) := of_decide_eq_true (by first | (with_reducible assumption) | assumption)
     obtain ⟨ad940, e940, hx940_0, hx940_1⟩ := at_T49 (Kd.R_reads' HO_9.out).2.2 x12_2 p940 q940
     cases e940
     replace p940 := eq_true p940
     replace q940 := eq_true q940
     have p941 : 0 ≤ (x12_2 : Int) := of_decide_eq_true (by first | (with_reducible assumption) | assumption)
     have q941 : x12_2 < (t917.length : Int) := of_decide_eq_true (by first | (with_reducible assumption) | assumption)
     obtain ⟨ad941, e941, hx941_0, hx941_1⟩ := at_T49 (Kd.R_reads' HO_9.out).2.2 x12_2 p941 q941
     obtain rfl : ad940 = ad941 := (by injection e941)
     replace p941 := eq_true p941
     replace q941 := eq_true q941
     refine start_ (n := 12) (S := fun w' => w'.cell? (ad940.add ((x12_2).toNat * 2)) = some (.int .i64 ((rd_T49 t917 x12_2).f0)) ∧ w'.cell? ⟨(ad940.add ((x12_2).toNat * 2)).block, (ad940.add ((x12_2).toNat * 2)).off + 1, none⟩ = some (.int .i64 ((rd_T49 t917 x12_2).f1)) ∧ w'.cell? (ad940.add ((x12_2).toNat * 2)) = some (.int .i64 ((rd_T49 t917 x12_2).f0)) ∧ w'.cell? ⟨(ad940.add ((x12_2).toNat * 2)).block, (ad940.add ((x12_2).toNat * 2)).off + 1, none⟩ = some (.int .i64 ((rd_T49 t917 x12_2).f1))) (ds := []) #[false, false, false, false, false, false, false, false, false, false, false, false] (by kernel_rfl) rfl rfl ⟨hx940_0, hx940_1, hx941_0, hx941_1⟩ (fun hHeld => ?_); refine with_tabW mizmazetop_TopHome.tab14 mizmazetop_TopHome.bits14 (fun HT_ HW_ => ?_)
     generalize wr.drew = w123 at HO_1 HO_2 HO_9 BK912 HB hx940_0 hx940_1 hx941_0 hx941_1 hHeld ⊢
     refine pv_ 0 107 tth48 HT_ ?_
     refine pv_ 1 108 tth49 HT_ ?_
     refine pv_ 2 109 tth50 HT_ ?_
     refine pv_ 3 110 tth51 HT_ ?_
     refine pv_ 5 112 tth52 HT_ ?_
     refine pv_ 6 113 tth53 HT_ ?_
     refine pv_ 7 114 tth54 HT_ ?_
     refine pv_ 8 115 tth55 HT_ ?_
     refine tv_ 4 111 tth56 HT_ HW_ hHeld ?_
     refine pv_ 10 13 tth57 HT_ ?_
     refine tv_ 9 116 tth58 HT_ HW_ hHeld ?_
     refine pv_ 11 14 tth59 HT_ ?_
     refine done_ (done_of HT_.out (by kernel_rfl)) ?_
     obtain ⟨Ao124, co124, eo124⟩ := Kd.R_slice HO_1.out
     subst eo124
     try go_wp2
     replace HO_1 := Aside0.mk (Kd.R_drew HO_1.out)
     replace HO_2 := Aside0.mk (Kd.R_drew HO_2.out)
     replace HO_9 := Aside0.mk (Kd.R_drew HO_9.out)
     replace BK912 := Aside0.mk (blk_drew BK912.out)
     replace HB := Aside0.mk (below_drew1 HB.out)
     refine start_ (n := 40) (S := fun w' => w'.cell? ⟨gb912, 0, none⟩ = some (.slice A0_0 l0_0.length c0_0)) (ds := []) #[false, false, false, false, false, false, false, false, false, false, false, false, false, false, false, false, false, false, false, false, false, false, false, false, false, false, false, false, false, false, false, false, false, false, false, false, false, false, false, false] (by kernel_rfl) rfl rfl ((blk_cell BK912.out 0).trans rfl) (fun hHeld => ?_); refine with_tabW mizmazetop_TopHome.tab15 mizmazetop_TopHome.bits15 (fun HT_ HW_ => ?_)
     generalize w123.drew = w125 at HO_1 HO_2 HO_9 BK912 HB hHeld ⊢
     refine pv_ 0 117 tth60 HT_ ?_
     refine pv_ 1 118 tth61 HT_ ?_
     refine pv_ 2 119 tth62 HT_ ?_
     refine pv_ 3 120 tth63 HT_ ?_
     refine pv_ 4 121 tth64 HT_ ?_
     refine pv_ 5 122 tth65 HT_ ?_
     refine pv_ 6 123 tth66 HT_ ?_
     refine pv_ 7 124 tth67 HT_ ?_
     refine pv_ 8 125 tth68 HT_ ?_
     refine pv_ 9 126 tth69 HT_ ?_
     refine pv_ 10 127 tth70 HT_ ?_
     refine pv_ 11 128 tth71 HT_ ?_
     refine pv_ 12 129 tth72 HT_ ?_
     refine pv_ 14 131 tth100 HT_ ?_
     refine pv_ 15 132 tth101 HT_ ?_
     refine pv_ 18 135 tth102 HT_ ?_
     refine pv_ 19 136 tth103 HT_ ?_
     refine tv_ 13 130 tth104 HT_ HW_ hHeld ?_
     refine tv_ 17 134 tth105 HT_ HW_ hHeld ?_
     refine one_ (i := 16) (N := some 133) tth79 rfl rfl (one_of HT_.out (by kernel_rfl)) (by decide) (fun K hK => ?_)
     refine goes_ Try.func35 (by kernel_rfl) rfl #[.agg #[.slice A0_0 l0_0.length c0_0], .int .i64 ((rd_T49 t917 x12_2).f0), .slice Ao124 t923.length co124] (by rfl) rfl rfl (by (try simp only [List.map_toArray, List.map_cons, List.map_nil]); first | done | rfl | (simp only [List.length_drop, List.length_take]; rfl)) ?_
     with_reducible refine (mizmazetop_lead.calls k2 _ _ l0_0 ((rd_T49 t917 x12_2).f0) _ _ t923 t942 _ ?side1 ?side2 ?side3 ?side4 A88.out).mono ?_
     (case side1 => repeat (first | exact (Kd.C_below HR0_0.out HB.out) | (with_reducible refine Kd.C_alloc ?_ _) | (with_reducible refine Kd.C_drewN ?_ _) | (with_reducible refine Kd.C_drew ?_)))
     (case side2 => exact HC0_0.out)
     (case side3 => repeat (first | exact (Kd.R_reads' HO_1.out).2.2 | (with_reducible refine Kd.C_alloc ?_ _) | (with_reducible refine Kd.C_drewN ?_ _) | (with_reducible refine Kd.C_drew ?_)))
     (case side4 => exact (Kd.R_reads' HO_1.out).2.1)
     rintro e w126 ⟨rfl, hb⟩
     refine ⟨_, rfl, ?_⟩
     replace HO_1 := Aside0.mk (Kd.R_below HO_1.out hb)
     replace HO_2 := Aside0.mk (Kd.R_below HO_2.out hb)
     replace HO_9 := Aside0.mk (Kd.R_below HO_9.out hb)
     replace BK912 := Aside0.mk (blk_below (g := gb912) (o := .cells #[.slice A0_0 l0_0.length c0_0] 24 (0, 0)) BK912.out hb)
     replace HB := Aside0.mk (below_step HB.out hb)
     (try clear hb)
     (try clear hb2)
     (try clear hk)
     (try clear hi)
     refine hK.out _ _ ((blk_cell BK912.out 0).trans rfl) (fun hHeld => ?_)
     clear hK K
     refine nm_ 133 ?_
     refine one_ (i := 20) (N := some 137) tth80 rfl rfl (one_of HT_.out (by kernel_rfl)) (by decide) (fun K hK => ?_)
     refine goes_ Try.func35 (by kernel_rfl) rfl #[.agg #[.slice A0_0 l0_0.length c0_0], .int .i64 ((rd_T49 t917 x12_2).f1), .slice Ao124 t923.length co124] (by rfl) rfl rfl (by (try simp only [List.map_toArray, List.map_cons, List.map_nil]); first | done | rfl | (simp only [List.length_drop, List.length_take]; rfl)) ?_
     with_reducible refine (mizmazetop_lead.calls k2 _ _ l0_0 ((rd_T49 t917 x12_2).f1) _ _ t923 t943 _ ?side1 ?side2 ?side3 ?side4 A89.out).mono ?_
     (case side1 => repeat (first | exact (Kd.C_below HR0_0.out HB.out) | (with_reducible refine Kd.C_alloc ?_ _) | (with_reducible refine Kd.C_drewN ?_ _) | (with_reducible refine Kd.C_drew ?_)))
     (case side2 => exact HC0_0.out)
     (case side3 => repeat (first | exact (Kd.R_reads' HO_1.out).2.2 | (with_reducible refine Kd.C_alloc ?_ _) | (with_reducible refine Kd.C_drewN ?_ _) | (with_reducible refine Kd.C_drew ?_)))
     (case side4 => exact (Kd.R_reads' HO_1.out).2.1)
     rintro e w127 ⟨rfl, hb⟩
     refine ⟨_, rfl, ?_⟩
     replace HO_1 := Aside0.mk (Kd.R_below HO_1.out hb)
     replace HO_2 := Aside0.mk (Kd.R_below HO_2.out hb)
     replace HO_9 := Aside0.mk (Kd.R_below HO_9.out hb)
     replace BK912 := Aside0.mk (blk_below (g := gb912) (o := .cells #[.slice A0_0 l0_0.length c0_0] 24 (0, 0)) BK912.out hb)
     replace HB := Aside0.mk (below_step HB.out hb)
     (try clear hb)
     (try clear hb2)
     (try clear hk)
     (try clear hi)
     obtain ⟨Ao128, co128, eo128⟩ := Kd.R_slice HO_2.out
     (first | subst eo128 | (injection eo128 with f1_ f2_ f3_; have f4_ := f1_.symm; have f5_ := f3_.symm; clear f1_ f2_ f3_; subst f4_; subst f5_))
     refine hK.out _ _ ((blk_cell BK912.out 0).trans rfl) (fun hHeld => ?_)
     clear hK K
     refine nm_ 137 ?_
     refine pv_ 21 138 tth81 HT_ ?_
     refine pv_ 22 139 tth82 HT_ ?_
     refine pv_ 23 140 tth83 HT_ ?_
     refine pv_ 25 142 tth106 HT_ ?_
     refine pv_ 26 143 tth107 HT_ ?_
     refine pv_ 27 144 tth108 HT_ ?_
     refine pv_ 32 149 tth109 HT_ ?_
     refine pv_ 33 150 tth110 HT_ ?_
     refine pv_ 34 151 tth111 HT_ ?_
     refine tv_ 24 141 tth112 HT_ HW_ hHeld ?_
     refine tv_ 31 148 tth113 HT_ HW_ hHeld ?_
     refine join_ (σ := Value × Value × Value) 4 #[true, true, true, true, true, true, true, true, true, true, true, true, true, true, true, true, true, true, true, true, true, true, true, true, true, true, true, true, true, true, true, true, true, true, true, true, false, false, false, false] (fun s_ => [(145, s_.1), (146, s_.2.1), (147, .int .i64 t950), (152, s_.2.2)]) (fun s_ w' => (w'.cell? ⟨gb912, 0, none⟩ = some (.slice A0_0 l0_0.length c0_0)) ∧ (Kd.N (Kd.slice 3 (Kd.int .i64)) 25 w' w.heap.size (fun k_ => some k_ ≠ (s_.2.1 : Value).ownBlock ∧ some k_ ≠ (s_.2.2 : Value).ownBlock ∧ some k_ ≠ (.slice (some ad940) t917.length co122 : Value).ownBlock ∧ k_ ≠ gb912) s_.1 y944) ∧ (Kd.R (Kd.int .i64) 3 w' w.heap.size (fun k_ => some k_ ≠ (.slice Ao124 t923.length co124 : Value).ownBlock ∧ some k_ ≠ (.slice Ao128 t926.length co128 : Value).ownBlock) s_.2.1 t947) ∧ (Kd.N (Kd.slice 3 (Kd.int .i64)) 25 w' w.heap.size (fun k_ => some k_ ≠ (s_.1 : Value).ownBlock ∧ some k_ ≠ (s_.2.1 : Value).ownBlock ∧ some k_ ≠ (.slice (some ad940) t917.length co122 : Value).ownBlock ∧ k_ ≠ gb912) s_.2.2 y951) ∧ (Kd.R (Kd.int .i64) 3 w' w.heap.size (fun k_ => some k_ ≠ (s_.2.1 : Value).ownBlock ∧ some k_ ≠ (.slice Ao128 t926.length co128 : Value).ownBlock) (.slice Ao124 t923.length co124) t923) ∧ (Kd.R (Kd.int .i64) 3 w' w.heap.size (fun k_ => some k_ ≠ (s_.2.1 : Value).ownBlock ∧ some k_ ≠ (.slice Ao124 t923.length co124 : Value).ownBlock) (.slice Ao128 t926.length co128) t926) ∧ (Kd.R k49 49 w' w.heap.size (fun _ => True) (.slice (some ad940) t917.length co122) t917) ∧ (w'.heap[gb912]? = some (.cells #[.slice A0_0 l0_0.length c0_0] 24 (0, 0))) ∧ (Below w.heap.size w w')) ?_ ?_
     rotate_left
     ·intro hCont
      refine two_ (i := 28) (j := 35) (Ni := some 145) (Nj := some 152) tth114 tth115 rfl rfl rfl rfl (two_of HT_.out (by kernel_rfl)) (by decide) (by decide) (fun K hK => ?_) (fun K hK => ?_)
      ·skip
       refine Kd.N_lit_step (Kd.slice 3 (Kd.int .i64)) _ 25 ?hg (N' := 145) ?hd (xs := ([t923, t926] : List (List Int))) (inner := [.slice Ao124 t923.length co124, .slice Ao128 t926.length co128]) (ok := (fun k_ => some k_ ≠ (.slice (some ad940) t917.length co122 : Value).ownBlock ∧ k_ ≠ gb912)) (okp := (fun k_ => some k_ ≠ (.slice (some ad940) t917.length co122 : Value).ownBlock ∧ k_ ≠ gb912)) ?hr ?hp (fun _ hk => hk) ((show ∀ k_, w127.heap.size ≤ k_ → (fun k_ => some k_ ≠ (.slice (some ad940) t917.length co122 : Value).ownBlock ∧ k_ ≠ gb912) k_ from fun k_ hk => ⟨Kd.fresh' (Kd.R_lt HO_9.out) k_ hk, Kd.freshB (g := gb912) (o := .cells #[.slice A0_0 l0_0.length c0_0] 24 (0, 0)) BK912.out k_ hk⟩) _ (Nat.le_refl _)) (Below.refl _ _) (Nat.le_refl _) (by simp) ?_; (case hd => rfl); (case hg => rfl); (case hr => first | (go_simp; done) | (go_simp; rfl)); (case hp => exact (Reps.one (show Kd.FK (Kd.slice 3 (Kd.int .i64)) _ _ t923 [.slice Ao124 t923.length co124] from (Kd.FK_slice_mk (Kd.R_reads' (Kd.R_mono (ok' := (fun k_ => some k_ ≠ (.slice (some ad940) t917.length co122 : Value).ownBlock ∧ k_ ≠ gb912)) (Kd.R_types (Kd.R_apart' (HO_1.out) (Kd.R_typed HO_9.out) (by decide)) BK912.out (by decide)) (fun k_ hk => ⟨hk.1.2, hk.2⟩))).2.1 (Kd.R_F (Kd.R_mono (ok' := (fun k_ => some k_ ≠ (.slice (some ad940) t917.length co122 : Value).ownBlock ∧ k_ ≠ gb912)) (Kd.R_types (Kd.R_apart' (HO_1.out) (Kd.R_typed HO_9.out) (by decide)) BK912.out (by decide)) (fun k_ hk => ⟨hk.1.2, hk.2⟩))))) (Reps.one (show Kd.FK (Kd.slice 3 (Kd.int .i64)) _ _ t926 [.slice Ao128 t926.length co128] from (Kd.FK_slice_mk (Kd.R_reads' (Kd.R_mono (ok' := (fun k_ => some k_ ≠ (.slice (some ad940) t917.length co122 : Value).ownBlock ∧ k_ ≠ gb912)) (Kd.R_types (Kd.R_apart' (HO_2.out) (Kd.R_typed HO_9.out) (by decide)) BK912.out (by decide)) (fun k_ hk => ⟨hk.1.2, hk.2⟩))).2.1 (Kd.R_F (Kd.R_mono (ok' := (fun k_ => some k_ ≠ (.slice (some ad940) t917.length co122 : Value).ownBlock ∧ k_ ≠ gb912)) (Kd.R_types (Kd.R_apart' (HO_2.out) (Kd.R_typed HO_9.out) (by decide)) BK912.out (by decide)) (fun k_ hk => ⟨hk.1.2, hk.2⟩))))) (Reps.none _ _))))
       intro v945 w129 ho130 hb hg_ hnew_
       clear hg_ hnew_
       (first | rw [← Ny944.out] at ho130 | (simp only [Int.reduceToNat] at ho130; rw [← Ny944.out] at ho130))
       replace HO_1 := Aside0.mk (Kd.R_below HO_1.out hb)
       replace HO_2 := Aside0.mk (Kd.R_below HO_2.out hb)
       replace HO_9 := Aside0.mk (Kd.R_below HO_9.out hb)
       have HO946 := Aside0.mk (Kd.N_lower ho130 (below_size HB.out))
       replace BK912 := Aside0.mk (blk_below (g := gb912) (o := .cells #[.slice A0_0 l0_0.length c0_0] 24 (0, 0)) BK912.out hb)
       replace HB := Aside0.mk (below_step HB.out hb)
       clear hb ho130
       obtain ⟨Ao131, co131, eo131⟩ := Kd.N_slice HO946.out
       (first | subst eo131 | (injection eo131 with f1_ f2_ f3_; have f4_ := f1_.symm; have f5_ := f3_.symm; clear f1_ f2_ f3_; subst f4_; subst f5_))
       refine hK.out _ _ ((blk_cell BK912.out 0).trans rfl) (fun hHeld => ?_)
       clear hK K
       refine nm_ 145 ?_
       refine two_ (i := 29) (j := 35) (Ni := some 146) (Nj := some 152) tth116 tth117 rfl rfl rfl rfl (two_of HT_.out (by kernel_rfl)) (by decide) (by decide) (fun K hK => ?_) (fun K hK => ?_)
       ·skip
        refine goes_ Try.func34 (by kernel_rfl) rfl #[.slice Ao131 y944.length co131] (by rfl) rfl rfl (by (try simp only [List.map_toArray, List.map_cons, List.map_nil]); first | done | rfl | (simp only [List.length_drop, List.length_take]; rfl)) ?_
        with_reducible refine (mizmazetop_joined.calls k2 _ _ y944 t947 _ ?side1 ?side2 A97.out).mono ?_
        (case side1 => repeat (first | exact (Kd.N_reads' HO946.out).2.2 | (with_reducible refine Kd.C_alloc ?_ _) | (with_reducible refine Kd.C_drewN ?_ _) | (with_reducible refine Kd.C_drew ?_)))
        (case side2 => exact (Kd.N_reads' HO946.out).2.1)
        rintro e w132 ⟨v948, rfl, ho0, hb⟩
        refine ⟨_, rfl, ?_⟩
        have n0_ := Aside0.mk (Kd.R_elder' HO_1.out (Kd.R_base ho0) hb)
        have n1_ := Aside0.mk (Kd.R_elder' HO_2.out (Kd.R_base ho0) hb)
        have n2_ := Aside0.mk (Kd.R_below HO_9.out hb)
        have n3_ := Aside0.mk (Kd.N_elder' HO946.out (Kd.R_base ho0) hb)
        have n4_ := Aside0.mk (Kd.R_lower (Kd.R_new' (Kd.R_new' ho0 (Kd.R_lt HO_1.out)) (Kd.R_lt HO_2.out)) (below_size HB.out))
        have n5_ := Aside0.mk (blk_below (g := gb912) (o := .cells #[.slice A0_0 l0_0.length c0_0] 24 (0, 0)) BK912.out hb)
        have n6_ := Aside0.mk (below_step HB.out hb)
        clear HO_1
        clear HO_2
        clear HO_9
        clear HO946
        clear BK912
        clear HB
        have HO_1 := n0_
        have HO_2 := n1_
        have HO_9 := n2_
        have HO946 := n3_
        have HO949 := n4_
        have BK912 := n5_
        have HB := n6_
        clear n0_ n1_ n2_ n3_ n4_ n5_ n6_
        (try clear hb)
        (try clear hb2)
        (try clear hk)
        (try clear hi)
        (try clear ho0)
        obtain ⟨Ao133, co133, eo133⟩ := Kd.R_slice HO949.out
        (first | subst eo133 | (injection eo133 with f1_ f2_ f3_; have f4_ := f1_.symm; have f5_ := f3_.symm; clear f1_ f2_ f3_; subst f4_; subst f5_))
        refine hK.out _ _ ((blk_cell BK912.out 0).trans rfl) (fun hHeld => ?_)
        clear hK K
        refine nm_ 146 ?_
        refine two_ (i := 30) (j := 35) (Ni := some 147) (Nj := some 152) tth94 tth118 rfl rfl rfl rfl (two_of HT_.out (by kernel_rfl)) (by decide) (by decide) (fun K hK => ?_) (fun K hK => ?_)
        ·skip
         refine goes_ Try.func35 (by kernel_rfl) rfl #[.agg #[.slice A0_0 l0_0.length c0_0], .int .i64 ((rd_T49 t917 x12_2).f0), .slice Ao133 t947.length co133] (by rfl) rfl rfl (by (try simp only [List.map_toArray, List.map_cons, List.map_nil]); first | done | rfl | (simp only [List.length_drop, List.length_take]; rfl)) ?_
         with_reducible refine (mizmazetop_lead.calls k2 _ _ l0_0 ((rd_T49 t917 x12_2).f0) _ _ t947 t950 _ ?side1 ?side2 ?side3 ?side4 A98.out).mono ?_
         (case side1 => repeat (first | exact (Kd.C_below HR0_0.out HB.out) | (with_reducible refine Kd.C_alloc ?_ _) | (with_reducible refine Kd.C_drewN ?_ _) | (with_reducible refine Kd.C_drew ?_)))
         (case side2 => exact HC0_0.out)
         (case side3 => repeat (first | exact (Kd.R_reads' HO949.out).2.2 | (with_reducible refine Kd.C_alloc ?_ _) | (with_reducible refine Kd.C_drewN ?_ _) | (with_reducible refine Kd.C_drew ?_)))
         (case side4 => exact (Kd.R_reads' HO949.out).2.1)
         rintro e w134 ⟨rfl, hb⟩
         refine ⟨_, rfl, ?_⟩
         replace HO_1 := Aside0.mk (Kd.R_below HO_1.out hb)
         replace HO_2 := Aside0.mk (Kd.R_below HO_2.out hb)
         replace HO_9 := Aside0.mk (Kd.R_below HO_9.out hb)
         replace HO946 := Aside0.mk (Kd.N_below HO946.out hb)
         replace HO949 := Aside0.mk (Kd.R_below HO949.out hb)
         replace BK912 := Aside0.mk (blk_below (g := gb912) (o := .cells #[.slice A0_0 l0_0.length c0_0] 24 (0, 0)) BK912.out hb)
         replace HB := Aside0.mk (below_step HB.out hb)
         (try clear hb)
         (try clear hb2)
         (try clear hk)
         (try clear hi)
         refine hK.out _ _ ((blk_cell BK912.out 0).trans rfl) (fun hHeld => ?_)
         clear hK K
         refine nm_ 147 ?_
         refine one_ (i := 35) (N := some 152) tth95 rfl rfl (one_of HT_.out (by kernel_rfl)) (by decide) (fun K hK => ?_)
         refine Kd.N_lit_step (Kd.slice 3 (Kd.int .i64)) _ 25 ?hg (N' := 152) ?hd (xs := ([t923, t926] : List (List Int))) (inner := [.slice Ao124 t923.length co124, .slice Ao128 t926.length co128]) (ok := (fun k_ => some k_ ≠ (.slice (some ad940) t917.length co122 : Value).ownBlock ∧ some k_ ≠ (.slice Ao131 y944.length co131 : Value).ownBlock ∧ some k_ ≠ (.slice Ao133 t947.length co133 : Value).ownBlock ∧ k_ ≠ gb912)) (okp := (fun k_ => some k_ ≠ (.slice (some ad940) t917.length co122 : Value).ownBlock ∧ some k_ ≠ (.slice Ao131 y944.length co131 : Value).ownBlock ∧ some k_ ≠ (.slice Ao133 t947.length co133 : Value).ownBlock ∧ k_ ≠ gb912)) ?hr ?hp (fun _ hk => hk) ((show ∀ k_, w134.heap.size ≤ k_ → (fun k_ => some k_ ≠ (.slice (some ad940) t917.length co122 : Value).ownBlock ∧ some k_ ≠ (.slice Ao131 y944.length co131 : Value).ownBlock ∧ some k_ ≠ (.slice Ao133 t947.length co133 : Value).ownBlock ∧ k_ ≠ gb912) k_ from fun k_ hk => ⟨Kd.fresh' (Kd.R_lt HO_9.out) k_ hk, Kd.fresh' (Kd.N_lt HO946.out) k_ hk, Kd.fresh' (Kd.R_lt HO949.out) k_ hk, Kd.freshB (g := gb912) (o := .cells #[.slice A0_0 l0_0.length c0_0] 24 (0, 0)) BK912.out k_ hk⟩) _ (Nat.le_refl _)) (Below.refl _ _) (Nat.le_refl _) (by simp) ?_; (case hd => rfl); (case hg => rfl); (case hr => first | (go_simp; done) | (go_simp; rfl)); (case hp => exact (Reps.one (show Kd.FK (Kd.slice 3 (Kd.int .i64)) _ _ t923 [.slice Ao124 t923.length co124] from (Kd.FK_slice_mk (Kd.R_reads' (Kd.R_mono (ok' := (fun k_ => some k_ ≠ (.slice (some ad940) t917.length co122 : Value).ownBlock ∧ some k_ ≠ (.slice Ao131 y944.length co131 : Value).ownBlock ∧ some k_ ≠ (.slice Ao133 t947.length co133 : Value).ownBlock ∧ k_ ≠ gb912)) (Kd.R_types (Kd.R_apart' (Kd.R_apart' (HO_1.out) (Kd.R_typed HO_9.out) (by decide)) (Kd.N_typed HO946.out) (by decide)) BK912.out (by decide)) (fun k_ hk => ⟨hk.1.1.2, ⟨hk.1.2, ⟨hk.1.1.1.2, hk.2⟩⟩⟩))).2.1 (Kd.R_F (Kd.R_mono (ok' := (fun k_ => some k_ ≠ (.slice (some ad940) t917.length co122 : Value).ownBlock ∧ some k_ ≠ (.slice Ao131 y944.length co131 : Value).ownBlock ∧ some k_ ≠ (.slice Ao133 t947.length co133 : Value).ownBlock ∧ k_ ≠ gb912)) (Kd.R_types (Kd.R_apart' (Kd.R_apart' (HO_1.out) (Kd.R_typed HO_9.out) (by decide)) (Kd.N_typed HO946.out) (by decide)) BK912.out (by decide)) (fun k_ hk => ⟨hk.1.1.2, ⟨hk.1.2, ⟨hk.1.1.1.2, hk.2⟩⟩⟩))))) (Reps.one (show Kd.FK (Kd.slice 3 (Kd.int .i64)) _ _ t926 [.slice Ao128 t926.length co128] from (Kd.FK_slice_mk (Kd.R_reads' (Kd.R_mono (ok' := (fun k_ => some k_ ≠ (.slice (some ad940) t917.length co122 : Value).ownBlock ∧ some k_ ≠ (.slice Ao131 y944.length co131 : Value).ownBlock ∧ some k_ ≠ (.slice Ao133 t947.length co133 : Value).ownBlock ∧ k_ ≠ gb912)) (Kd.R_types (Kd.R_apart' (Kd.R_apart' (HO_2.out) (Kd.R_typed HO_9.out) (by decide)) (Kd.N_typed HO946.out) (by decide)) BK912.out (by decide)) (fun k_ hk => ⟨hk.1.1.2, ⟨hk.1.2, ⟨hk.1.1.1.2, hk.2⟩⟩⟩))).2.1 (Kd.R_F (Kd.R_mono (ok' := (fun k_ => some k_ ≠ (.slice (some ad940) t917.length co122 : Value).ownBlock ∧ some k_ ≠ (.slice Ao131 y944.length co131 : Value).ownBlock ∧ some k_ ≠ (.slice Ao133 t947.length co133 : Value).ownBlock ∧ k_ ≠ gb912)) (Kd.R_types (Kd.R_apart' (Kd.R_apart' (HO_2.out) (Kd.R_typed HO_9.out) (by decide)) (Kd.N_typed HO946.out) (by decide)) BK912.out (by decide)) (fun k_ hk => ⟨hk.1.1.2, ⟨hk.1.2, ⟨hk.1.1.1.2, hk.2⟩⟩⟩))))) (Reps.none _ _))))
         intro v952 w135 ho136 hb hg_ hnew_
         clear hg_ hnew_
         (first | rw [← Ny951.out] at ho136 | (simp only [Int.reduceToNat] at ho136; rw [← Ny951.out] at ho136))
         replace HO_1 := Aside0.mk (Kd.R_below HO_1.out hb)
         replace HO_2 := Aside0.mk (Kd.R_below HO_2.out hb)
         replace HO_9 := Aside0.mk (Kd.R_below HO_9.out hb)
         replace HO946 := Aside0.mk (Kd.N_elder' HO946.out (by first | exact Kd.N_base ho136 | exact Kd.S_base ho136 | exact Kd.R_base ho136) hb)
         replace HO949 := Aside0.mk (Kd.R_below HO949.out hb)
         have HO953 := Aside0.mk (Kd.N_lower ho136 (below_size HB.out))
         replace BK912 := Aside0.mk (blk_below (g := gb912) (o := .cells #[.slice A0_0 l0_0.length c0_0] 24 (0, 0)) BK912.out hb)
         replace HB := Aside0.mk (below_step HB.out hb)
         clear hb ho136
         refine hK.out _ _ ((blk_cell BK912.out 0).trans rfl) (fun hHeld => ?_)
         clear hK K
         refine nm_ 152 ?_
         exact norm_ (by simp only [putAll, Act.put, List.setIfInBounds_toArray, List.set_cons_zero, List.set_cons_succ]) (hCont (.slice Ao131 y944.length co131, .slice Ao133 t947.length co133, v952) _ ⟨hHeld, (Kd.N_mono HO946.out (fun _ hk => ⟨hk.1.2, ⟨hk.2, ⟨hk.1.1.1, hk.1.1.2⟩⟩⟩)), (Kd.R_mono HO949.out (fun _ hk => ⟨hk.1.2, hk.2⟩)), (Kd.N_mono HO953.out (fun _ hk => ⟨hk.2.1, ⟨hk.2.2.1, ⟨hk.1, hk.2.2.2⟩⟩⟩)), (Kd.R_mono HO_1.out (fun _ hk => ⟨hk.2, hk.1⟩)), (Kd.R_mono HO_2.out (fun _ hk => ⟨hk.2, hk.1⟩)), HO_9.out, BK912.out, HB.out⟩)
        ·skip
         refine Kd.N_lit_step (Kd.slice 3 (Kd.int .i64)) _ 25 ?hg (N' := 152) ?hd (xs := ([t923, t926] : List (List Int))) (inner := [.slice Ao124 t923.length co124, .slice Ao128 t926.length co128]) (ok := (fun k_ => some k_ ≠ (.slice (some ad940) t917.length co122 : Value).ownBlock ∧ some k_ ≠ (.slice Ao131 y944.length co131 : Value).ownBlock ∧ some k_ ≠ (.slice Ao133 t947.length co133 : Value).ownBlock ∧ k_ ≠ gb912)) (okp := (fun k_ => some k_ ≠ (.slice (some ad940) t917.length co122 : Value).ownBlock ∧ some k_ ≠ (.slice Ao131 y944.length co131 : Value).ownBlock ∧ some k_ ≠ (.slice Ao133 t947.length co133 : Value).ownBlock ∧ k_ ≠ gb912)) ?hr ?hp (fun _ hk => hk) ((show ∀ k_, w132.heap.size ≤ k_ → (fun k_ => some k_ ≠ (.slice (some ad940) t917.length co122 : Value).ownBlock ∧ some k_ ≠ (.slice Ao131 y944.length co131 : Value).ownBlock ∧ some k_ ≠ (.slice Ao133 t947.length co133 : Value).ownBlock ∧ k_ ≠ gb912) k_ from fun k_ hk => ⟨Kd.fresh' (Kd.R_lt HO_9.out) k_ hk, Kd.fresh' (Kd.N_lt HO946.out) k_ hk, Kd.fresh' (Kd.R_lt HO949.out) k_ hk, Kd.freshB (g := gb912) (o := .cells #[.slice A0_0 l0_0.length c0_0] 24 (0, 0)) BK912.out k_ hk⟩) _ (Nat.le_refl _)) (Below.refl _ _) (Nat.le_refl _) (by simp) ?_; (case hd => rfl); (case hg => rfl); (case hr => first | (go_simp; done) | (go_simp; rfl)); (case hp => exact (Reps.one (show Kd.FK (Kd.slice 3 (Kd.int .i64)) _ _ t923 [.slice Ao124 t923.length co124] from (Kd.FK_slice_mk (Kd.R_reads' (Kd.R_mono (ok' := (fun k_ => some k_ ≠ (.slice (some ad940) t917.length co122 : Value).ownBlock ∧ some k_ ≠ (.slice Ao131 y944.length co131 : Value).ownBlock ∧ some k_ ≠ (.slice Ao133 t947.length co133 : Value).ownBlock ∧ k_ ≠ gb912)) (Kd.R_types (Kd.R_apart' (Kd.R_apart' (HO_1.out) (Kd.R_typed HO_9.out) (by decide)) (Kd.N_typed HO946.out) (by decide)) BK912.out (by decide)) (fun k_ hk => ⟨hk.1.1.2, ⟨hk.1.2, ⟨hk.1.1.1.2, hk.2⟩⟩⟩))).2.1 (Kd.R_F (Kd.R_mono (ok' := (fun k_ => some k_ ≠ (.slice (some ad940) t917.length co122 : Value).ownBlock ∧ some k_ ≠ (.slice Ao131 y944.length co131 : Value).ownBlock ∧ some k_ ≠ (.slice Ao133 t947.length co133 : Value).ownBlock ∧ k_ ≠ gb912)) (Kd.R_types (Kd.R_apart' (Kd.R_apart' (HO_1.out) (Kd.R_typed HO_9.out) (by decide)) (Kd.N_typed HO946.out) (by decide)) BK912.out (by decide)) (fun k_ hk => ⟨hk.1.1.2, ⟨hk.1.2, ⟨hk.1.1.1.2, hk.2⟩⟩⟩))))) (Reps.one (show Kd.FK (Kd.slice 3 (Kd.int .i64)) _ _ t926 [.slice Ao128 t926.length co128] from (Kd.FK_slice_mk (Kd.R_reads' (Kd.R_mono (ok' := (fun k_ => some k_ ≠ (.slice (some ad940) t917.length co122 : Value).ownBlock ∧ some k_ ≠ (.slice Ao131 y944.length co131 : Value).ownBlock ∧ some k_ ≠ (.slice Ao133 t947.length co133 : Value).ownBlock ∧ k_ ≠ gb912)) (Kd.R_types (Kd.R_apart' (Kd.R_apart' (HO_2.out) (Kd.R_typed HO_9.out) (by decide)) (Kd.N_typed HO946.out) (by decide)) BK912.out (by decide)) (fun k_ hk => ⟨hk.1.1.2, ⟨hk.1.2, ⟨hk.1.1.1.2, hk.2⟩⟩⟩))).2.1 (Kd.R_F (Kd.R_mono (ok' := (fun k_ => some k_ ≠ (.slice (some ad940) t917.length co122 : Value).ownBlock ∧ some k_ ≠ (.slice Ao131 y944.length co131 : Value).ownBlock ∧ some k_ ≠ (.slice Ao133 t947.length co133 : Value).ownBlock ∧ k_ ≠ gb912)) (Kd.R_types (Kd.R_apart' (Kd.R_apart' (HO_2.out) (Kd.R_typed HO_9.out) (by decide)) (Kd.N_typed HO946.out) (by decide)) BK912.out (by decide)) (fun k_ hk => ⟨hk.1.1.2, ⟨hk.1.2, ⟨hk.1.1.1.2, hk.2⟩⟩⟩))))) (Reps.none _ _))))
         intro v952 w133 ho134 hb hg_ hnew_
         clear hg_ hnew_
         (first | rw [← Ny951.out] at ho134 | (simp only [Int.reduceToNat] at ho134; rw [← Ny951.out] at ho134))
         replace HO_1 := Aside0.mk (Kd.R_below HO_1.out hb)
         replace HO_2 := Aside0.mk (Kd.R_below HO_2.out hb)
         replace HO_9 := Aside0.mk (Kd.R_below HO_9.out hb)
         replace HO946 := Aside0.mk (Kd.N_elder' HO946.out (by first | exact Kd.N_base ho134 | exact Kd.S_base ho134 | exact Kd.R_base ho134) hb)
         replace HO949 := Aside0.mk (Kd.R_below HO949.out hb)
         have HO953 := Aside0.mk (Kd.N_lower ho134 (below_size HB.out))
         replace BK912 := Aside0.mk (blk_below (g := gb912) (o := .cells #[.slice A0_0 l0_0.length c0_0] 24 (0, 0)) BK912.out hb)
         replace HB := Aside0.mk (below_step HB.out hb)
         clear hb ho134
         obtain ⟨Ao135, co135, eo135⟩ := Kd.R_slice HO949.out
         (first | subst eo135 | (injection eo135 with f1_ f2_ f3_; have f4_ := f1_.symm; have f5_ := f3_.symm; clear f1_ f2_ f3_; subst f4_; subst f5_))
         refine hK.out _ _ ((blk_cell BK912.out 0).trans rfl) (fun hHeld => ?_)
         clear hK K
         refine nm_ 152 ?_
         refine one_ (i := 30) (N := some 147) tth95 rfl rfl (one_of HT_.out (by kernel_rfl)) (by decide) (fun K hK => ?_)
         refine goes_ Try.func35 (by kernel_rfl) rfl #[.agg #[.slice A0_0 l0_0.length c0_0], .int .i64 ((rd_T49 t917 x12_2).f0), .slice Ao135 t947.length co135] (by rfl) rfl rfl (by (try simp only [List.map_toArray, List.map_cons, List.map_nil]); first | done | rfl | (simp only [List.length_drop, List.length_take]; rfl)) ?_
         with_reducible refine (mizmazetop_lead.calls k2 _ _ l0_0 ((rd_T49 t917 x12_2).f0) _ _ t947 t950 _ ?side1 ?side2 ?side3 ?side4 A98.out).mono ?_
         (case side1 => repeat (first | exact (Kd.C_below HR0_0.out HB.out) | (with_reducible refine Kd.C_alloc ?_ _) | (with_reducible refine Kd.C_drewN ?_ _) | (with_reducible refine Kd.C_drew ?_)))
         (case side2 => exact HC0_0.out)
         (case side3 => repeat (first | exact (Kd.R_reads' HO949.out).2.2 | (with_reducible refine Kd.C_alloc ?_ _) | (with_reducible refine Kd.C_drewN ?_ _) | (with_reducible refine Kd.C_drew ?_)))
         (case side4 => exact (Kd.R_reads' HO949.out).2.1)
         rintro e w136 ⟨rfl, hb⟩
         refine ⟨_, rfl, ?_⟩
         replace HO_1 := Aside0.mk (Kd.R_below HO_1.out hb)
         replace HO_2 := Aside0.mk (Kd.R_below HO_2.out hb)
         replace HO_9 := Aside0.mk (Kd.R_below HO_9.out hb)
         replace HO946 := Aside0.mk (Kd.N_below HO946.out hb)
         replace HO949 := Aside0.mk (Kd.R_below HO949.out hb)
         replace HO953 := Aside0.mk (Kd.N_below HO953.out hb)
         replace BK912 := Aside0.mk (blk_below (g := gb912) (o := .cells #[.slice A0_0 l0_0.length c0_0] 24 (0, 0)) BK912.out hb)
         replace HB := Aside0.mk (below_step HB.out hb)
         (try clear hb)
         (try clear hb2)
         (try clear hk)
         (try clear hi)
         refine hK.out _ _ ((blk_cell BK912.out 0).trans rfl) (fun hHeld => ?_)
         clear hK K
         refine nm_ 147 ?_
         exact norm_ (by simp only [putAll, Act.put, List.setIfInBounds_toArray, List.set_cons_zero, List.set_cons_succ]) (hCont (.slice Ao131 y944.length co131, .slice Ao135 t947.length co135, v952) _ ⟨hHeld, (Kd.N_mono HO946.out (fun _ hk => ⟨hk.1.2, ⟨hk.2, ⟨hk.1.1.1, hk.1.1.2⟩⟩⟩)), (Kd.R_mono HO949.out (fun _ hk => ⟨hk.1.2, hk.2⟩)), (Kd.N_mono HO953.out (fun _ hk => ⟨hk.2.1, ⟨hk.2.2.1, ⟨hk.1, hk.2.2.2⟩⟩⟩)), (Kd.R_mono HO_1.out (fun _ hk => ⟨hk.2, hk.1⟩)), (Kd.R_mono HO_2.out (fun _ hk => ⟨hk.2, hk.1⟩)), HO_9.out, BK912.out, HB.out⟩)
       ·skip
        refine Kd.N_lit_step (Kd.slice 3 (Kd.int .i64)) _ 25 ?hg (N' := 152) ?hd (xs := ([t923, t926] : List (List Int))) (inner := [.slice Ao124 t923.length co124, .slice Ao128 t926.length co128]) (ok := (fun k_ => some k_ ≠ (.slice (some ad940) t917.length co122 : Value).ownBlock ∧ some k_ ≠ (.slice Ao131 y944.length co131 : Value).ownBlock ∧ k_ ≠ gb912)) (okp := (fun k_ => some k_ ≠ (.slice (some ad940) t917.length co122 : Value).ownBlock ∧ some k_ ≠ (.slice Ao131 y944.length co131 : Value).ownBlock ∧ k_ ≠ gb912)) ?hr ?hp (fun _ hk => hk) ((show ∀ k_, w129.heap.size ≤ k_ → (fun k_ => some k_ ≠ (.slice (some ad940) t917.length co122 : Value).ownBlock ∧ some k_ ≠ (.slice Ao131 y944.length co131 : Value).ownBlock ∧ k_ ≠ gb912) k_ from fun k_ hk => ⟨Kd.fresh' (Kd.R_lt HO_9.out) k_ hk, Kd.fresh' (Kd.N_lt HO946.out) k_ hk, Kd.freshB (g := gb912) (o := .cells #[.slice A0_0 l0_0.length c0_0] 24 (0, 0)) BK912.out k_ hk⟩) _ (Nat.le_refl _)) (Below.refl _ _) (Nat.le_refl _) (by simp) ?_; (case hd => rfl); (case hg => rfl); (case hr => first | (go_simp; done) | (go_simp; rfl)); (case hp => exact (Reps.one (show Kd.FK (Kd.slice 3 (Kd.int .i64)) _ _ t923 [.slice Ao124 t923.length co124] from (Kd.FK_slice_mk (Kd.R_reads' (Kd.R_mono (ok' := (fun k_ => some k_ ≠ (.slice (some ad940) t917.length co122 : Value).ownBlock ∧ some k_ ≠ (.slice Ao131 y944.length co131 : Value).ownBlock ∧ k_ ≠ gb912)) (Kd.R_types (Kd.R_apart' (Kd.R_apart' (HO_1.out) (Kd.R_typed HO_9.out) (by decide)) (Kd.N_typed HO946.out) (by decide)) BK912.out (by decide)) (fun k_ hk => ⟨hk.1.1.2, ⟨hk.1.2, hk.2⟩⟩))).2.1 (Kd.R_F (Kd.R_mono (ok' := (fun k_ => some k_ ≠ (.slice (some ad940) t917.length co122 : Value).ownBlock ∧ some k_ ≠ (.slice Ao131 y944.length co131 : Value).ownBlock ∧ k_ ≠ gb912)) (Kd.R_types (Kd.R_apart' (Kd.R_apart' (HO_1.out) (Kd.R_typed HO_9.out) (by decide)) (Kd.N_typed HO946.out) (by decide)) BK912.out (by decide)) (fun k_ hk => ⟨hk.1.1.2, ⟨hk.1.2, hk.2⟩⟩))))) (Reps.one (show Kd.FK (Kd.slice 3 (Kd.int .i64)) _ _ t926 [.slice Ao128 t926.length co128] from (Kd.FK_slice_mk (Kd.R_reads' (Kd.R_mono (ok' := (fun k_ => some k_ ≠ (.slice (some ad940) t917.length co122 : Value).ownBlock ∧ some k_ ≠ (.slice Ao131 y944.length co131 : Value).ownBlock ∧ k_ ≠ gb912)) (Kd.R_types (Kd.R_apart' (Kd.R_apart' (HO_2.out) (Kd.R_typed HO_9.out) (by decide)) (Kd.N_typed HO946.out) (by decide)) BK912.out (by decide)) (fun k_ hk => ⟨hk.1.1.2, ⟨hk.1.2, hk.2⟩⟩))).2.1 (Kd.R_F (Kd.R_mono (ok' := (fun k_ => some k_ ≠ (.slice (some ad940) t917.length co122 : Value).ownBlock ∧ some k_ ≠ (.slice Ao131 y944.length co131 : Value).ownBlock ∧ k_ ≠ gb912)) (Kd.R_types (Kd.R_apart' (Kd.R_apart' (HO_2.out) (Kd.R_typed HO_9.out) (by decide)) (Kd.N_typed HO946.out) (by decide)) BK912.out (by decide)) (fun k_ hk => ⟨hk.1.1.2, ⟨hk.1.2, hk.2⟩⟩))))) (Reps.none _ _))))
        intro v952 w131 ho132 hb hg_ hnew_
        clear hg_ hnew_
        (first | rw [← Ny951.out] at ho132 | (simp only [Int.reduceToNat] at ho132; rw [← Ny951.out] at ho132))
        replace HO_1 := Aside0.mk (Kd.R_below HO_1.out hb)
        replace HO_2 := Aside0.mk (Kd.R_below HO_2.out hb)
        replace HO_9 := Aside0.mk (Kd.R_below HO_9.out hb)
        replace HO946 := Aside0.mk (Kd.N_elder' HO946.out (by first | exact Kd.N_base ho132 | exact Kd.S_base ho132 | exact Kd.R_base ho132) hb)
        have HO953 := Aside0.mk (Kd.N_lower ho132 (below_size HB.out))
        replace BK912 := Aside0.mk (blk_below (g := gb912) (o := .cells #[.slice A0_0 l0_0.length c0_0] 24 (0, 0)) BK912.out hb)
        replace HB := Aside0.mk (below_step HB.out hb)
        clear hb ho132
        obtain ⟨Ao133, co133, eo133⟩ := Kd.N_slice HO946.out
        (first | subst eo133 | (injection eo133 with f1_ f2_ f3_; have f4_ := f1_.symm; have f5_ := f3_.symm; clear f1_ f2_ f3_; subst f4_; subst f5_))
        refine hK.out _ _ ((blk_cell BK912.out 0).trans rfl) (fun hHeld => ?_)
        clear hK K
        refine nm_ 152 ?_
        refine one_ (i := 29) (N := some 146) tth118 rfl rfl (one_of HT_.out (by kernel_rfl)) (by decide) (fun K hK => ?_)
        refine goes_ Try.func34 (by kernel_rfl) rfl #[.slice Ao133 y944.length co133] (by rfl) rfl rfl (by (try simp only [List.map_toArray, List.map_cons, List.map_nil]); first | done | rfl | (simp only [List.length_drop, List.length_take]; rfl)) ?_
        with_reducible refine (mizmazetop_joined.calls k2 _ _ y944 t947 _ ?side1 ?side2 A97.out).mono ?_
        (case side1 => repeat (first | exact (Kd.N_reads' HO946.out).2.2 | (with_reducible refine Kd.C_alloc ?_ _) | (with_reducible refine Kd.C_drewN ?_ _) | (with_reducible refine Kd.C_drew ?_)))
        (case side2 => exact (Kd.N_reads' HO946.out).2.1)
        rintro e w134 ⟨v948, rfl, ho0, hb⟩
        refine ⟨_, rfl, ?_⟩
        have n0_ := Aside0.mk (Kd.R_elder' HO_1.out (Kd.R_base ho0) hb)
        have n1_ := Aside0.mk (Kd.R_elder' HO_2.out (Kd.R_base ho0) hb)
        have n2_ := Aside0.mk (Kd.R_below HO_9.out hb)
        have n3_ := Aside0.mk (Kd.N_elder' HO946.out (Kd.R_base ho0) hb)
        have n4_ := Aside0.mk (Kd.N_elder' HO953.out (Kd.R_base ho0) hb)
        have n5_ := Aside0.mk (Kd.R_lower (Kd.R_new' (Kd.R_new' ho0 (Kd.R_lt HO_1.out)) (Kd.R_lt HO_2.out)) (below_size HB.out))
        have n6_ := Aside0.mk (blk_below (g := gb912) (o := .cells #[.slice A0_0 l0_0.length c0_0] 24 (0, 0)) BK912.out hb)
        have n7_ := Aside0.mk (below_step HB.out hb)
        clear HO_1
        clear HO_2
        clear HO_9
        clear HO946
        clear HO953
        clear BK912
        clear HB
        have HO_1 := n0_
        have HO_2 := n1_
        have HO_9 := n2_
        have HO946 := n3_
        have HO953 := n4_
        have HO949 := n5_
        have BK912 := n6_
        have HB := n7_
        clear n0_ n1_ n2_ n3_ n4_ n5_ n6_ n7_
        (try clear hb)
        (try clear hb2)
        (try clear hk)
        (try clear hi)
        (try clear ho0)
        obtain ⟨Ao135, co135, eo135⟩ := Kd.R_slice HO949.out
        (first | subst eo135 | (injection eo135 with f1_ f2_ f3_; have f4_ := f1_.symm; have f5_ := f3_.symm; clear f1_ f2_ f3_; subst f4_; subst f5_))
        refine hK.out _ _ ((blk_cell BK912.out 0).trans rfl) (fun hHeld => ?_)
        clear hK K
        refine nm_ 146 ?_
        refine one_ (i := 30) (N := some 147) tth95 rfl rfl (one_of HT_.out (by kernel_rfl)) (by decide) (fun K hK => ?_)
        refine goes_ Try.func35 (by kernel_rfl) rfl #[.agg #[.slice A0_0 l0_0.length c0_0], .int .i64 ((rd_T49 t917 x12_2).f0), .slice Ao135 t947.length co135] (by rfl) rfl rfl (by (try simp only [List.map_toArray, List.map_cons, List.map_nil]); first | done | rfl | (simp only [List.length_drop, List.length_take]; rfl)) ?_
        with_reducible refine (mizmazetop_lead.calls k2 _ _ l0_0 ((rd_T49 t917 x12_2).f0) _ _ t947 t950 _ ?side1 ?side2 ?side3 ?side4 A98.out).mono ?_
        (case side1 => repeat (first | exact (Kd.C_below HR0_0.out HB.out) | (with_reducible refine Kd.C_alloc ?_ _) | (with_reducible refine Kd.C_drewN ?_ _) | (with_reducible refine Kd.C_drew ?_)))
        (case side2 => exact HC0_0.out)
        (case side3 => repeat (first | exact (Kd.R_reads' HO949.out).2.2 | (with_reducible refine Kd.C_alloc ?_ _) | (with_reducible refine Kd.C_drewN ?_ _) | (with_reducible refine Kd.C_drew ?_)))
        (case side4 => exact (Kd.R_reads' HO949.out).2.1)
        rintro e w136 ⟨rfl, hb⟩
        refine ⟨_, rfl, ?_⟩
        replace HO_1 := Aside0.mk (Kd.R_below HO_1.out hb)
        replace HO_2 := Aside0.mk (Kd.R_below HO_2.out hb)
        replace HO_9 := Aside0.mk (Kd.R_below HO_9.out hb)
        replace HO946 := Aside0.mk (Kd.N_below HO946.out hb)
        replace HO953 := Aside0.mk (Kd.N_below HO953.out hb)
        replace HO949 := Aside0.mk (Kd.R_below HO949.out hb)
        replace BK912 := Aside0.mk (blk_below (g := gb912) (o := .cells #[.slice A0_0 l0_0.length c0_0] 24 (0, 0)) BK912.out hb)
        replace HB := Aside0.mk (below_step HB.out hb)
        (try clear hb)
        (try clear hb2)
        (try clear hk)
        (try clear hi)
        refine hK.out _ _ ((blk_cell BK912.out 0).trans rfl) (fun hHeld => ?_)
        clear hK K
        refine nm_ 147 ?_
        exact norm_ (by simp only [putAll, Act.put, List.setIfInBounds_toArray, List.set_cons_zero, List.set_cons_succ]) (hCont (.slice Ao133 y944.length co133, .slice Ao135 t947.length co135, v952) _ ⟨hHeld, (Kd.N_mono HO946.out (fun _ hk => ⟨hk.2, ⟨hk.1.2, ⟨hk.1.1.1, hk.1.1.2⟩⟩⟩)), (Kd.R_mono HO949.out (fun _ hk => ⟨hk.1.2, hk.2⟩)), (Kd.N_mono HO953.out (fun _ hk => ⟨hk.1.2.1, ⟨hk.2, ⟨hk.1.1, hk.1.2.2⟩⟩⟩)), (Kd.R_mono HO_1.out (fun _ hk => ⟨hk.2, hk.1⟩)), (Kd.R_mono HO_2.out (fun _ hk => ⟨hk.2, hk.1⟩)), HO_9.out, BK912.out, HB.out⟩)
      ·skip
       refine Kd.N_lit_step (Kd.slice 3 (Kd.int .i64)) _ 25 ?hg (N' := 152) ?hd (xs := ([t923, t926] : List (List Int))) (inner := [.slice Ao124 t923.length co124, .slice Ao128 t926.length co128]) (ok := (fun k_ => some k_ ≠ (.slice (some ad940) t917.length co122 : Value).ownBlock ∧ k_ ≠ gb912)) (okp := (fun k_ => some k_ ≠ (.slice (some ad940) t917.length co122 : Value).ownBlock ∧ k_ ≠ gb912)) ?hr ?hp (fun _ hk => hk) ((show ∀ k_, w127.heap.size ≤ k_ → (fun k_ => some k_ ≠ (.slice (some ad940) t917.length co122 : Value).ownBlock ∧ k_ ≠ gb912) k_ from fun k_ hk => ⟨Kd.fresh' (Kd.R_lt HO_9.out) k_ hk, Kd.freshB (g := gb912) (o := .cells #[.slice A0_0 l0_0.length c0_0] 24 (0, 0)) BK912.out k_ hk⟩) _ (Nat.le_refl _)) (Below.refl _ _) (Nat.le_refl _) (by simp) ?_; (case hd => rfl); (case hg => rfl); (case hr => first | (go_simp; done) | (go_simp; rfl)); (case hp => exact (Reps.one (show Kd.FK (Kd.slice 3 (Kd.int .i64)) _ _ t923 [.slice Ao124 t923.length co124] from (Kd.FK_slice_mk (Kd.R_reads' (Kd.R_mono (ok' := (fun k_ => some k_ ≠ (.slice (some ad940) t917.length co122 : Value).ownBlock ∧ k_ ≠ gb912)) (Kd.R_types (Kd.R_apart' (HO_1.out) (Kd.R_typed HO_9.out) (by decide)) BK912.out (by decide)) (fun k_ hk => ⟨hk.1.2, hk.2⟩))).2.1 (Kd.R_F (Kd.R_mono (ok' := (fun k_ => some k_ ≠ (.slice (some ad940) t917.length co122 : Value).ownBlock ∧ k_ ≠ gb912)) (Kd.R_types (Kd.R_apart' (HO_1.out) (Kd.R_typed HO_9.out) (by decide)) BK912.out (by decide)) (fun k_ hk => ⟨hk.1.2, hk.2⟩))))) (Reps.one (show Kd.FK (Kd.slice 3 (Kd.int .i64)) _ _ t926 [.slice Ao128 t926.length co128] from (Kd.FK_slice_mk (Kd.R_reads' (Kd.R_mono (ok' := (fun k_ => some k_ ≠ (.slice (some ad940) t917.length co122 : Value).ownBlock ∧ k_ ≠ gb912)) (Kd.R_types (Kd.R_apart' (HO_2.out) (Kd.R_typed HO_9.out) (by decide)) BK912.out (by decide)) (fun k_ hk => ⟨hk.1.2, hk.2⟩))).2.1 (Kd.R_F (Kd.R_mono (ok' := (fun k_ => some k_ ≠ (.slice (some ad940) t917.length co122 : Value).ownBlock ∧ k_ ≠ gb912)) (Kd.R_types (Kd.R_apart' (HO_2.out) (Kd.R_typed HO_9.out) (by decide)) BK912.out (by decide)) (fun k_ hk => ⟨hk.1.2, hk.2⟩))))) (Reps.none _ _))))
       intro v952 w129 ho130 hb hg_ hnew_
       clear hg_ hnew_
       (first | rw [← Ny951.out] at ho130 | (simp only [Int.reduceToNat] at ho130; rw [← Ny951.out] at ho130))
       replace HO_1 := Aside0.mk (Kd.R_below HO_1.out hb)
       replace HO_2 := Aside0.mk (Kd.R_below HO_2.out hb)
       replace HO_9 := Aside0.mk (Kd.R_below HO_9.out hb)
       have HO953 := Aside0.mk (Kd.N_lower ho130 (below_size HB.out))
       replace BK912 := Aside0.mk (blk_below (g := gb912) (o := .cells #[.slice A0_0 l0_0.length c0_0] 24 (0, 0)) BK912.out hb)
       replace HB := Aside0.mk (below_step HB.out hb)
       clear hb ho130
       refine hK.out _ _ ((blk_cell BK912.out 0).trans rfl) (fun hHeld => ?_)
       clear hK K
       refine nm_ 152 ?_
       refine one_ (i := 28) (N := some 145) tth117 rfl rfl (one_of HT_.out (by kernel_rfl)) (by decide) (fun K hK => ?_)
       refine Kd.N_lit_step (Kd.slice 3 (Kd.int .i64)) _ 25 ?hg (N' := 145) ?hd (xs := ([t923, t926] : List (List Int))) (inner := [.slice Ao124 t923.length co124, .slice Ao128 t926.length co128]) (ok := (fun k_ => some k_ ≠ (.slice (some ad940) t917.length co122 : Value).ownBlock ∧ some k_ ≠ (v952 : Value).ownBlock ∧ k_ ≠ gb912)) (okp := (fun k_ => some k_ ≠ (.slice (some ad940) t917.length co122 : Value).ownBlock ∧ some k_ ≠ (v952 : Value).ownBlock ∧ k_ ≠ gb912)) ?hr ?hp (fun _ hk => hk) ((show ∀ k_, w129.heap.size ≤ k_ → (fun k_ => some k_ ≠ (.slice (some ad940) t917.length co122 : Value).ownBlock ∧ some k_ ≠ (v952 : Value).ownBlock ∧ k_ ≠ gb912) k_ from fun k_ hk => ⟨Kd.fresh' (Kd.R_lt HO_9.out) k_ hk, Kd.fresh' (Kd.N_lt HO953.out) k_ hk, Kd.freshB (g := gb912) (o := .cells #[.slice A0_0 l0_0.length c0_0] 24 (0, 0)) BK912.out k_ hk⟩) _ (Nat.le_refl _)) (Below.refl _ _) (Nat.le_refl _) (by simp) ?_; (case hd => rfl); (case hg => rfl); (case hr => first | (go_simp; done) | (go_simp; rfl)); (case hp => exact (Reps.one (show Kd.FK (Kd.slice 3 (Kd.int .i64)) _ _ t923 [.slice Ao124 t923.length co124] from (Kd.FK_slice_mk (Kd.R_reads' (Kd.R_mono (ok' := (fun k_ => some k_ ≠ (.slice (some ad940) t917.length co122 : Value).ownBlock ∧ some k_ ≠ (v952 : Value).ownBlock ∧ k_ ≠ gb912)) (Kd.R_types (Kd.R_apart' (Kd.R_apart' (HO_1.out) (Kd.R_typed HO_9.out) (by decide)) (Kd.N_typed HO953.out) (by decide)) BK912.out (by decide)) (fun k_ hk => ⟨hk.1.1.2, ⟨hk.1.2, hk.2⟩⟩))).2.1 (Kd.R_F (Kd.R_mono (ok' := (fun k_ => some k_ ≠ (.slice (some ad940) t917.length co122 : Value).ownBlock ∧ some k_ ≠ (v952 : Value).ownBlock ∧ k_ ≠ gb912)) (Kd.R_types (Kd.R_apart' (Kd.R_apart' (HO_1.out) (Kd.R_typed HO_9.out) (by decide)) (Kd.N_typed HO953.out) (by decide)) BK912.out (by decide)) (fun k_ hk => ⟨hk.1.1.2, ⟨hk.1.2, hk.2⟩⟩))))) (Reps.one (show Kd.FK (Kd.slice 3 (Kd.int .i64)) _ _ t926 [.slice Ao128 t926.length co128] from (Kd.FK_slice_mk (Kd.R_reads' (Kd.R_mono (ok' := (fun k_ => some k_ ≠ (.slice (some ad940) t917.length co122 : Value).ownBlock ∧ some k_ ≠ (v952 : Value).ownBlock ∧ k_ ≠ gb912)) (Kd.R_types (Kd.R_apart' (Kd.R_apart' (HO_2.out) (Kd.R_typed HO_9.out) (by decide)) (Kd.N_typed HO953.out) (by decide)) BK912.out (by decide)) (fun k_ hk => ⟨hk.1.1.2, ⟨hk.1.2, hk.2⟩⟩))).2.1 (Kd.R_F (Kd.R_mono (ok' := (fun k_ => some k_ ≠ (.slice (some ad940) t917.length co122 : Value).ownBlock ∧ some k_ ≠ (v952 : Value).ownBlock ∧ k_ ≠ gb912)) (Kd.R_types (Kd.R_apart' (Kd.R_apart' (HO_2.out) (Kd.R_typed HO_9.out) (by decide)) (Kd.N_typed HO953.out) (by decide)) BK912.out (by decide)) (fun k_ hk => ⟨hk.1.1.2, ⟨hk.1.2, hk.2⟩⟩))))) (Reps.none _ _))))
       intro v945 w131 ho132 hb hg_ hnew_
       clear hg_ hnew_
       (first | rw [← Ny944.out] at ho132 | (simp only [Int.reduceToNat] at ho132; rw [← Ny944.out] at ho132))
       replace HO_1 := Aside0.mk (Kd.R_below HO_1.out hb)
       replace HO_2 := Aside0.mk (Kd.R_below HO_2.out hb)
       replace HO_9 := Aside0.mk (Kd.R_below HO_9.out hb)
       replace HO953 := Aside0.mk (Kd.N_elder' HO953.out (by first | exact Kd.N_base ho132 | exact Kd.S_base ho132 | exact Kd.R_base ho132) hb)
       have HO946 := Aside0.mk (Kd.N_lower ho132 (below_size HB.out))
       replace BK912 := Aside0.mk (blk_below (g := gb912) (o := .cells #[.slice A0_0 l0_0.length c0_0] 24 (0, 0)) BK912.out hb)
       replace HB := Aside0.mk (below_step HB.out hb)
       clear hb ho132
       obtain ⟨Ao133, co133, eo133⟩ := Kd.N_slice HO946.out
       (first | subst eo133 | (injection eo133 with f1_ f2_ f3_; have f4_ := f1_.symm; have f5_ := f3_.symm; clear f1_ f2_ f3_; subst f4_; subst f5_))
       refine hK.out _ _ ((blk_cell BK912.out 0).trans rfl) (fun hHeld => ?_)
       clear hK K
       refine nm_ 145 ?_
       refine one_ (i := 29) (N := some 146) tth118 rfl rfl (one_of HT_.out (by kernel_rfl)) (by decide) (fun K hK => ?_)
       refine goes_ Try.func34 (by kernel_rfl) rfl #[.slice Ao133 y944.length co133] (by rfl) rfl rfl (by (try simp only [List.map_toArray, List.map_cons, List.map_nil]); first | done | rfl | (simp only [List.length_drop, List.length_take]; rfl)) ?_
       with_reducible refine (mizmazetop_joined.calls k2 _ _ y944 t947 _ ?side1 ?side2 A97.out).mono ?_
       (case side1 => repeat (first | exact (Kd.N_reads' HO946.out).2.2 | (with_reducible refine Kd.C_alloc ?_ _) | (with_reducible refine Kd.C_drewN ?_ _) | (with_reducible refine Kd.C_drew ?_)))
       (case side2 => exact (Kd.N_reads' HO946.out).2.1)
       rintro e w134 ⟨v948, rfl, ho0, hb⟩
       refine ⟨_, rfl, ?_⟩
       have n0_ := Aside0.mk (Kd.R_elder' HO_1.out (Kd.R_base ho0) hb)
       have n1_ := Aside0.mk (Kd.R_elder' HO_2.out (Kd.R_base ho0) hb)
       have n2_ := Aside0.mk (Kd.R_below HO_9.out hb)
       have n3_ := Aside0.mk (Kd.N_elder' HO953.out (Kd.R_base ho0) hb)
       have n4_ := Aside0.mk (Kd.N_elder' HO946.out (Kd.R_base ho0) hb)
       have n5_ := Aside0.mk (Kd.R_lower (Kd.R_new' (Kd.R_new' ho0 (Kd.R_lt HO_1.out)) (Kd.R_lt HO_2.out)) (below_size HB.out))
       have n6_ := Aside0.mk (blk_below (g := gb912) (o := .cells #[.slice A0_0 l0_0.length c0_0] 24 (0, 0)) BK912.out hb)
       have n7_ := Aside0.mk (below_step HB.out hb)
       clear HO_1
       clear HO_2
       clear HO_9
       clear HO953
       clear HO946
       clear BK912
       clear HB
       have HO_1 := n0_
       have HO_2 := n1_
       have HO_9 := n2_
       have HO953 := n3_
       have HO946 := n4_
       have HO949 := n5_
       have BK912 := n6_
       have HB := n7_
       clear n0_ n1_ n2_ n3_ n4_ n5_ n6_ n7_
       (try clear hb)
       (try clear hb2)
       (try clear hk)
       (try clear hi)
       (try clear ho0)
       obtain ⟨Ao135, co135, eo135⟩ := Kd.R_slice HO949.out
       (first | subst eo135 | (injection eo135 with f1_ f2_ f3_; have f4_ := f1_.symm; have f5_ := f3_.symm; clear f1_ f2_ f3_; subst f4_; subst f5_))
       refine hK.out _ _ ((blk_cell BK912.out 0).trans rfl) (fun hHeld => ?_)
       clear hK K
       refine nm_ 146 ?_
       refine one_ (i := 30) (N := some 147) tth95 rfl rfl (one_of HT_.out (by kernel_rfl)) (by decide) (fun K hK => ?_)
       refine goes_ Try.func35 (by kernel_rfl) rfl #[.agg #[.slice A0_0 l0_0.length c0_0], .int .i64 ((rd_T49 t917 x12_2).f0), .slice Ao135 t947.length co135] (by rfl) rfl rfl (by (try simp only [List.map_toArray, List.map_cons, List.map_nil]); first | done | rfl | (simp only [List.length_drop, List.length_take]; rfl)) ?_
       with_reducible refine (mizmazetop_lead.calls k2 _ _ l0_0 ((rd_T49 t917 x12_2).f0) _ _ t947 t950 _ ?side1 ?side2 ?side3 ?side4 A98.out).mono ?_
       (case side1 => repeat (first | exact (Kd.C_below HR0_0.out HB.out) | (with_reducible refine Kd.C_alloc ?_ _) | (with_reducible refine Kd.C_drewN ?_ _) | (with_reducible refine Kd.C_drew ?_)))
       (case side2 => exact HC0_0.out)
       (case side3 => repeat (first | exact (Kd.R_reads' HO949.out).2.2 | (with_reducible refine Kd.C_alloc ?_ _) | (with_reducible refine Kd.C_drewN ?_ _) | (with_reducible refine Kd.C_drew ?_)))
       (case side4 => exact (Kd.R_reads' HO949.out).2.1)
       rintro e w136 ⟨rfl, hb⟩
       refine ⟨_, rfl, ?_⟩
       replace HO_1 := Aside0.mk (Kd.R_below HO_1.out hb)
       replace HO_2 := Aside0.mk (Kd.R_below HO_2.out hb)
       replace HO_9 := Aside0.mk (Kd.R_below HO_9.out hb)
       replace HO953 := Aside0.mk (Kd.N_below HO953.out hb)
       replace HO946 := Aside0.mk (Kd.N_below HO946.out hb)
       replace HO949 := Aside0.mk (Kd.R_below HO949.out hb)
       replace BK912 := Aside0.mk (blk_below (g := gb912) (o := .cells #[.slice A0_0 l0_0.length c0_0] 24 (0, 0)) BK912.out hb)
       replace HB := Aside0.mk (below_step HB.out hb)
       (try clear hb)
       (try clear hb2)
       (try clear hk)
       (try clear hi)
       refine hK.out _ _ ((blk_cell BK912.out 0).trans rfl) (fun hHeld => ?_)
       clear hK K
       refine nm_ 147 ?_
       exact norm_ (by simp only [putAll, Act.put, List.setIfInBounds_toArray, List.set_cons_zero, List.set_cons_succ]) (hCont (.slice Ao133 y944.length co133, .slice Ao135 t947.length co135, v952) _ ⟨hHeld, (Kd.N_mono HO946.out (fun _ hk => ⟨hk.2, ⟨hk.1.2.1, ⟨hk.1.1, hk.1.2.2⟩⟩⟩)), (Kd.R_mono HO949.out (fun _ hk => ⟨hk.1.2, hk.2⟩)), (Kd.N_mono HO953.out (fun _ hk => ⟨hk.1.2, ⟨hk.2, ⟨hk.1.1.1, hk.1.1.2⟩⟩⟩)), (Kd.R_mono HO_1.out (fun _ hk => ⟨hk.2, hk.1⟩)), (Kd.R_mono HO_2.out (fun _ hk => ⟨hk.2, hk.1⟩)), HO_9.out, BK912.out, HB.out⟩)
     rintro ⟨v945, v948, v952⟩ w137 ⟨hS_, h0_, h1_, h2_, h3_, h4_, h5_, h6_, h7_⟩
     have n0_ : Aside0 (Kd.N (Kd.slice 3 (Kd.int .i64)) 25 w137 w.heap.size (fun k_ => some k_ ≠ (v948 : Value).ownBlock ∧ some k_ ≠ (v952 : Value).ownBlock ∧ some k_ ≠ (.slice (some ad940) t917.length co122 : Value).ownBlock ∧ k_ ≠ gb912) v945 y944) := ⟨h0_⟩
     have n1_ : Aside0 (Kd.R (Kd.int .i64) 3 w137 w.heap.size (fun k_ => some k_ ≠ (.slice Ao124 t923.length co124 : Value).ownBlock ∧ some k_ ≠ (.slice Ao128 t926.length co128 : Value).ownBlock) v948 t947) := ⟨h1_⟩
     have n2_ : Aside0 (Kd.N (Kd.slice 3 (Kd.int .i64)) 25 w137 w.heap.size (fun k_ => some k_ ≠ (v945 : Value).ownBlock ∧ some k_ ≠ (v948 : Value).ownBlock ∧ some k_ ≠ (.slice (some ad940) t917.length co122 : Value).ownBlock ∧ k_ ≠ gb912) v952 y951) := ⟨h2_⟩
     have n3_ : Aside0 (Kd.R (Kd.int .i64) 3 w137 w.heap.size (fun k_ => some k_ ≠ (v948 : Value).ownBlock ∧ some k_ ≠ (.slice Ao128 t926.length co128 : Value).ownBlock) (.slice Ao124 t923.length co124) t923) := ⟨h3_⟩
     have n4_ : Aside0 (Kd.R (Kd.int .i64) 3 w137 w.heap.size (fun k_ => some k_ ≠ (v948 : Value).ownBlock ∧ some k_ ≠ (.slice Ao124 t923.length co124 : Value).ownBlock) (.slice Ao128 t926.length co128) t926) := ⟨h4_⟩
     have n5_ : Aside0 (Kd.R k49 49 w137 w.heap.size (fun _ => True) (.slice (some ad940) t917.length co122) t917) := ⟨h5_⟩
     have n6_ : Aside0 (w137.heap[gb912]? = some (.cells #[.slice A0_0 l0_0.length c0_0] 24 (0, 0))) := ⟨h6_⟩
     have n7_ : Aside0 (Below w.heap.size w w137) := ⟨h7_⟩
     clear HO_1
     clear HO_2
     clear HO_9
     clear BK912
     clear HB
     clear h0_ h1_ h2_ h3_ h4_ h5_ h6_ h7_
     have HO946 := n0_
     have HO949 := n1_
     have HO953 := n2_
     have HO_1 := n3_
     have HO_2 := n4_
     have HO_9 := n5_
     have BK912 := n6_
     have HB := n7_
     clear n0_ n1_ n2_ n3_ n4_ n5_ n6_ n7_
     have hHeld : w137.cell? ⟨gb912, 0, none⟩ = some (.slice A0_0 l0_0.length c0_0) := hS_
     obtain ⟨Ao138, co138, eo138⟩ := Kd.N_slice HO953.out
     (first | subst eo138 | (injection eo138 with f1_ f2_ f3_; have f4_ := f1_.symm; have f5_ := f3_.symm; clear f1_ f2_ f3_; subst f4_; subst f5_))
     refine norm_ (a' := ?_) ?_ ?_
     rotate_left
     ·simp only [putAll, Act.put, List.setIfInBounds_toArray, List.set_cons_zero, List.set_cons_succ]
      rfl
     refine one_ (i := 36) (N := some 153) tth96 rfl rfl (one_of HT_.out (by kernel_rfl)) (by decide) (fun K hK => ?_)
     refine goes_ Try.func34 (by kernel_rfl) rfl #[.slice Ao138 y951.length co138] (by rfl) rfl rfl (by (try simp only [List.map_toArray, List.map_cons, List.map_nil]); first | done | rfl | (simp only [List.length_drop, List.length_take]; rfl)) ?_
     with_reducible refine (mizmazetop_joined.calls k2 _ _ y951 t954 _ ?side1 ?side2 A99.out).mono ?_
     (case side1 => repeat (first | exact (Kd.N_reads' HO953.out).2.2 | (with_reducible refine Kd.C_alloc ?_ _) | (with_reducible refine Kd.C_drewN ?_ _) | (with_reducible refine Kd.C_drew ?_)))
     (case side2 => exact (Kd.N_reads' HO953.out).2.1)
     rintro e w139 ⟨v955, rfl, ho0, hb⟩
     refine ⟨_, rfl, ?_⟩
     have n0_ := Aside0.mk (Kd.R_elder' HO_1.out (Kd.R_base ho0) hb)
     have n1_ := Aside0.mk (Kd.R_elder' HO_2.out (Kd.R_base ho0) hb)
     have n2_ := Aside0.mk (Kd.R_below HO_9.out hb)
     have n3_ := Aside0.mk (Kd.N_elder' HO946.out (Kd.R_base ho0) hb)
     have n4_ := Aside0.mk (Kd.R_elder' HO949.out (Kd.R_base ho0) hb)
     have n5_ := Aside0.mk (Kd.N_elder' HO953.out (Kd.R_base ho0) hb)
     have n6_ := Aside0.mk (Kd.R_lower (Kd.R_new' (Kd.R_new' (Kd.R_new' ho0 (Kd.R_lt HO_1.out)) (Kd.R_lt HO_2.out)) (Kd.R_lt HO949.out)) (below_size HB.out))
     have n7_ := Aside0.mk (blk_below (g := gb912) (o := .cells #[.slice A0_0 l0_0.length c0_0] 24 (0, 0)) BK912.out hb)
     have n8_ := Aside0.mk (below_step HB.out hb)
     clear HO_1
     clear HO_2
     clear HO_9
     clear HO946
     clear HO949
     clear HO953
     clear BK912
     clear HB
     have HO_1 := n0_
     have HO_2 := n1_
     have HO_9 := n2_
     have HO946 := n3_
     have HO949 := n4_
     have HO953 := n5_
     have HO956 := n6_
     have BK912 := n7_
     have HB := n8_
     clear n0_ n1_ n2_ n3_ n4_ n5_ n6_ n7_ n8_
     (try clear hb)
     (try clear hb2)
     (try clear hk)
     (try clear hi)
     (try clear ho0)
     obtain ⟨Ao140, co140, eo140⟩ := Kd.R_slice HO956.out
     (first | subst eo140 | (injection eo140 with f1_ f2_ f3_; have f4_ := f1_.symm; have f5_ := f3_.symm; clear f1_ f2_ f3_; subst f4_; subst f5_))
     refine hK.out _ _ ((blk_cell BK912.out 0).trans rfl) (fun hHeld => ?_)
     clear hK K
     refine nm_ 153 ?_
     refine one_ (i := 37) (N := some 154) tth97 rfl rfl (one_of HT_.out (by kernel_rfl)) (by decide) (fun K hK => ?_)
     refine goes_ Try.func35 (by kernel_rfl) rfl #[.agg #[.slice A0_0 l0_0.length c0_0], .int .i64 ((rd_T49 t917 x12_2).f1), .slice Ao140 t954.length co140] (by rfl) rfl rfl (by (try simp only [List.map_toArray, List.map_cons, List.map_nil]); first | done | rfl | (simp only [List.length_drop, List.length_take]; rfl)) ?_
     with_reducible refine (mizmazetop_lead.calls k2 _ _ l0_0 ((rd_T49 t917 x12_2).f1) _ _ t954 t957 _ ?side1 ?side2 ?side3 ?side4 A100.out).mono ?_
     (case side1 => repeat (first | exact (Kd.C_below HR0_0.out HB.out) | (with_reducible refine Kd.C_alloc ?_ _) | (with_reducible refine Kd.C_drewN ?_ _) | (with_reducible refine Kd.C_drew ?_)))
     (case side2 => exact HC0_0.out)
     (case side3 => repeat (first | exact (Kd.R_reads' HO956.out).2.2 | (with_reducible refine Kd.C_alloc ?_ _) | (with_reducible refine Kd.C_drewN ?_ _) | (with_reducible refine Kd.C_drew ?_)))
     (case side4 => exact (Kd.R_reads' HO956.out).2.1)
     rintro e w141 ⟨rfl, hb⟩
     refine ⟨_, rfl, ?_⟩
     replace HO_1 := Aside0.mk (Kd.R_below HO_1.out hb)
     replace HO_2 := Aside0.mk (Kd.R_below HO_2.out hb)
     replace HO_9 := Aside0.mk (Kd.R_below HO_9.out hb)
     replace HO946 := Aside0.mk (Kd.N_below HO946.out hb)
     replace HO949 := Aside0.mk (Kd.R_below HO949.out hb)
     replace HO953 := Aside0.mk (Kd.N_below HO953.out hb)
     replace HO956 := Aside0.mk (Kd.R_below HO956.out hb)
     replace BK912 := Aside0.mk (blk_below (g := gb912) (o := .cells #[.slice A0_0 l0_0.length c0_0] 24 (0, 0)) BK912.out hb)
     replace HB := Aside0.mk (below_step HB.out hb)
     (try clear hb)
     (try clear hb2)
     (try clear hk)
     (try clear hi)
     refine hK.out _ _ ((blk_cell BK912.out 0).trans rfl) (fun hHeld => ?_)
     clear hK K
     refine nm_ 154 ?_
     refine pv_ 38 155 tth98 HT_ ?_
     refine pv_ 39 156 tth99 HT_ ?_
     refine done_ (done_of HT_.out (by kernel_rfl)) ?_
     try go_wp2
     go_roundg k2
     case measure => have := HJ9.out; have := HK2.out; omega
     case rel => exact ⟨(wrap64 (x12_2 + 1)), (by first | rfl | (simp; done) | (simp [*]; done)), H', ⟨by have := HJ9.out; have := HK2.out; omega⟩, ⟨by (with_reducible repeat (first | apply Kd.R_alloc | apply Kd.R_drewN | apply Kd.R_drew)); exact Kd.R_mono HO_1.out (fun _ hk => hk.1.2)⟩, ⟨by (with_reducible repeat (first | apply Kd.R_alloc | apply Kd.R_drewN | apply Kd.R_drew)); exact Kd.R_mono HO_2.out (fun _ hk => hk.1.2)⟩, ⟨by (with_reducible repeat (first | apply Kd.R_alloc | apply Kd.R_drewN | apply Kd.R_drew)); exact HO_9.out⟩, ⟨by (with_reducible repeat (first | refine blk_drewN ?_ _ | refine blk_drew ?_ | refine blk_alloc ?_ _)); exact BK912.out⟩, ⟨by repeat (first | (with_reducible first | exact HB.out | apply below_alloc | apply pw_below_drewN | apply below_drew1 | refine below_set ?_ GE912.out) | exact HB.out)⟩⟩
end Go.Proofs.Ytogoppejcmaocaa.Q
end
