/- One word for all mazes: the word that is found for some numbers of rooms and doors visits all rooms of whatever connected maze with at most this number of rooms, also with doors before it and after it; it is proved for every input, without conditions. (text 15 of 31) -/
import Derived.Test.YtgbjbgdnldklpaaZTopMazeg
/-! Part QTopBuilt -/
section
-- Written by xprint.py, a program of this session's, over the kit's print. Lean checks it.
namespace Go.Proofs.Ytgbjbgdnldklpaa.Q
open Go.RowKit Go.Proofs.YtgbjbgdnldklpaaW.PrintWords Go.Proofs.YtgbjbgdnldklpaaW.PrintLast Go.Proofs.YtgbjbgdnldklpaaW.PrintMore
attribute [local go_sem] max2_int min2_int max_two min_two max_three min_three max_four min_four
set_option linter.unusedVariables false
set_option linter.unusedSimpArgs false

attribute [local go_sem high] eqA44
/-! ### mizmazetop_built: function 28 -/
mutual
def mizmazetop_built.l0 : Nat → Int → Int → List Int → Int → List (List (S44)) → Option ((List (List (S44))))
 | 0, _, _, _, _, _ => none
 | k + 1, x0, x1, x2, x8, x521000 => if x8 < x0 then (mizmazetop_built.l1 k x0 x1 x2 x8 ([] : List (S44)) 0 x521000) else (mizmazetop_built.l2 k x0 x1 x2 0 x521000)
def mizmazetop_built.l1 : Nat → Int → Int → List Int → Int → List (S44) → Int → List (List (S44)) → Option ((List (List (S44))))
 | 0, _, _, _, _, _, _, _ => none
 | k + 1, x0, x1, x2, x8, x9, x10, x521000 => if x10 < x1 then (if x9.length < 8796093022208 then (mizmazetop_built.l1 k x0 x1 x2 x8 (x9 ++ [(⟨x8, x10⟩ : S44)]) (wrap64 (x10 + 1)) x521000) else (none)) else (if x521000.length < 5864062014805 then (mizmazetop_built.l0 k x0 x1 x2 (wrap64 (x8 + 1)) (x521000 ++ [x9])) else (none))
def mizmazetop_built.l2 : Nat → Int → Int → List Int → Int → List (List (S44)) → Option ((List (List (S44))))
 | 0, _, _, _, _, _ => none
 | k + 1, x0, x1, x2, x11, x521000 => if (wrap64 (x11 + 1)) < (x2.length : Int) then (mizmazetop_built.j3 k x0 x1 x2 x11 (decide (x11 < 100)) x521000) else (mizmazetop_built.j3 k x0 x1 x2 x11 false x521000)
def mizmazetop_built.j3 : Nat → Int → Int → List Int → Int → Bool → List (List (S44)) → Option ((List (List (S44))))
 | 0, _, _, _, _, _, _ => none
 | k + 1, x0, x1, x2, x11, x46, x521000 => if x46 = true then (if 0 ≤ x11 then (if x11 < (x2.length : Int) then ((mizmazetop_cycle.f (rd x2 x11) (wrap64 (x0 * x1))).bind fun t528 => (if 0 ≤ (wrap64 (x11 + 1)) then (if (wrap64 (x11 + 1)) < (x2.length : Int) then ((mizmazetop_cycle.f (rd x2 (wrap64 (x11 + 1))) (wrap64 (x0 * x1))).bind fun t530 => (if x1 = 0 then (none) else (if 0 ≤ (wrap64 (Int.tdiv t528 x1)) then (if (wrap64 (Int.tdiv t528 x1)) < (x521000.length : Int) then (if 0 ≤ (Int.tmod t528 x1) then (if (Int.tmod t528 x1) < ((rd_L4 x521000 (wrap64 (Int.tdiv t528 x1))).length : Int) then (if (((rd_T44 (rd_L4 x521000 (wrap64 (Int.tdiv t528 x1))) (Int.tmod t528 x1)).f0) == (wrap64 (Int.tdiv t528 x1)) && (((rd_T44 (rd_L4 x521000 (wrap64 (Int.tdiv t528 x1))) (Int.tmod t528 x1)).f1) == (Int.tmod t528 x1))) = true then (if 0 ≤ (wrap64 (Int.tdiv t530 x1)) then (if (wrap64 (Int.tdiv t530 x1)) < (x521000.length : Int) then (if 0 ≤ (Int.tmod t530 x1) then (if (Int.tmod t530 x1) < ((rd_L4 x521000 (wrap64 (Int.tdiv t530 x1))).length : Int) then (if (((rd_T44 (rd_L4 x521000 (wrap64 (Int.tdiv t530 x1))) (Int.tmod t530 x1)).f0) == (wrap64 (Int.tdiv t530 x1)) && (((rd_T44 (rd_L4 x521000 (wrap64 (Int.tdiv t530 x1))) (Int.tmod t530 x1)).f1) == (Int.tmod t530 x1))) = true then ((some (x521000.set ((wrap64 (Int.tdiv t528 x1)) : Int).toNat ((rd_L4 x521000 (wrap64 (Int.tdiv t528 x1))).set ((Int.tmod t528 x1) : Int).toNat (⟨wrap64 (Int.tdiv t530 x1), Int.tmod t530 x1⟩ : S44)) : List (List (S44)))).bind fun y540 => (if (Int.tmod t530 x1) < ((rd_L4 y540 (wrap64 (Int.tdiv t530 x1))).length : Int) then (mizmazetop_built.l2 k x0 x1 x2 (wrap64 (x11 + 2)) (y540.set ((wrap64 (Int.tdiv t530 x1)) : Int).toNat ((rd_L4 y540 (wrap64 (Int.tdiv t530 x1))).set ((Int.tmod t530 x1) : Int).toNat (⟨wrap64 (Int.tdiv t528 x1), Int.tmod t528 x1⟩ : S44)))) else (none))) else (mizmazetop_built.l2 k x0 x1 x2 (wrap64 (x11 + 2)) x521000)) else (none)) else (none)) else (none)) else (none)) else (mizmazetop_built.l2 k x0 x1 x2 (wrap64 (x11 + 2)) x521000)) else (none)) else (none)) else (none)) else (none)))) else (none)) else (none))) else (none)) else (none)) else (some x521000)
end
def mizmazetop_built.f (k : Nat) (a0 : Int) (a1 : Int) (l2 : List Int) : Option ((List (List (S44)))) := mizmazetop_built.l0 k a0 a1 l2 0 ([] : List (List (S44)))
theorem mizmazetop_built.mono_l : ∀ k, (∀ y0 y1 y2 y3 y4, LeO (mizmazetop_built.l0 k y0 y1 y2 y3 y4) (mizmazetop_built.l0 (k + 1) y0 y1 y2 y3 y4)) ∧ (∀ y0 y1 y2 y3 y4 y5 y6, LeO (mizmazetop_built.l1 k y0 y1 y2 y3 y4 y5 y6) (mizmazetop_built.l1 (k + 1) y0 y1 y2 y3 y4 y5 y6)) ∧ (∀ y0 y1 y2 y3 y4, LeO (mizmazetop_built.l2 k y0 y1 y2 y3 y4) (mizmazetop_built.l2 (k + 1) y0 y1 y2 y3 y4)) ∧ (∀ y0 y1 y2 y3 y4 y5, LeO (mizmazetop_built.j3 k y0 y1 y2 y3 y4 y5) (mizmazetop_built.j3 (k + 1) y0 y1 y2 y3 y4 y5))
 | 0 => ⟨fun _ _ _ _ _ r h => by simp [mizmazetop_built.l0] at h, fun _ _ _ _ _ _ _ r h => by simp [mizmazetop_built.l1] at h, fun _ _ _ _ _ r h => by simp [mizmazetop_built.l2] at h, fun _ _ _ _ _ _ r h => by simp [mizmazetop_built.j3] at h⟩
 | k + 1 => by
  obtain ⟨ih0, ih1, ih2, ih3⟩ := mizmazetop_built.mono_l k
  refine ⟨?_, ?_, ?_, ?_⟩
  ·intro y0 y1 y2 y3 y4
   unfold mizmazetop_built.l0
   repeat' first
   | (with_reducible exact ih0 _ _ _ _ _)
   | (with_reducible exact ih1 _ _ _ _ _ _ _)
   | (with_reducible exact ih2 _ _ _ _ _)
   | (with_reducible exact ih3 _ _ _ _ _ _)
   | (with_reducible exact LeO.refl _)
   | (with_reducible exact LeO.none _)
   | (with_reducible refine LeO.ite ?_ ?_)
   | (with_reducible refine LeO.bind ?_ (fun _ => ?_))
   | exact ih0 _ _ _ _ _
   | exact ih1 _ _ _ _ _ _ _
   | exact ih2 _ _ _ _ _
   | exact ih3 _ _ _ _ _ _
   | exact LeO.none _
   | refine LeO.ite ?_ ?_
   | refine LeO.bind ?_ (fun _ => ?_)
  ·intro y0 y1 y2 y3 y4 y5 y6
   unfold mizmazetop_built.l1
   repeat' first
   | (with_reducible exact ih0 _ _ _ _ _)
   | (with_reducible exact ih1 _ _ _ _ _ _ _)
   | (with_reducible exact ih2 _ _ _ _ _)
   | (with_reducible exact ih3 _ _ _ _ _ _)
   | (with_reducible exact LeO.refl _)
   | (with_reducible exact LeO.none _)
   | (with_reducible refine LeO.ite ?_ ?_)
   | (with_reducible refine LeO.bind ?_ (fun _ => ?_))
   | exact ih0 _ _ _ _ _
   | exact ih1 _ _ _ _ _ _ _
   | exact ih2 _ _ _ _ _
   | exact ih3 _ _ _ _ _ _
   | exact LeO.none _
   | refine LeO.ite ?_ ?_
   | refine LeO.bind ?_ (fun _ => ?_)
  ·intro y0 y1 y2 y3 y4
   unfold mizmazetop_built.l2
   repeat' first
   | (with_reducible exact ih0 _ _ _ _ _)
   | (with_reducible exact ih1 _ _ _ _ _ _ _)
   | (with_reducible exact ih2 _ _ _ _ _)
   | (with_reducible exact ih3 _ _ _ _ _ _)
   | (with_reducible exact LeO.refl _)
   | (with_reducible exact LeO.none _)
   | (with_reducible refine LeO.ite ?_ ?_)
   | (with_reducible refine LeO.bind ?_ (fun _ => ?_))
   | exact ih0 _ _ _ _ _
   | exact ih1 _ _ _ _ _ _ _
   | exact ih2 _ _ _ _ _
   | exact ih3 _ _ _ _ _ _
   | exact LeO.none _
   | refine LeO.ite ?_ ?_
   | refine LeO.bind ?_ (fun _ => ?_)
  ·intro y0 y1 y2 y3 y4 y5
   unfold mizmazetop_built.j3
   repeat' first
   | (with_reducible exact ih0 _ _ _ _ _)
   | (with_reducible exact ih1 _ _ _ _ _ _ _)
   | (with_reducible exact ih2 _ _ _ _ _)
   | (with_reducible exact ih3 _ _ _ _ _ _)
   | (with_reducible exact LeO.refl _)
   | (with_reducible exact LeO.none _)
   | (with_reducible refine LeO.ite ?_ ?_)
   | (with_reducible refine LeO.bind ?_ (fun _ => ?_))
   | exact ih0 _ _ _ _ _
   | exact ih1 _ _ _ _ _ _ _
   | exact ih2 _ _ _ _ _
   | exact ih3 _ _ _ _ _ _
   | exact LeO.none _
   | refine LeO.ite ?_ ?_
   | refine LeO.bind ?_ (fun _ => ?_)
theorem mizmazetop_built.mono : ∀ a0 a1 a2 k, LeO (mizmazetop_built.f k a0 a1 a2) (mizmazetop_built.f (k + 1) a0 a1 a2) := by
 intro a0 a1 a2 k
 obtain ⟨ih0, ih1, ih2, ih3⟩ := mizmazetop_built.mono_l k
 unfold mizmazetop_built.f
 repeat' first
   | (with_reducible exact ih0 _ _ _ _ _)
   | (with_reducible exact ih1 _ _ _ _ _ _ _)
   | (with_reducible exact ih2 _ _ _ _ _)
   | (with_reducible exact ih3 _ _ _ _ _ _)
   | (with_reducible exact LeO.refl _)
   | (with_reducible exact LeO.none _)
   | (with_reducible refine LeO.ite ?_ ?_)
   | (with_reducible refine LeO.bind ?_ (fun _ => ?_))
   | exact ih0 _ _ _ _ _
   | exact ih1 _ _ _ _ _ _ _
   | exact ih2 _ _ _ _ _
   | exact ih3 _ _ _ _ _ _
   | exact LeO.none _
   | refine LeO.ite ?_ ?_
   | refine LeO.bind ?_ (fun _ => ?_)
def mizmazetop_built.T14 : Bool × List (List Nat × List Nat) := (true, [([], []), ([], []), ([0, 1], [0, 1]), ([2], [2]), ([], []), ([], []), ([4, 5], [4, 5]), ([3, 6], [3, 6]), ([], []), ([], []), ([9], [9]), ([8, 10], [8, 10]), ([11], [11]), ([], []), ([], []), ([13, 14], [13, 14]), ([12, 15, 7], [12, 15]), ([7, 16, 0, 1, 2, 3, 4, 5, 6, 7], [7]), ([16, 17, 0, 1, 2, 3, 4, 5, 6, 7, 8, 9, 10, 11, 12, 13, 14, 15, 16, 17], [16])])
def mizmazetop_built.B14 : List Nat := [0, 0, 3, 7, 0, 0, 48, 127, 0, 0, 512, 1792, 3840, 0, 0, 24576, 65535, 131071, 262143]
theorem mizmazetop_built.tab14 : rtab .any (opsOf Try.f28 14) = mizmazetop_built.T14 := by kernel_rfl
theorem mizmazetop_built.bits14 : waitsOk mizmazetop_built.T14.2 mizmazetop_built.B14 = true := by kernel_rfl
def mizmazetop_built.T15 : Bool × List (List Nat × List Nat) := (true, [([], []), ([], []), ([0, 1], [0, 1]), ([], []), ([], []), ([3, 4], [3, 4]), ([2, 5], [2, 5]), ([], []), ([], []), ([7, 8], [7, 8]), ([], []), ([], []), ([10, 11], [10, 11]), ([9, 12], [9, 12]), ([], []), ([], []), ([14, 6, 0, 1, 2, 3, 4, 5, 6, 14, 15], [6, 14]), ([15, 13, 16, 0, 1, 2, 3, 4, 5, 6, 7, 8, 9, 10, 11, 12, 13, 14, 15, 16], [13, 15])])
def mizmazetop_built.B15 : List Nat := [0, 0, 3, 0, 0, 24, 63, 0, 0, 384, 0, 0, 3072, 8064, 0, 0, 49279, 131071]
theorem mizmazetop_built.tab15 : rtab .any (opsOf Try.f28 15) = mizmazetop_built.T15 := by kernel_rfl
theorem mizmazetop_built.bits15 : waitsOk mizmazetop_built.T15.2 mizmazetop_built.B15 = true := by kernel_rfl
def mizmazetop_built.T16 : Bool × List (List Nat × List Nat) := (true, [([], []), ([0], [0]), ([], []), ([2], [2]), ([1, 3], [1, 3]), ([4], [4]), ([], []), ([6], [6]), ([5, 7], [5, 7]), ([8], [8]), ([], []), ([9, 10], [9, 10]), ([11], [11]), ([12], [12]), ([13, 12], [12, 13]), ([12], [12]), ([15, 12], [12, 15]), ([14, 16, 12], [12, 14, 16]), ([17, 12], [12, 17]), ([12], [12]), ([19, 12], [12, 19]), ([18, 20, 12], [12, 18, 20]), ([21, 12], [12, 21]), ([12], [12]), ([22, 23, 12], [12, 22, 23]), ([12, 24], [12, 24])])
def mizmazetop_built.B16 : List Nat := [0, 1, 0, 4, 15, 31, 0, 64, 255, 511, 0, 2047, 4095, 8191, 16383, 8191, 40959, 131071, 262143, 8191, 532479, 2097151, 4194303, 8191, 16777215, 33554431]
theorem mizmazetop_built.tab16 : rtab .any (opsOf Try.f28 16) = mizmazetop_built.T16 := by kernel_rfl
theorem mizmazetop_built.bits16 : waitsOk mizmazetop_built.T16.2 mizmazetop_built.B16 = true := by kernel_rfl
def tb0 : Array Bool := #[true, false, false, false, false, false, false, false, false, false, false, false, false, false, false, false, false, false, false]
def tb1 : Array Bool := #[true, true, false, false, false, false, false, false, false, false, false, false, false, false, false, false, false, false, false]
def tb2 : Array Bool := #[true, true, true, false, false, false, false, false, false, false, false, false, false, false, false, false, false, false, false]
def tb3 : Array Bool := #[true, true, true, false, true, false, false, false, false, false, false, false, false, false, false, false, false, false, false]
def tb4 : Array Bool := #[true, true, true, false, true, true, false, false, false, false, false, false, false, false, false, false, false, false, false]
def tb5 : Array Bool := #[true, true, true, false, true, true, true, false, false, false, false, false, false, false, false, false, false, false, false]
def tb6 : Array Bool := #[true, true, true, false, true, true, true, false, true, false, false, false, false, false, false, false, false, false, false]
def tb7 : Array Bool := #[true, true, true, false, true, true, true, false, true, true, false, false, false, false, false, false, false, false, false]
def tb8 : Array Bool := #[true, true, true, false, true, true, true, false, true, true, true, false, false, false, false, false, false, false, false]
def tb9 : Array Bool := #[true, true, true, false, true, true, true, false, true, true, true, true, false, false, false, false, false, false, false]
def tb10 : Array Bool := #[true, true, true, false, true, true, true, false, true, true, true, true, false, true, false, false, false, false, false]
def tb11 : Array Bool := #[true, true, true, false, true, true, true, false, true, true, true, true, false, true, true, false, false, false, false]
def tb12 : Array Bool := #[true, true, true, false, true, true, true, false, true, true, true, true, false, true, true, true, false, false, false]
def tb13 : Array Bool := #[true, true, true, true, true, true, true, false, true, true, true, true, false, true, true, true, false, false, false]
def tb14 : Array Bool := #[true, true, true, true, true, true, true, false, true, true, true, true, true, true, true, true, false, false, false]
def tb15 : Array Bool := #[true, true, true, true, true, true, true, true, true, true, true, true, true, true, true, true, false, false, false]
def tb16 : Array Bool := #[true, true, true, true, true, true, true, true, true, true, true, true, true, true, true, true, true, false, false]
def tb17 : Array Bool := #[true, true, true, true, true, true, true, true, true, true, true, true, true, true, true, true, true, true, false]
def tb18 : Array Bool := #[true, true, true, true, true, true, true, true, true, true, true, true, true, true, true, true, true, true, true]
def tb19 : Array Bool := #[true, false, false, false, false, false, false, false, false, false, false, false, false, false, false, false, false, false]
def tb20 : Array Bool := #[true, true, false, false, false, false, false, false, false, false, false, false, false, false, false, false, false, false]
def tb21 : Array Bool := #[true, true, true, false, false, false, false, false, false, false, false, false, false, false, false, false, false, false]
def tb22 : Array Bool := #[true, true, true, true, false, false, false, false, false, false, false, false, false, false, false, false, false, false]
def tb23 : Array Bool := #[true, true, true, true, true, false, false, false, false, false, false, false, false, false, false, false, false, false]
def tb24 : Array Bool := #[true, true, true, true, true, true, false, false, false, false, false, false, false, false, false, false, false, false]
def tb25 : Array Bool := #[true, true, true, true, true, true, true, false, false, false, false, false, false, false, false, false, false, false]
def tb26 : Array Bool := #[true, true, true, true, true, true, true, true, false, false, false, false, false, false, false, false, false, false]
def tb27 : Array Bool := #[true, true, true, true, true, true, true, true, true, false, false, false, false, false, false, false, false, false]
def tb28 : Array Bool := #[true, true, true, true, true, true, true, true, true, true, false, false, false, false, false, false, false, false]
def tb29 : Array Bool := #[true, true, true, true, true, true, true, true, true, true, true, false, false, false, false, false, false, false]
def tb30 : Array Bool := #[true, true, true, true, true, true, true, true, true, true, true, true, false, false, false, false, false, false]
def tb31 : Array Bool := #[true, true, true, true, true, true, true, true, true, true, true, true, true, false, false, false, false, false]
def tb32 : Array Bool := #[true, true, true, true, true, true, true, true, true, true, true, true, true, true, false, false, false, false]
def tb33 : Array Bool := #[true, true, true, true, true, true, true, true, true, true, true, true, true, true, true, false, false, false]
def tb34 : Array Bool := #[true, true, true, true, true, true, true, true, true, true, true, true, true, true, false, true, false, false]
def tb35 : Array Bool := #[true, true, true, true, true, true, true, true, true, true, true, true, true, true, true, true, false, false]
def tb36 : Array Bool := #[true, true, true, true, true, true, true, true, true, true, true, true, true, true, true, true, true, false]
def tb37 : Array Bool := #[true, true, true, true, true, true, true, true, true, true, true, true, true, true, true, true, true, true]
def tb38 : Array Bool := #[true, false, false, false, false, false, false, false, false, false, false, false, false, false, false, false, false, false, false, false, false, false, false, false, false, false]
def tb39 : Array Bool := #[true, false, true, false, false, false, false, false, false, false, false, false, false, false, false, false, false, false, false, false, false, false, false, false, false, false]
def tb40 : Array Bool := #[true, false, true, false, false, false, true, false, false, false, false, false, false, false, false, false, false, false, false, false, false, false, false, false, false, false]
def tb41 : Array Bool := #[true, true, true, false, false, false, true, false, false, false, false, false, false, false, false, false, false, false, false, false, false, false, false, false, false, false]
def tb42 : Array Bool := #[true, true, true, true, false, false, true, false, false, false, false, false, false, false, false, false, false, false, false, false, false, false, false, false, false, false]
def tb43 : Array Bool := #[true, true, true, true, true, false, true, false, false, false, false, false, false, false, false, false, false, false, false, false, false, false, false, false, false, false]
def tb44 : Array Bool := #[true, true, true, true, true, true, true, false, false, false, false, false, false, false, false, false, false, false, false, false, false, false, false, false, false, false]
def tb45 : Array Bool := #[true, true, true, true, true, true, true, true, false, false, false, false, false, false, false, false, false, false, false, false, false, false, false, false, false, false]
def tb46 : Array Bool := #[true, true, true, true, true, true, true, true, true, false, false, false, false, false, false, false, false, false, false, false, false, false, false, false, false, false]
def tb47 : Array Bool := #[true, true, true, true, true, true, true, true, true, true, false, false, false, false, false, false, false, false, false, false, false, false, false, false, false, false]
def tb48 : Array Bool := #[true, true, true, true, true, true, true, true, true, true, true, false, false, false, false, false, false, false, false, false, false, false, false, false, false, false]
def tb49 : Array Bool := #[true, true, true, true, true, true, true, true, true, true, true, true, false, false, false, false, false, false, false, false, false, false, false, false, false, false]
def tb50 : Array Bool := #[true, true, true, true, true, true, true, true, true, true, true, true, true, false, false, false, false, false, false, false, false, false, false, false, false, false]
def tb51 : Array Bool := #[true, true, true, true, true, true, true, true, true, true, true, true, true, true, false, false, false, false, false, false, false, false, false, false, false, false]
def tb52 : Array Bool := #[true, true, true, true, true, true, true, true, true, true, true, true, true, true, false, true, false, false, false, false, false, false, false, false, false, false]
def tb53 : Array Bool := #[true, true, true, true, true, true, true, true, true, true, true, true, true, true, false, true, false, false, false, true, false, false, false, false, false, false]
def tb54 : Array Bool := #[true, true, true, true, true, true, true, true, true, true, true, true, true, true, true, true, false, false, false, true, false, false, false, false, false, false]
def tb55 : Array Bool := #[true, true, true, true, true, true, true, true, true, true, true, true, true, true, true, true, true, false, false, true, false, false, false, false, false, false]
def tb56 : Array Bool := #[true, true, true, true, true, true, true, true, true, true, true, true, true, true, true, true, true, true, false, true, false, false, false, false, false, false]
def tb57 : Array Bool := #[true, true, true, true, true, true, true, true, true, true, true, true, true, true, true, true, true, true, true, true, false, false, false, false, false, false]
def tb58 : Array Bool := #[true, true, true, true, true, true, true, true, true, true, true, true, true, true, true, true, true, true, true, true, true, false, false, false, false, false]
def tb59 : Array Bool := #[true, true, true, true, true, true, true, true, true, true, true, true, true, true, true, true, true, true, true, true, true, true, false, false, false, false]
def tb60 : Array Bool := #[true, true, true, true, true, true, true, true, true, true, true, true, true, true, true, true, true, true, true, true, true, true, true, false, false, false]
def tb61 : Array Bool := #[true, true, true, true, true, true, true, true, true, true, true, true, true, true, true, true, true, true, true, true, true, true, true, true, false, false]
def tb62 : Array Bool := #[true, true, true, true, true, true, true, true, true, true, true, true, true, true, true, true, true, true, true, true, true, true, true, true, true, false]
def tb63 : Array Bool := #[true, true, true, true, true, true, true, true, true, true, true, true, true, true, true, true, true, true, true, true, true, true, true, true, true, true]
def tb64 : Array Bool := #[true, false, false, false, false, false, false, false, false, false, false, false, false, false, false, false, false, false, false, false, false, false]
def tb65 : Array Bool := #[true, false, true, false, false, false, false, false, false, false, false, false, false, false, false, false, false, false, false, false, false, false]
def tb66 : Array Bool := #[true, false, true, false, false, false, true, false, false, false, false, false, false, false, false, false, false, false, false, false, false, false]
def tb67 : Array Bool := #[true, false, true, false, false, false, true, false, true, false, false, false, false, false, false, false, false, false, false, false, false, false]
def tb68 : Array Bool := #[true, false, true, false, false, false, true, false, true, false, true, false, false, false, false, false, false, false, false, false, false, false]
def tb69 : Array Bool := #[true, false, true, false, false, false, true, false, true, false, true, false, false, false, true, false, false, false, false, false, false, false]
def tb70 : Array Bool := #[true, true, true, false, false, false, true, false, true, false, true, false, false, false, true, false, false, false, false, false, false, false]
def tb71 : Array Bool := #[true, true, true, true, false, false, true, false, true, false, true, false, false, false, true, false, false, false, false, false, false, false]
def tb72 : Array Bool := #[true, true, true, true, true, false, true, false, true, false, true, false, false, false, true, false, false, false, false, false, false, false]
def tb73 : Array Bool := #[true, true, true, true, true, true, true, false, true, false, true, false, false, false, true, false, false, false, false, false, false, false]
def tb74 : Array Bool := #[true, true, true, true, true, true, true, true, true, false, true, false, false, false, true, false, false, false, false, false, false, false]
def tb75 : Array Bool := #[true, true, true, true, true, true, true, true, true, true, true, false, false, false, true, false, false, false, false, false, false, false]
def tb76 : Array Bool := #[true, true, true, true, true, true, true, true, true, true, true, true, false, false, true, false, false, false, false, false, false, false]
def tb77 : Array Bool := #[true, true, true, true, true, true, true, true, true, true, true, true, true, false, true, false, false, false, false, false, false, false]
def tb78 : Array Bool := #[true, true, true, true, true, true, true, true, true, true, true, true, true, true, true, false, false, false, false, false, false, false]
def tb79 : Array Bool := #[true, true, true, true, true, true, true, true, true, true, true, true, true, true, true, true, false, false, false, false, false, false]
def tb80 : Array Bool := #[true, true, true, true, true, true, true, true, true, true, true, true, true, true, true, true, true, false, false, false, false, false]
def tb81 : Array Bool := #[true, true, true, true, true, true, true, true, true, true, true, true, true, true, true, true, true, false, true, false, false, false]
def tb82 : Array Bool := #[true, true, true, true, true, true, true, true, true, true, true, true, true, true, true, true, true, true, true, false, false, false]
def tb83 : Array Bool := #[true, true, true, true, true, true, true, true, true, true, true, true, true, true, true, true, true, true, true, true, false, false]
def tb84 : Array Bool := #[true, true, true, true, true, true, true, true, true, true, true, true, true, true, true, true, true, true, true, true, true, false]
def tb85 : Array Bool := #[true, true, true, true, true, true, true, true, true, true, true, true, true, true, true, true, true, true, true, true, true, true]
def tb86 : Array Bool := #[true, true, true, true, true, true, true, true, true, true, true, true, true, true, true, false, false, false, false, false, false, false, false, false, false, false]
def tb87 : Array Bool := #[true, true, true, true, true, true, true, true, true, true, true, true, true, true, true, true, false, false, false, false, false, false, false, false, false, false]
def tb88 : Array Bool := #[true, true, true, true, true, true, true, true, true, true, true, true, true, true, true, true, true, false, false, false, false, false, false, false, false, false]
def tb89 : Array Bool := #[true, true, true, true, true, true, true, true, true, true, true, true, true, true, true, true, true, true, false, false, false, false, false, false, false, false]
def tb90 : Array Bool := #[true, true, true, true, true, true, true, true, true, true, true, true, true, true, true, true, true, true, true, false, false, false, false, false, false, false]
set_option maxHeartbeats 8000000 in
set_option maxRecDepth 100000 in
theorem mizmazetop_built.calls (k : Nat) (a0 : Int) (a1 : Int) (A2 : Option Addr) (c2 : Nat) (l2 : List Int) (r : List (List (S44))) (w : World) (hr2 : Kd.C (Kd.int .i64) w A2 l2.length l2) (hc2 : l2.length ≤ c2) (h : mizmazetop_built.f k a0 a1 l2 = some r) :
    Calls Try.prog 28 #[.int .i64 a0, .int .i64 a1, .slice A2 l2.length c2] w fun e w' => ∃ v0_ : Value, e = .returned (.agg #[v0_]) ∧ Kd.S (Kd.slice 44 k44) 40 w' w.heap.size (fun _ => True) v0_ r ∧ Below w.heap.size w w' := by
 have hu38 := Try.underlying38
 have hu44 := Try.underlying44
 have HR2 := Aside0.mk hr2
 have HC2 := Aside0.mk hc2
 clear hr2 hc2
 have HB := Aside0.mk (Below.refl w.heap.size w)
 have H : (mizmazetop_built.l0 k a0 a1 l2 0 ([] : List (List (S44)))) = some r := h
 clear h
 have H' := Aside0.mk H
 clear H
 go_enter Try.func28, Try.ntmps28
 go_wp2_with (first | ((with_reducible refine gate_dst (N := 6) rfl ?_); refine box_event ?hg (N := 6) ?hd (cs := #[.slice none 0 0]) (t := 38) ?hr ?_; (case hd => rfl); (case hg => rfl); (case hr => first | (go_simp; done) | (go_simp; rfl)); intro gb519 hg w4 hbox hb; have n0_ := Aside0.mk (below_step (by repeat (first | (with_reducible first | exact HB.out | apply below_alloc | apply pw_below_drewN | apply below_drew1) | exact HB.out)) hb); have n1_ := Aside0.mk (hbox); have n2_ := Aside0.mk ((by rw [hg]; exact (below_size (by repeat (first | (with_reducible first | exact HB.out | apply below_alloc | apply pw_below_drewN | apply below_drew1) | exact HB.out))) : w.heap.size ≤ gb519)); have n3_ := Aside0.mk ((by rw [hg]; exact (below_size (by repeat (first | (with_reducible first | exact HB.out | apply below_alloc | apply pw_below_drewN | apply below_drew1) | exact HB.out))) : w.heap.size ≤ gb519)); clear HB; have HB := n0_; have BK519 := n1_; have GW519 := n2_; have GE519 := n3_; clear n0_ n1_ n2_ n3_; clear hb hbox hg) | ((with_reducible refine gate_dst (N := 7) rfl ?_); refine box_event ?hg (N := 7) ?hd (cs := #[.slice none 0 0]) (t := 38) ?hr ?_; (case hd => rfl); (case hg => rfl); (case hr => first | (go_simp; done) | (go_simp; rfl)); intro gb520 hg w5 hbox hb; have n0_ := Aside0.mk (blk_below (g := gb519) (o := .cells #[.slice none 0 0] 38 (0, 0)) (by (with_reducible repeat (first | refine blk_drewN ?_ _ | refine blk_drew ?_ | refine blk_alloc ?_ _)); exact BK519.out) hb); have n1_ := Aside0.mk (below_step (by repeat (first | (with_reducible first | exact HB.out | apply below_alloc | apply pw_below_drewN | apply below_drew1 | refine below_set ?_ GE519.out) | exact HB.out)) hb); have n2_ := Aside0.mk (hbox); have n3_ := Aside0.mk ((by rw [hg]; exact (below_size (by repeat (first | (with_reducible first | exact HB.out | apply below_alloc | apply pw_below_drewN | apply below_drew1 | refine below_set ?_ GE519.out) | exact HB.out))) : w.heap.size ≤ gb520)); have n4_ := Aside0.mk ((by rw [hg]; exact (below_size (by repeat (first | (with_reducible first | exact HB.out | apply below_alloc | apply pw_below_drewN | apply below_drew1 | refine below_set ?_ GE519.out) | exact HB.out))) : w.heap.size ≤ gb520)); have n5_ := Aside0.mk ((by rw [hg]; exact Nat.ne_of_lt (blk_lt (g := gb519) (o := .cells #[.slice none 0 0] 38 (0, 0)) (by (with_reducible repeat (first | refine blk_drewN ?_ _ | refine blk_drew ?_ | refine blk_alloc ?_ _)); exact BK519.out)) : gb519 ≠ gb520)); have n6_ := Aside0.mk ((by rw [hg]; exact Nat.ne_of_gt (blk_lt (g := gb519) (o := .cells #[.slice none 0 0] 38 (0, 0)) (by (with_reducible repeat (first | refine blk_drewN ?_ _ | refine blk_drew ?_ | refine blk_alloc ?_ _)); exact BK519.out)) : gb520 ≠ gb519)); clear BK519; clear HB; have BK519 := n0_; have HB := n1_; have BK520 := n2_; have GW520 := n3_; have GE520 := n4_; have NB519_520 := n5_; have NB520_519 := n6_; clear n0_ n1_ n2_ n3_ n4_ n5_ n6_; clear hb hbox hg))
 go_loopg [8] k (fun kq v8 w' => ∃ (x8_1 : Int) (x521000_1 : List (List (S44))) (u521000 : Value), v8 = .int .i64 x8_1 ∧ Aside0 (mizmazetop_built.l0 kq a0 a1 l2 x8_1 x521000_1 = some r) ∧ Aside0 (kq ≤ k) ∧ Aside0 (Kd.S (Kd.slice 44 k44) 40 w' w.heap.size (fun _ => True) u521000 x521000_1) ∧ Aside0 (w'.heap[gb519]? = some (.cells #[(.slice none 0 0)] 38 (0, 0))) ∧ Aside0 (w'.heap[gb520]? = some (.cells #[u521000] 38 (0, 0))) ∧ Aside0 (Below w.heap.size w w'))
 case atStart => exact ⟨(0), (([] : List (List (S44)))), (.slice none 0 0), (by first | rfl | (simp; done) | (simp [*]; done)), H', ⟨Nat.le_refl _⟩, ⟨by first | exact Kd.S_nil _ _ _ _ _ | exact Kd.N_nil _ _ _ _ _ | exact Kd.V_nil _ _ _ _ _ | exact Kd.Q_nil _ _ _ _ _ | exact Kd.R_nil _ _ _ _ _⟩, ⟨by (with_reducible repeat (first | refine blk_drewN ?_ _ | refine blk_drew ?_ | refine blk_alloc ?_ _)); exact BK519.out⟩, ⟨by (with_reducible repeat (first | refine blk_drewN ?_ _ | refine blk_drew ?_ | refine blk_alloc ?_ _)); exact BK520.out⟩, ⟨by repeat (first | (with_reducible first | exact HB.out | apply below_alloc | apply pw_below_drewN | apply below_drew1 | refine below_set ?_ GE519.out | refine below_set ?_ GE520.out) | exact HB.out)⟩⟩
 case round =>
  clear H'
  try clear c2
  try clear p2
  obtain ⟨x8_1, x521000_1, u521000, rfl, HA, HK1, HO_521000, BK519, BK520, HB⟩ := hrel
  cases gk with
  | zero => exact absurd HA.out (by simp [mizmazetop_built.l0])
  | succ k1 =>
   have H := HA.out
   clear HA
   simp only [mizmazetop_built.l0] at H
   by_cases c6 : x8_1 < a0
   ·rw [if_pos c6] at H
    have c6b0 : decide (x8_1 < a0) = true := decide_eq_true c6
    clear c6
    have H' := Aside0.mk H
    clear H
    go_wp2
    go_loopg [9, 10] k1 (fun kq v9 v10 w' => ∃ (x9_2 : List (S44)) (x10_2 : Int), v10 = .int .i64 x10_2 ∧ Aside0 (mizmazetop_built.l1 kq a0 a1 l2 x8_1 x9_2 x10_2 x521000_1 = some r) ∧ Aside0 (kq ≤ k1) ∧ Aside0 (Kd.R k44 44 w' w.heap.size (fun _ => True) v9 x9_2) ∧ Aside0 (Kd.S (Kd.slice 44 k44) 40 w' w.heap.size (fun k_ => some k_ ≠ (v9 : Value).ownBlock) u521000 x521000_1) ∧ Aside0 (w'.heap[gb519]? = some (.cells #[(.slice none 0 0)] 38 (0, 0))) ∧ Aside0 (w'.heap[gb520]? = some (.cells #[u521000] 38 (0, 0))) ∧ Aside0 (Below w.heap.size w w'))
    case atStart => exact ⟨(([] : List (S44))), (0), (by first | rfl | (simp; done) | (simp [*]; done)), H', ⟨Nat.le_refl _⟩, ⟨by first | exact Kd.R_nil _ _ _ _ _ | exact Kd.N_nil _ _ _ _ _ | exact Kd.V_nil _ _ _ _ _ | exact Kd.Q_nil _ _ _ _ _ | exact Kd.S_nil _ _ _ _ _⟩, ⟨by (with_reducible repeat (first | apply Kd.S_alloc | apply Kd.S_drewN | apply Kd.S_drew)); exact Kd.S_mono HO_521000.out (fun _ hk => (by simp [Value.ownBlock]))⟩, ⟨by (with_reducible repeat (first | refine blk_drewN ?_ _ | refine blk_drew ?_ | refine blk_alloc ?_ _)); exact BK519.out⟩, ⟨by (with_reducible repeat (first | refine blk_drewN ?_ _ | refine blk_drew ?_ | refine blk_alloc ?_ _)); exact BK520.out⟩, ⟨by repeat (first | (with_reducible first | exact HB.out | apply below_alloc | apply pw_below_drewN | apply below_drew1 | refine below_set ?_ GE519.out | refine below_set ?_ GE520.out) | exact HB.out)⟩⟩
    case round =>
     clear H'
     try clear c2
     try clear p2
     try clear c6
     try clear c6b0
     try clear p2
     obtain ⟨x9_2, x10_2, rfl, HA, HK2, HO_9, HO_521000, BK519, BK520, HB⟩ := hrel
     cases gk with
     | zero => exact absurd HA.out (by simp [mizmazetop_built.l1])
     | succ k2 =>
      have H := HA.out
      clear HA
      simp only [mizmazetop_built.l1] at H
      by_cases c7 : x10_2 < a1
      ·rw [if_pos c7] at H
       have c7b0 : decide (x10_2 < a1) = true := decide_eq_true c7
       clear c7
       by_cases c8 : x9_2.length < 8796093022208
       rotate_left
       ·rw [if_neg c8] at H
        exact absurd H (by simp)
       rw [if_pos c8] at H
       have LMc8 := Aside0.mk c8
       clear c8
       obtain ⟨y521, hy521⟩ : ∃ y_ : List (S44), y_ = (x9_2 ++ [(⟨x8_1, x10_2⟩ : S44)]) := ⟨_, rfl⟩
       replace H : (mizmazetop_built.l1 k2 a0 a1 l2 x8_1 y521 (wrap64 (x10_2 + 1)) x521000_1) = some r := by first | (rw [hy521]; with_reducible exact H) | (have H2_ := (Option.bind_some _ _).symm.trans H; rw [hy521]; with_reducible exact H2_) | (have H2_ := (Option.bind_some _ _).symm.trans H; with_reducible exact H2_) | with_reducible exact H | (rw [hy521]; exact H) | exact H
       have Ny521 := Aside0.mk hy521
       clear hy521
       have H' := Aside0.mk H
       clear H
       go_wp2_with (first | ((with_reducible refine gate_builtin (b := .append) (xs := #[.tmp 26, .tmp 30]) rfl ?_); at_builtin; refine Kd.R_append k44 (w0 := w) w.heap.size rfl (.tmp 26) (.tmp 30) 40 44 (.agg #[(.int .i64 0), (.int .i64 0)]) 16 rfl Try.underlying40 info44 rfl (by decide) (by omega) u9 x9_2 (⟨x8_1, x10_2⟩ : S44) [.int .i64 x8_1, .int .i64 x10_2] (fun _ => True) (fun _ => False) rfl rfl ?aP (fun _ hk => hk.elim) ?aF ?aO ?aB ?aS ?aL ?_; (case aP => exact k44_mkM _ _ _ (⟨x8_1, x10_2⟩ : S44)); (case aB => exact (by repeat (first | (with_reducible first | exact HB.out | apply below_alloc | apply pw_below_drewN | apply below_drew1 | refine below_set ?_ GE519.out | refine below_set ?_ GE520.out) | exact HB.out))); (case aF => exact (fun _ _ => trivial)); (case aO => exact (by (with_reducible repeat (first | apply Kd.R_alloc | apply Kd.R_drewN | apply Kd.R_drew)); exact HO_9.out)); (case aS => exact (below_size (by repeat (first | (with_reducible first | exact HB.out | apply below_alloc | apply pw_below_drewN | apply below_drew1 | refine below_set ?_ GE519.out | refine below_set ?_ GE520.out) | exact HB.out)))); (case aL => have := LMc8.out; omega); intro v522 w9 ho hb hg hat; rw [← Ny521.out] at ho; have n0_ := Aside0.mk (Kd.S_after (ok := (fun _ => True)) (by (with_reducible repeat (first | apply Kd.S_alloc | apply Kd.S_drewN | apply Kd.S_drew)); exact Kd.S_mono HO_521000.out (fun _ hk => ⟨trivial, hk⟩)) hg hat); have n1_ := Aside0.mk (blk_grown (g := gb519) (o := .cells #[.slice none 0 0] 38 (0, 0)) (by (with_reducible repeat (first | refine blk_drewN ?_ _ | refine blk_drew ?_ | refine blk_alloc ?_ _)); exact BK519.out) hg (Kd.R_ne HO_9.out BK519.out (by decide))); have n2_ := Aside0.mk (blk_grown (g := gb520) (o := .cells #[u521000] 38 (0, 0)) (by (with_reducible repeat (first | refine blk_drewN ?_ _ | refine blk_drew ?_ | refine blk_alloc ?_ _)); exact BK520.out) hg (Kd.R_ne HO_9.out BK520.out (by decide))); have n3_ := Aside0.mk (hb); have n4_ := Aside0.mk (ho); clear HO_521000; clear BK519; clear BK520; clear HB; clear HO_9; have HO_521000 := n0_; have BK519 := n1_; have BK520 := n2_; have HB := n3_; have HO523 := n4_; clear n0_ n1_ n2_ n3_ n4_; clear ho hb hg hat))
       go_roundg k2
       case measure => have := HK1.out; have := HK2.out; omega
       case rel => exact ⟨(y521), (wrap64 (x10_2 + 1)), (by first | rfl | (simp; done) | (simp [*]; done)), H', ⟨by have := HK1.out; have := HK2.out; omega⟩, ⟨by (with_reducible repeat (first | apply Kd.R_alloc | apply Kd.R_drewN | apply Kd.R_drew)); exact HO523.out⟩, ⟨by (with_reducible repeat (first | apply Kd.S_alloc | apply Kd.S_drewN | apply Kd.S_drew)); exact Kd.S_mono HO_521000.out (fun _ hk => hk.2)⟩, ⟨by (with_reducible repeat (first | refine blk_drewN ?_ _ | refine blk_drew ?_ | refine blk_alloc ?_ _)); exact BK519.out⟩, ⟨by (with_reducible repeat (first | refine blk_drewN ?_ _ | refine blk_drew ?_ | refine blk_alloc ?_ _)); exact BK520.out⟩, ⟨by repeat (first | (with_reducible first | exact HB.out | apply below_alloc | apply pw_below_drewN | apply below_drew1 | refine below_set ?_ GE519.out | refine below_set ?_ GE520.out) | exact HB.out)⟩⟩
      rw [if_neg c7] at H
      have c7b0 : decide (x10_2 < a1) = false := decide_eq_false c7
      clear c7
      by_cases c10 : x521000_1.length < 5864062014805
      rotate_left
      ·rw [if_neg c10] at H
       exact absurd H (by simp)
      rw [if_pos c10] at H
      have LMc10 := Aside0.mk c10
      clear c10
      obtain ⟨y524, hy524⟩ : ∃ y_ : List (List (S44)), y_ = (x521000_1 ++ [x9_2]) := ⟨_, rfl⟩
      replace H : (mizmazetop_built.l0 k2 a0 a1 l2 (wrap64 (x8_1 + 1)) y524) = some r := by first | (rw [hy524]; with_reducible exact H) | (have H2_ := (Option.bind_some _ _).symm.trans H; rw [hy524]; with_reducible exact H2_) | (have H2_ := (Option.bind_some _ _).symm.trans H; with_reducible exact H2_) | with_reducible exact H | (rw [hy524]; exact H) | exact H
      have Ny524 := Aside0.mk hy524
      clear hy524
      have H' := Aside0.mk H
      clear H
      have hnb11 := NB520_519.out
      have hnc11 := NB519_520.out
      have hcz12_0 : wr.cell? ⟨gb520, 0, none⟩ = some (u521000) := (blk_cell BK520.out 0).trans rfl
      have hfz12_0 := blk_frozen BK520.out 0
      obtain ⟨Ao14, co14, eo14⟩ := Kd.R_slice HO_9.out
      subst eo14
      go_wp2_with (first | ((with_reducible refine gate_builtin (b := .append) (xs := #[.tmp 33, .tmp 35]) rfl ?_); at_builtin; refine Kd.S_append (Kd.slice 44 k44) (w0 := w) w.heap.size rfl (.tmp 33) (.tmp 35) 36 40 (.slice none 0 0) 24 rfl Try.underlying36 info40 rfl (by decide) (by omega) u521000 x521000_1 x9_2 [.slice Ao14 x9_2.length co14] (fun _ => True) (fun k_ => some k_ = (.slice Ao14 x9_2.length co14 : Value).ownBlock) rfl rfl ?aP (fun k_ hk_ => ((Kd.R_mono (ok' := fun k_ => ((fun _ => True)) k_ ∧ some k_ ≠ (u521000 : Value).ownBlock) (Kd.R_apart' (HO_9.out) (Kd.S_typed HO_521000.out) (by decide)) (fun k_ hk => ⟨trivial, hk.2⟩))).1 k_ hk_.symm) ?aF ?aO ?aB ?aS ?aL ?_; (case aP => exact Kd.M_row (Kd.R_mono (Kd.R_tight rfl (Kd.R_mono (ok' := fun k_ => ((fun _ => True)) k_ ∧ some k_ ≠ (u521000 : Value).ownBlock) (Kd.R_apart' (HO_9.out) (Kd.S_typed HO_521000.out) (by decide)) (fun k_ hk => ⟨trivial, hk.2⟩))) (fun _ h_ => h_))); (case aB => exact (by repeat (first | (with_reducible first | exact HB.out | apply below_alloc | apply pw_below_drewN | apply below_drew1 | refine below_set ?_ GE519.out | refine below_set ?_ GE520.out) | exact HB.out))); (case aF => exact (fun _ _ => trivial)); (case aO => exact (by (with_reducible repeat (first | apply Kd.S_alloc | apply Kd.S_drewN | apply Kd.S_drew)); exact Kd.S_mono HO_521000.out (fun k_ hk => ⟨trivial, fun e_ => hk e_⟩))); (case aS => exact (below_size (by repeat (first | (with_reducible first | exact HB.out | apply below_alloc | apply pw_below_drewN | apply below_drew1 | refine below_set ?_ GE519.out | refine below_set ?_ GE520.out) | exact HB.out)))); (case aL => have := LMc10.out; omega); intro v525 w13 ho hb hg hat; rw [← Ny524.out] at ho; have n0_ := Aside0.mk (blk_grown (g := gb519) (o := .cells #[.slice none 0 0] 38 (0, 0)) (by (with_reducible repeat (first | refine blk_drewN ?_ _ | refine blk_drew ?_ | refine blk_alloc ?_ _)); exact BK519.out) hg (Kd.S_ne HO_521000.out BK519.out (by decide))); have n1_ := Aside0.mk (blk_grown (g := gb520) (o := .cells #[u521000] 38 (0, 0)) (by (with_reducible repeat (first | refine blk_drewN ?_ _ | refine blk_drew ?_ | refine blk_alloc ?_ _)); exact BK520.out) hg (Kd.S_ne HO_521000.out BK520.out (by decide))); have n2_ := Aside0.mk (hb); have n3_ := Aside0.mk (ho); clear BK519; clear BK520; clear HB; clear HO_521000; clear HO_9; have BK519 := n0_; have BK520 := n1_; have HB := n2_; have HO526 := n3_; clear n0_ n1_ n2_ n3_; clear ho hb hg hat; obtain ⟨Ao15, co15, eo15⟩ := Kd.S_slice HO526.out; subst eo15; have hcz16_0 : w13.cell? ⟨gb520, 0, none⟩ = some (u521000) := (blk_cell BK520.out 0).trans rfl; have hfz16_0 := blk_frozen BK520.out 0))
      go_roundg k2
      case measure => have := HK1.out; have := HK2.out; omega
      case rel => exact ⟨(wrap64 (x8_1 + 1)), (y524), (.slice Ao15 y524.length co15), (by first | rfl | (simp; done) | (simp [*]; done)), H', ⟨by have := HK1.out; have := HK2.out; omega⟩, ⟨by (with_reducible repeat (first | apply Kd.S_alloc | apply Kd.S_drewN | apply Kd.S_drew)); exact Kd.S_mono (Kd.S_far (p := ⟨gb520, 0, none⟩) (Kd.S_types HO526.out BK520.out (by decide)) (fun _ hk => hk.2) (.slice Ao15 y524.length co15)) (fun _ hk => trivial)⟩, ⟨by (with_reducible repeat (first | refine blk_drewN ?_ _ | refine blk_drew ?_ | refine blk_alloc ?_ _)); refine blk_far ?_ NB519_520.out _; (with_reducible repeat (first | refine blk_drewN ?_ _ | refine blk_drew ?_ | refine blk_alloc ?_ _)); exact BK519.out⟩, ⟨by (with_reducible repeat (first | refine blk_drewN ?_ _ | refine blk_drew ?_ | refine blk_alloc ?_ _)); refine blk_put (cs := #[u521000]) ?_ 0 _ rfl; (with_reducible repeat (first | refine blk_drewN ?_ _ | refine blk_drew ?_ | refine blk_alloc ?_ _)); exact BK520.out⟩, ⟨by repeat (first | (with_reducible first | exact HB.out | apply below_alloc | apply pw_below_drewN | apply below_drew1 | refine below_set ?_ GE519.out | refine below_set ?_ GE520.out) | exact HB.out)⟩⟩
   rw [if_neg c6] at H
   have c6b0 : decide (x8_1 < a0) = false := decide_eq_false c6
   clear c6
   have H' := Aside0.mk H
   clear H
   go_wp2
   go_loopg [11] k1 (fun kq v11 w' => ∃ (x11_2 : Int) (x521000_2 : List (List (S44))) (u521000 : Value), v11 = .int .i64 x11_2 ∧ Aside0 (mizmazetop_built.l2 kq a0 a1 l2 x11_2 x521000_2 = some r) ∧ Aside0 (kq ≤ k1) ∧ Aside0 (Kd.S (Kd.slice 44 k44) 40 w' w.heap.size (fun _ => True) u521000 x521000_2) ∧ Aside0 (w'.heap[gb519]? = some (.cells #[(.slice none 0 0)] 38 (0, 0))) ∧ Aside0 (w'.heap[gb520]? = some (.cells #[u521000] 38 (0, 0))) ∧ Aside0 (Below w.heap.size w w'))
   case atStart => exact ⟨(0), (x521000_1), (u521000), (by first | rfl | (simp; done) | (simp [*]; done)), H', ⟨Nat.le_refl _⟩, ⟨by (with_reducible repeat (first | apply Kd.S_alloc | apply Kd.S_drewN | apply Kd.S_drew)); exact HO_521000.out⟩, ⟨by (with_reducible repeat (first | refine blk_drewN ?_ _ | refine blk_drew ?_ | refine blk_alloc ?_ _)); exact BK519.out⟩, ⟨by (with_reducible repeat (first | refine blk_drewN ?_ _ | refine blk_drew ?_ | refine blk_alloc ?_ _)); exact BK520.out⟩, ⟨by repeat (first | (with_reducible first | exact HB.out | apply below_alloc | apply pw_below_drewN | apply below_drew1 | refine below_set ?_ GE519.out | refine below_set ?_ GE520.out) | exact HB.out)⟩⟩
   case round =>
    clear H'
    try clear c1
    try clear c2
    try clear p2
    try clear c6
    try clear c6b0
    try clear p6
    try clear c7
    try clear c7b0
    try clear c8
    try clear c10
    try clear c11
    try clear hcz12_0
    try clear hcz16_0
    try clear hfz12_0
    try clear hfz16_0
    try clear p2
    obtain ⟨x11_2, x521000_2, u521000, rfl, HA, HK2, HO_521000, BK519, BK520, HB⟩ := hrel
    cases gk with
    | zero => exact absurd HA.out (by simp [mizmazetop_built.l2])
    | succ k2 =>
     have H := HA.out
     clear HA
     simp only [mizmazetop_built.l2] at H
     have HC17 := Aside0.mk H
     clear H
     go_upto_region 12 with (fail)
     go_cut [46] (fun v46 wc => ∃ (kq : Nat) (x46_16 : Bool), v46 = .bool x46_16 ∧ Aside0 (mizmazetop_built.j3 kq a0 a1 l2 x11_2 x46_16 x521000_2 = some r) ∧ Aside0 (kq ≤ k2) ∧ Aside0 (Kd.S (Kd.slice 44 k44) 40 wc w.heap.size (fun _ => True) u521000 x521000_2) ∧ Aside0 (wc.heap[gb519]? = some (.cells #[(.slice none 0 0)] 38 (0, 0))) ∧ Aside0 (wc.heap[gb520]? = some (.cells #[u521000] 38 (0, 0))) ∧ Aside0 (Below w.heap.size w wc))
     case first =>
      have H := HC17.out
      clear HC17
      by_cases c18 : (wrap64 (x11_2 + 1)) < (l2.length : Int)
      ·rw [if_pos c18] at H
       have c18b0 : decide ((wrap64 (x11_2 + 1)) < (l2.length : Int)) = true := decide_eq_true c18
       clear c18
       (first | rw [c18b0] | (simp only [i64_w, i32_w]; rw [c18b0]) | skip)
       have H' := Aside0.mk H
       clear H
       go_wp2
       go_meet
       case rel => exact ⟨_, (decide (x11_2 < 100)), (by first | rfl | (simp; done) | (simp [*]; done)), H', ⟨by have := HK1.out; have := HK2.out; first | omega | exact Nat.le_refl _⟩, ⟨by (with_reducible repeat (first | apply Kd.S_alloc | apply Kd.S_drewN | apply Kd.S_drew)); exact HO_521000.out⟩, ⟨by (with_reducible repeat (first | refine blk_drewN ?_ _ | refine blk_drew ?_ | refine blk_alloc ?_ _)); exact BK519.out⟩, ⟨by (with_reducible repeat (first | refine blk_drewN ?_ _ | refine blk_drew ?_ | refine blk_alloc ?_ _)); exact BK520.out⟩, ⟨by repeat (first | (with_reducible first | exact HB.out | apply below_alloc | apply pw_below_drewN | apply below_drew1 | refine below_set ?_ GE519.out | refine below_set ?_ GE520.out) | exact HB.out)⟩⟩
      rw [if_neg c18] at H
      have c18b0 : decide ((wrap64 (x11_2 + 1)) < (l2.length : Int)) = false := decide_eq_false c18
      clear c18
      (first | rw [c18b0] | (simp only [i64_w, i32_w]; rw [c18b0]) | skip)
      have H' := Aside0.mk H
      clear H
      go_wp2
      go_meet
      case rel => exact ⟨_, (false), (by first | rfl | (simp; done) | (simp [*]; done)), H', ⟨by have := HK1.out; have := HK2.out; first | omega | exact Nat.le_refl _⟩, ⟨by (with_reducible repeat (first | apply Kd.S_alloc | apply Kd.S_drewN | apply Kd.S_drew)); exact HO_521000.out⟩, ⟨by (with_reducible repeat (first | refine blk_drewN ?_ _ | refine blk_drew ?_ | refine blk_alloc ?_ _)); exact BK519.out⟩, ⟨by (with_reducible repeat (first | refine blk_drewN ?_ _ | refine blk_drew ?_ | refine blk_alloc ?_ _)); exact BK520.out⟩, ⟨by repeat (first | (with_reducible first | exact HB.out | apply below_alloc | apply pw_below_drewN | apply below_drew1 | refine below_set ?_ GE519.out | refine below_set ?_ GE520.out) | exact HB.out)⟩⟩
     case rest =>
      clear HC17
      try clear c1
      try clear c2
      try clear p2
      try clear c6
      try clear c6b0
      try clear p6
      try clear c7
      try clear c7b0
      try clear c8
      try clear c10
      try clear c11
      try clear c18
      try clear c18b0
      try clear hcz12_0
      try clear hcz16_0
      try clear hfz12_0
      try clear hfz16_0
      try clear p2
      try clear p6
      obtain ⟨kq, x46_16, rfl, HA, HJ16, HO_521000, BK519, BK520, HB⟩ := hcut
      cases kq with
      | zero => exact absurd HA.out (by simp [mizmazetop_built.j3])
      | succ kj16 =>
       have H := HA.out
       clear HA
       simp only [mizmazetop_built.j3] at H
       by_cases c19 : x46_16 = true
       rotate_left
       ·replace c19 := Bool.eq_false_iff.mpr c19
        subst c19
        have H1 : (some x521000_2) = some r := by rw [if_neg (show ¬ (false = true) by decide)] at H; exact H
        clear H
        have H := H1
        clear H1
        obtain rfl := Option.some.inj H
        have hnb97 := NB520_519.out
        have hnc97 := NB519_520.out
        have hcz98_0 : wc.cell? ⟨gb520, 0, none⟩ = some (u521000) := (blk_cell BK520.out 0).trans rfl
        have hfz98_0 := blk_frozen BK520.out 0
        obtain ⟨Ao99, co99, eo99⟩ := Kd.S_slice HO_521000.out
        subst eo99
        have hcz100_0 : wc.cell? ⟨gb519, 0, none⟩ = some (.slice none 0 0) := (blk_cell BK519.out 0).trans rfl
        have hfz100_0 := blk_frozen BK519.out 0
        go_wp2
        refine bodyPost_ret (results_cell_row rfl _ _ gb519 38 #[.slice Ao99 x521000_2.length co99] (0, 0) _ rfl (by (with_reducible repeat (first | refine blk_drewN ?_ _ | refine blk_drew ?_ | refine blk_alloc ?_ _)); refine blk_put (cs := #[.slice none 0 0]) ?_ 0 _ rfl; (with_reducible repeat (first | refine blk_drewN ?_ _ | refine blk_drew ?_ | refine blk_alloc ?_ _)); exact BK519.out) Try.underlying38 rfl (by kernel_rfl)) rfl ?_
        exact ⟨_, by first | rfl | (simp [errW_none, errW_some] <;> rfl) | (simp [*, errW_none, errW_some] <;> rfl), by (with_reducible repeat (first | apply Kd.S_alloc | apply Kd.S_drewN | apply Kd.S_drew)); exact Kd.S_mono (Kd.S_far (p := ⟨gb519, 0, none⟩) (Kd.S_types HO_521000.out BK519.out (by decide)) (fun _ hk => hk.2) (.slice Ao99 x521000_2.length co99)) (fun _ hk => trivial), by repeat (first | (with_reducible first | exact HB.out | apply below_alloc | apply pw_below_drewN | apply below_drew1 | refine below_set ?_ GE519.out | refine below_set ?_ GE520.out) | exact HB.out)⟩

       subst c19
       have H1 : (if 0 ≤ x11_2 then (if x11_2 < (l2.length : Int) then ((mizmazetop_cycle.f (rd l2 x11_2) (wrap64 (a0 * a1))).bind fun t528 => (if 0 ≤ (wrap64 (x11_2 + 1)) then (if (wrap64 (x11_2 + 1)) < (l2.length : Int) then ((mizmazetop_cycle.f (rd l2 (wrap64 (x11_2 + 1))) (wrap64 (a0 * a1))).bind fun t530 => (if a1 = 0 then (none) else (if 0 ≤ (wrap64 (Int.tdiv t528 a1)) then (if (wrap64 (Int.tdiv t528 a1)) < (x521000_2.length : Int) then (if 0 ≤ (Int.tmod t528 a1) then (if (Int.tmod t528 a1) < ((rd_L4 x521000_2 (wrap64 (Int.tdiv t528 a1))).length : Int) then (if (((rd_T44 (rd_L4 x521000_2 (wrap64 (Int.tdiv t528 a1))) (Int.tmod t528 a1)).f0) == (wrap64 (Int.tdiv t528 a1)) && (((rd_T44 (rd_L4 x521000_2 (wrap64 (Int.tdiv t528 a1))) (Int.tmod t528 a1)).f1) == (Int.tmod t528 a1))) = true then (if 0 ≤ (wrap64 (Int.tdiv t530 a1)) then (if (wrap64 (Int.tdiv t530 a1)) < (x521000_2.length : Int) then (if 0 ≤ (Int.tmod t530 a1) then (if (Int.tmod t530 a1) < ((rd_L4 x521000_2 (wrap64 (Int.tdiv t530 a1))).length : Int) then (if (((rd_T44 (rd_L4 x521000_2 (wrap64 (Int.tdiv t530 a1))) (Int.tmod t530 a1)).f0) == (wrap64 (Int.tdiv t530 a1)) && (((rd_T44 (rd_L4 x521000_2 (wrap64 (Int.tdiv t530 a1))) (Int.tmod t530 a1)).f1) == (Int.tmod t530 a1))) = true then ((some (x521000_2.set ((wrap64 (Int.tdiv t528 a1)) : Int).toNat ((rd_L4 x521000_2 (wrap64 (Int.tdiv t528 a1))).set ((Int.tmod t528 a1) : Int).toNat (⟨wrap64 (Int.tdiv t530 a1), Int.tmod t530 a1⟩ : S44)) : List (List (S44)))).bind fun y540 => (if (Int.tmod t530 a1) < ((rd_L4 y540 (wrap64 (Int.tdiv t530 a1))).length : Int) then (mizmazetop_built.l2 kj16 a0 a1 l2 (wrap64 (x11_2 + 2)) (y540.set ((wrap64 (Int.tdiv t530 a1)) : Int).toNat ((rd_L4 y540 (wrap64 (Int.tdiv t530 a1))).set ((Int.tmod t530 a1) : Int).toNat (⟨wrap64 (Int.tdiv t528 a1), Int.tmod t528 a1⟩ : S44)))) else (none))) else (mizmazetop_built.l2 kj16 a0 a1 l2 (wrap64 (x11_2 + 2)) x521000_2)) else (none)) else (none)) else (none)) else (none)) else (mizmazetop_built.l2 kj16 a0 a1 l2 (wrap64 (x11_2 + 2)) x521000_2)) else (none)) else (none)) else (none)) else (none)))) else (none)) else (none))) else (none)) else (none)) = some r := by rw [if_pos rfl] at H; exact H
       clear H
       have H := H1
       clear H1
       by_cases c20 : 0 ≤ x11_2
       rotate_left
       ·rw [if_neg c20] at H
        exact absurd H (by simp)
       rw [if_pos c20] at H
       have c20b0 : decide (0 ≤ x11_2) = true := decide_eq_true c20
       clear c20
       by_cases c21 : x11_2 < (l2.length : Int)
       rotate_left
       ·rw [if_neg c21] at H
        exact absurd H (by simp)
       rw [if_pos c21] at H
       have c21b0 : decide (x11_2 < (l2.length : Int)) = true := decide_eq_true c21
       clear c21
       replace H := Option.bind_eq_some_iff.mp H
       obtain ⟨t528, A220, H⟩ := H
       replace H : (if 0 ≤ (wrap64 (x11_2 + 1)) then (if (wrap64 (x11_2 + 1)) < (l2.length : Int) then ((mizmazetop_cycle.f (rd l2 (wrap64 (x11_2 + 1))) (wrap64 (a0 * a1))).bind fun t530 => (if a1 = 0 then (none) else (if 0 ≤ (wrap64 (Int.tdiv t528 a1)) then (if (wrap64 (Int.tdiv t528 a1)) < (x521000_2.length : Int) then (if 0 ≤ (Int.tmod t528 a1) then (if (Int.tmod t528 a1) < ((rd_L4 x521000_2 (wrap64 (Int.tdiv t528 a1))).length : Int) then (if (((rd_T44 (rd_L4 x521000_2 (wrap64 (Int.tdiv t528 a1))) (Int.tmod t528 a1)).f0) == (wrap64 (Int.tdiv t528 a1)) && (((rd_T44 (rd_L4 x521000_2 (wrap64 (Int.tdiv t528 a1))) (Int.tmod t528 a1)).f1) == (Int.tmod t528 a1))) = true then (if 0 ≤ (wrap64 (Int.tdiv t530 a1)) then (if (wrap64 (Int.tdiv t530 a1)) < (x521000_2.length : Int) then (if 0 ≤ (Int.tmod t530 a1) then (if (Int.tmod t530 a1) < ((rd_L4 x521000_2 (wrap64 (Int.tdiv t530 a1))).length : Int) then (if (((rd_T44 (rd_L4 x521000_2 (wrap64 (Int.tdiv t530 a1))) (Int.tmod t530 a1)).f0) == (wrap64 (Int.tdiv t530 a1)) && (((rd_T44 (rd_L4 x521000_2 (wrap64 (Int.tdiv t530 a1))) (Int.tmod t530 a1)).f1) == (Int.tmod t530 a1))) = true then ((some (x521000_2.set ((wrap64 (Int.tdiv t528 a1)) : Int).toNat ((rd_L4 x521000_2 (wrap64 (Int.tdiv t528 a1))).set ((Int.tmod t528 a1) : Int).toNat (⟨wrap64 (Int.tdiv t530 a1), Int.tmod t530 a1⟩ : S44)) : List (List (S44)))).bind fun y540 => (if (Int.tmod t530 a1) < ((rd_L4 y540 (wrap64 (Int.tdiv t530 a1))).length : Int) then (mizmazetop_built.l2 kj16 a0 a1 l2 (wrap64 (x11_2 + 2)) (y540.set ((wrap64 (Int.tdiv t530 a1)) : Int).toNat ((rd_L4 y540 (wrap64 (Int.tdiv t530 a1))).set ((Int.tmod t530 a1) : Int).toNat (⟨wrap64 (Int.tdiv t528 a1), Int.tmod t528 a1⟩ : S44)))) else (none))) else (mizmazetop_built.l2 kj16 a0 a1 l2 (wrap64 (x11_2 + 2)) x521000_2)) else (none)) else (none)) else (none)) else (none)) else (mizmazetop_built.l2 kj16 a0 a1 l2 (wrap64 (x11_2 + 2)) x521000_2)) else (none)) else (none)) else (none)) else (none)))) else (none)) else (none)) = some r := H
       have A22 := Aside0.mk A220
       clear A220
       obtain ⟨ji23, hji23⟩ : ∃ j_ : Int, (wrap64 (x11_2 + 1)) = j_ := ⟨_, rfl⟩
       replace H : (if 0 ≤ (ji23) then (if (ji23) < (l2.length : Int) then ((mizmazetop_cycle.f (rd l2 (ji23)) (wrap64 (a0 * a1))).bind fun t530 => (if a1 = 0 then (none) else (if 0 ≤ (wrap64 (Int.tdiv t528 a1)) then (if (wrap64 (Int.tdiv t528 a1)) < (x521000_2.length : Int) then (if 0 ≤ (Int.tmod t528 a1) then (if (Int.tmod t528 a1) < ((rd_L4 x521000_2 (wrap64 (Int.tdiv t528 a1))).length : Int) then (if (((rd_T44 (rd_L4 x521000_2 (wrap64 (Int.tdiv t528 a1))) (Int.tmod t528 a1)).f0) == (wrap64 (Int.tdiv t528 a1)) && (((rd_T44 (rd_L4 x521000_2 (wrap64 (Int.tdiv t528 a1))) (Int.tmod t528 a1)).f1) == (Int.tmod t528 a1))) = true then (if 0 ≤ (wrap64 (Int.tdiv t530 a1)) then (if (wrap64 (Int.tdiv t530 a1)) < (x521000_2.length : Int) then (if 0 ≤ (Int.tmod t530 a1) then (if (Int.tmod t530 a1) < ((rd_L4 x521000_2 (wrap64 (Int.tdiv t530 a1))).length : Int) then (if (((rd_T44 (rd_L4 x521000_2 (wrap64 (Int.tdiv t530 a1))) (Int.tmod t530 a1)).f0) == (wrap64 (Int.tdiv t530 a1)) && (((rd_T44 (rd_L4 x521000_2 (wrap64 (Int.tdiv t530 a1))) (Int.tmod t530 a1)).f1) == (Int.tmod t530 a1))) = true then ((some (x521000_2.set ((wrap64 (Int.tdiv t528 a1)) : Int).toNat ((rd_L4 x521000_2 (wrap64 (Int.tdiv t528 a1))).set ((Int.tmod t528 a1) : Int).toNat (⟨wrap64 (Int.tdiv t530 a1), Int.tmod t530 a1⟩ : S44)) : List (List (S44)))).bind fun y540 => (if (Int.tmod t530 a1) < ((rd_L4 y540 (wrap64 (Int.tdiv t530 a1))).length : Int) then (mizmazetop_built.l2 kj16 a0 a1 l2 (wrap64 (x11_2 + 2)) (y540.set ((wrap64 (Int.tdiv t530 a1)) : Int).toNat ((rd_L4 y540 (wrap64 (Int.tdiv t530 a1))).set ((Int.tmod t530 a1) : Int).toNat (⟨wrap64 (Int.tdiv t528 a1), Int.tmod t528 a1⟩ : S44)))) else (none))) else (mizmazetop_built.l2 kj16 a0 a1 l2 (wrap64 (x11_2 + 2)) x521000_2)) else (none)) else (none)) else (none)) else (none)) else (mizmazetop_built.l2 kj16 a0 a1 l2 (wrap64 (x11_2 + 2)) x521000_2)) else (none)) else (none)) else (none)) else (none)))) else (none)) else (none)) = some r := by first | (rw [hji23] at H; exact H) | (simp only [hji23] at H ⊢; exact H)
       (try rw [hji23] at A22)
       have hji23w : (IntKind.i64.wrap (x11_2 + 1)) = ji23 := (i64_w _).trans hji23
       by_cases c24 : 0 ≤ (ji23)
       rotate_left
       ·rw [if_neg c24] at H
        exact absurd H (by simp)
       rw [if_pos c24] at H
       have c24b0 : decide (0 ≤ (ji23)) = true := decide_eq_true c24
       clear c24
       by_cases c25 : (ji23) < (l2.length : Int)
       rotate_left
       ·rw [if_neg c25] at H
        exact absurd H (by simp)
       rw [if_pos c25] at H
       have c25b0 : decide ((ji23) < (l2.length : Int)) = true := decide_eq_true c25
       clear c25
       replace H := Option.bind_eq_some_iff.mp H
       obtain ⟨t530, A260, H⟩ := H
       replace H : (if a1 = 0 then (none) else (if 0 ≤ (wrap64 (Int.tdiv t528 a1)) then (if (wrap64 (Int.tdiv t528 a1)) < (x521000_2.length : Int) then (if 0 ≤ (Int.tmod t528 a1) then (if (Int.tmod t528 a1) < ((rd_L4 x521000_2 (wrap64 (Int.tdiv t528 a1))).length : Int) then (if (((rd_T44 (rd_L4 x521000_2 (wrap64 (Int.tdiv t528 a1))) (Int.tmod t528 a1)).f0) == (wrap64 (Int.tdiv t528 a1)) && (((rd_T44 (rd_L4 x521000_2 (wrap64 (Int.tdiv t528 a1))) (Int.tmod t528 a1)).f1) == (Int.tmod t528 a1))) = true then (if 0 ≤ (wrap64 (Int.tdiv t530 a1)) then (if (wrap64 (Int.tdiv t530 a1)) < (x521000_2.length : Int) then (if 0 ≤ (Int.tmod t530 a1) then (if (Int.tmod t530 a1) < ((rd_L4 x521000_2 (wrap64 (Int.tdiv t530 a1))).length : Int) then (if (((rd_T44 (rd_L4 x521000_2 (wrap64 (Int.tdiv t530 a1))) (Int.tmod t530 a1)).f0) == (wrap64 (Int.tdiv t530 a1)) && (((rd_T44 (rd_L4 x521000_2 (wrap64 (Int.tdiv t530 a1))) (Int.tmod t530 a1)).f1) == (Int.tmod t530 a1))) = true then ((some (x521000_2.set ((wrap64 (Int.tdiv t528 a1)) : Int).toNat ((rd_L4 x521000_2 (wrap64 (Int.tdiv t528 a1))).set ((Int.tmod t528 a1) : Int).toNat (⟨wrap64 (Int.tdiv t530 a1), Int.tmod t530 a1⟩ : S44)) : List (List (S44)))).bind fun y540 => (if (Int.tmod t530 a1) < ((rd_L4 y540 (wrap64 (Int.tdiv t530 a1))).length : Int) then (mizmazetop_built.l2 kj16 a0 a1 l2 (wrap64 (x11_2 + 2)) (y540.set ((wrap64 (Int.tdiv t530 a1)) : Int).toNat ((rd_L4 y540 (wrap64 (Int.tdiv t530 a1))).set ((Int.tmod t530 a1) : Int).toNat (⟨wrap64 (Int.tdiv t528 a1), Int.tmod t528 a1⟩ : S44)))) else (none))) else (mizmazetop_built.l2 kj16 a0 a1 l2 (wrap64 (x11_2 + 2)) x521000_2)) else (none)) else (none)) else (none)) else (none)) else (mizmazetop_built.l2 kj16 a0 a1 l2 (wrap64 (x11_2 + 2)) x521000_2)) else (none)) else (none)) else (none)) else (none))) = some r := H
       have A26 := Aside0.mk A260
       clear A260
       by_cases c27 : a1 = 0
       ·rw [if_pos c27] at H
        exact absurd H (by simp)
       rw [if_neg c27] at H
       have c27b0 : (a1 == 0) = false := beq_eq_false_iff_ne.mpr c27
       have c27b1 : (a1 != 0) = true := bne_iff_ne.mpr c27
       obtain ⟨ji28, hji28⟩ : ∃ j_ : Int, (wrap64 (Int.tdiv t528 a1)) = j_ := ⟨_, rfl⟩
       replace H : (if 0 ≤ (ji28) then (if (ji28) < (x521000_2.length : Int) then (if 0 ≤ (Int.tmod t528 a1) then (if (Int.tmod t528 a1) < ((rd_L4 x521000_2 (ji28)).length : Int) then (if (((rd_T44 (rd_L4 x521000_2 (ji28)) (Int.tmod t528 a1)).f0) == (ji28) && (((rd_T44 (rd_L4 x521000_2 (ji28)) (Int.tmod t528 a1)).f1) == (Int.tmod t528 a1))) = true then (if 0 ≤ (wrap64 (Int.tdiv t530 a1)) then (if (wrap64 (Int.tdiv t530 a1)) < (x521000_2.length : Int) then (if 0 ≤ (Int.tmod t530 a1) then (if (Int.tmod t530 a1) < ((rd_L4 x521000_2 (wrap64 (Int.tdiv t530 a1))).length : Int) then (if (((rd_T44 (rd_L4 x521000_2 (wrap64 (Int.tdiv t530 a1))) (Int.tmod t530 a1)).f0) == (wrap64 (Int.tdiv t530 a1)) && (((rd_T44 (rd_L4 x521000_2 (wrap64 (Int.tdiv t530 a1))) (Int.tmod t530 a1)).f1) == (Int.tmod t530 a1))) = true then ((some (x521000_2.set ((ji28) : Int).toNat ((rd_L4 x521000_2 (ji28)).set ((Int.tmod t528 a1) : Int).toNat (⟨wrap64 (Int.tdiv t530 a1), Int.tmod t530 a1⟩ : S44)) : List (List (S44)))).bind fun y540 => (if (Int.tmod t530 a1) < ((rd_L4 y540 (wrap64 (Int.tdiv t530 a1))).length : Int) then (mizmazetop_built.l2 kj16 a0 a1 l2 (wrap64 (x11_2 + 2)) (y540.set ((wrap64 (Int.tdiv t530 a1)) : Int).toNat ((rd_L4 y540 (wrap64 (Int.tdiv t530 a1))).set ((Int.tmod t530 a1) : Int).toNat (⟨ji28, Int.tmod t528 a1⟩ : S44)))) else (none))) else (mizmazetop_built.l2 kj16 a0 a1 l2 (wrap64 (x11_2 + 2)) x521000_2)) else (none)) else (none)) else (none)) else (none)) else (mizmazetop_built.l2 kj16 a0 a1 l2 (wrap64 (x11_2 + 2)) x521000_2)) else (none)) else (none)) else (none)) else (none)) = some r := by first | (rw [hji28] at H; exact H) | (simp only [hji28] at H ⊢; exact H)
       (try rw [hji28] at A22)
       (try rw [hji28] at A26)
       have hji28w : (IntKind.i64.wrap (Int.tdiv t528 a1)) = ji28 := (i64_w _).trans hji28
       by_cases c29 : 0 ≤ (ji28)
       rotate_left
       ·rw [if_neg c29] at H
        exact absurd H (by simp)
       rw [if_pos c29] at H
       have c29b0 : decide (0 ≤ (ji28)) = true := decide_eq_true c29
       clear c29
       by_cases c30 : (ji28) < (x521000_2.length : Int)
       rotate_left
       ·rw [if_neg c30] at H
        exact absurd H (by simp)
       rw [if_pos c30] at H
       have c30b0 : decide ((ji28) < (x521000_2.length : Int)) = true := decide_eq_true c30
       clear c30
       obtain ⟨ji31, hji31⟩ : ∃ j_ : Int, (Int.tmod t528 a1) = j_ := ⟨_, rfl⟩
       replace H : (if 0 ≤ (ji31) then (if (ji31) < ((rd_L4 x521000_2 (ji28)).length : Int) then (if (((rd_T44 (rd_L4 x521000_2 (ji28)) (ji31)).f0) == (ji28) && (((rd_T44 (rd_L4 x521000_2 (ji28)) (ji31)).f1) == (ji31))) = true then (if 0 ≤ (wrap64 (Int.tdiv t530 a1)) then (if (wrap64 (Int.tdiv t530 a1)) < (x521000_2.length : Int) then (if 0 ≤ (Int.tmod t530 a1) then (if (Int.tmod t530 a1) < ((rd_L4 x521000_2 (wrap64 (Int.tdiv t530 a1))).length : Int) then (if (((rd_T44 (rd_L4 x521000_2 (wrap64 (Int.tdiv t530 a1))) (Int.tmod t530 a1)).f0) == (wrap64 (Int.tdiv t530 a1)) && (((rd_T44 (rd_L4 x521000_2 (wrap64 (Int.tdiv t530 a1))) (Int.tmod t530 a1)).f1) == (Int.tmod t530 a1))) = true then ((some (x521000_2.set ((ji28) : Int).toNat ((rd_L4 x521000_2 (ji28)).set ((ji31) : Int).toNat (⟨wrap64 (Int.tdiv t530 a1), Int.tmod t530 a1⟩ : S44)) : List (List (S44)))).bind fun y540 => (if (Int.tmod t530 a1) < ((rd_L4 y540 (wrap64 (Int.tdiv t530 a1))).length : Int) then (mizmazetop_built.l2 kj16 a0 a1 l2 (wrap64 (x11_2 + 2)) (y540.set ((wrap64 (Int.tdiv t530 a1)) : Int).toNat ((rd_L4 y540 (wrap64 (Int.tdiv t530 a1))).set ((Int.tmod t530 a1) : Int).toNat (⟨ji28, ji31⟩ : S44)))) else (none))) else (mizmazetop_built.l2 kj16 a0 a1 l2 (wrap64 (x11_2 + 2)) x521000_2)) else (none)) else (none)) else (none)) else (none)) else (mizmazetop_built.l2 kj16 a0 a1 l2 (wrap64 (x11_2 + 2)) x521000_2)) else (none)) else (none)) = some r := by first | (rw [hji31] at H; exact H) | (simp only [hji31] at H ⊢; exact H)
       (try rw [hji31] at A22)
       (try rw [hji31] at A26)
       by_cases c32 : 0 ≤ (ji31)
       rotate_left
       ·rw [if_neg c32] at H
        exact absurd H (by simp)
       rw [if_pos c32] at H
       have c32b0 : decide (0 ≤ (ji31)) = true := decide_eq_true c32
       clear c32
       by_cases c33 : (ji31) < ((rd_L4 x521000_2 (ji28)).length : Int)
       rotate_left
       ·rw [if_neg c33] at H
        exact absurd H (by simp)
       rw [if_pos c33] at H
       have c33b0 : decide ((ji31) < ((rd_L4 x521000_2 (ji28)).length : Int)) = true := decide_eq_true c33
       clear c33
       by_cases c34 : (((rd_T44 (rd_L4 x521000_2 (ji28)) (ji31)).f0) == (ji28) && (((rd_T44 (rd_L4 x521000_2 (ji28)) (ji31)).f1) == (ji31))) = true
       rotate_left
       ·rw [if_neg c34] at H
        have c34b0 : (((rd_T44 (rd_L4 x521000_2 (ji28)) (ji31)).f0) == (ji28) && (((rd_T44 (rd_L4 x521000_2 (ji28)) (ji31)).f1) == (ji31))) = false := by simpa using c34
        (try (have c34b1 : decide (((rd_T44 (rd_L4 x521000_2 (ji28)) (ji31)).f0) = (ji28) && (((rd_T44 (rd_L4 x521000_2 (ji28)) (ji31)).f1) == (ji31))) = false := by simpa using c34))
        (try (have c34b2 : (((rd_T44 (rd_L4 x521000_2 (ji28)) (ji31)).f0) == (ji28) && (((rd_T44 (rd_L4 x521000_2 (ji28)) (ji31)).f1) == (ji31))) = false := by simpa using c34))
        (try (have c34b3 : ¬ (((rd_T44 (rd_L4 x521000_2 (ji28)) (ji31)).f0) = (ji28) && (((rd_T44 (rd_L4 x521000_2 (ji28)) (ji31)).f1) == (ji31))) := by simpa using c34))
        clear c34
        have H' := Aside0.mk H
        clear H
        try go_wp2
        have n0_ := Aside0.mk (Kd.S_drew HO_521000.out)
        have n1_ := Aside0.mk (blk_drew BK519.out)
        have n2_ := Aside0.mk (blk_drew BK520.out)
        have n3_ := Aside0.mk (below_drew1 HB.out)
        clear HO_521000
        clear BK519
        clear BK520
        clear HB
        have HO_521000 := n0_
        have BK519 := n1_
        have BK520 := n2_
        have HB := n3_
        clear n0_ n1_ n2_ n3_
        have p527 : 0 ≤ (x11_2 : Int) := of_decide_eq_true (by first | (with_reducible assumption) | assumption)
        have q527 : x11_2 < (l2.length : Int) := of_decide_eq_true (by first | (with_reducible assumption) | assumption)
        obtain ⟨ad527, e527, hx527_0⟩ := Kd.at_int HR2.out x11_2 p527 q527
        have hw527_0 := hx527_0
        cases e527
        replace hx527_0 := (HB.out.cell (World.block_lt_of_cell? w _ hx527_0)).trans hx527_0
        replace p527 := eq_true p527
        replace q527 := eq_true q527
        have p529 : 0 ≤ ((ji23) : Int) := of_decide_eq_true (by first | (with_reducible assumption) | assumption)
        have q529 : (ji23) < (l2.length : Int) := of_decide_eq_true (by first | (with_reducible assumption) | assumption)
        obtain ⟨ad529, e529, hx529_0⟩ := Kd.at_int HR2.out (ji23) p529 q529
        have hw529_0 := hx529_0
        obtain rfl : ad527 = ad529 := (by injection e529)
        replace hx529_0 := (HB.out.cell (World.block_lt_of_cell? w _ hx529_0)).trans hx529_0
        replace p529 := eq_true p529
        replace q529 := eq_true q529
        refine start_ (n := 19) (S := fun w' => w'.cell? (ad527.add (x11_2).toNat) = some (.int .i64 (rd l2 x11_2)) ∧ w'.cell? (ad527.add ((ji23)).toNat) = some (.int .i64 (rd l2 (ji23)))) (ds := []) #[false, false, false, false, false, false, false, false, false, false, false, false, false, false, false, false, false, false, false] (by kernel_rfl) rfl rfl ⟨((HB.out.cell (World.block_lt_of_cell? w _ hw527_0)).trans hw527_0), ((HB.out.cell (World.block_lt_of_cell? w _ hw529_0)).trans hw529_0)⟩ (fun hHeld => ?_); refine with_tabW mizmazetop_built.tab14 mizmazetop_built.bits14 (fun HT_ HW_ => ?_)
        generalize wc.drew = w85 at HO_521000 BK519 BK520 HB hx527_0 hx529_0 hHeld ⊢
        refine pv_ 0 49 tb0 HT_ ?_
        refine pv_ 1 50 tb1 HT_ ?_
        refine pv_ 2 51 tb2 HT_ ?_
        refine pv_ 4 53 tb3 HT_ ?_
        refine pv_ 5 54 tb4 HT_ ?_
        refine pv_ 6 55 tb5 HT_ ?_
        refine pv_ 8 57 tb6 HT_ ?_
        refine pv_ 9 58 tb7 HT_ ?_
        refine pv_ 10 59 tb8 HT_ ?_
        refine pv_ 11 60 tb9 HT_ ?_
        refine pv_ 13 62 tb10 HT_ ?_
        refine pv_ 14 63 tb11 HT_ ?_
        refine pv_ 15 64 tb12 HT_ ?_
        refine take_ (i := 3) (N := some 52) (v := ?_) (a' := ?_) tb13 rfl rfl (take_ofW HT_.out HW_.out (by kernel_rfl)) (fun _ _ _ h => h) (Or.inl ⟨by rfl, ?_⟩) hHeld ?_ ?_
        rotate_left
        ·rintro w' ⟨s0, s1⟩
         go_simp
         with_reducible rfl
        rotate_left
        ·simp only [Act.put, List.setIfInBounds_toArray, List.set_cons_zero, List.set_cons_succ, i64_w, i32_w]
         rfl
        refine take_ (i := 12) (N := some 61) (v := ?_) (a' := ?_) tb14 rfl rfl (take_ofW HT_.out HW_.out (by kernel_rfl)) (fun _ _ _ h => h) (Or.inl ⟨by rfl, ?_⟩) hHeld ?_ ?_
        rotate_left
        ·rintro w' ⟨s0, s1⟩
         go_simp
         with_reducible rfl
        rotate_left
        ·simp only [Act.put, List.setIfInBounds_toArray, List.set_cons_zero, List.set_cons_succ, i64_w, i32_w]
         rfl
        refine one_ (i := 7) (N := some 56) tb15 rfl rfl (one_of HT_.out (by kernel_rfl)) (by decide) (fun K hK => ?_)
        refine goes_ Try.func27 (by kernel_rfl) rfl #[.int .i64 (rd l2 x11_2), .int .i64 (wrap64 (a0 * a1))] (by rfl) rfl rfl (by (try simp only [List.map_toArray, List.map_cons, List.map_nil]); first | done | rfl | (simp only [List.length_drop, List.length_take]; rfl)) ?_
        with_reducible refine (mizmazetop_cycle.calls (rd l2 x11_2) (wrap64 (a0 * a1)) t528 _ A22.out).mono ?_
        rintro e w' ⟨rfl, ⟨nd, rfl⟩⟩
        refine ⟨_, rfl, ?_⟩
        refine hK.out _ _ ⟨((HB.out.cell (World.block_lt_of_cell? w _ hw527_0)).trans hw527_0), ((HB.out.cell (World.block_lt_of_cell? w _ hw529_0)).trans hw529_0)⟩ (fun hHeld => ?_)
        clear hK K
        refine norm_ (a' := ?_) ?_ ?_
        rotate_left
        ·show Act.put _ (some 56) _ = _
         simp only [Act.put, List.setIfInBounds_toArray, List.set_cons_zero, List.set_cons_succ, i64_w, i32_w]
         rfl
        refine one_ (i := 16) (N := some 65) tb16 rfl rfl (one_of HT_.out (by kernel_rfl)) (by decide) (fun K hK => ?_)
        refine goes_ Try.func27 (by kernel_rfl) rfl #[.int .i64 (rd l2 (ji23)), .int .i64 (wrap64 (a0 * a1))] (by rfl) rfl rfl (by (try simp only [List.map_toArray, List.map_cons, List.map_nil]); first | done | (simp only [hji23]; rfl) | rfl | (simp only [List.length_drop, List.length_take]; rfl)) ?_
        with_reducible refine (mizmazetop_cycle.calls (rd l2 (ji23)) (wrap64 (a0 * a1)) t530 _ A26.out).mono ?_
        rintro e w' ⟨rfl, ⟨nd, rfl⟩⟩
        refine ⟨_, rfl, ?_⟩
        refine hK.out _ _ ⟨((HB.out.cell (World.block_lt_of_cell? w _ hw527_0)).trans hw527_0), ((HB.out.cell (World.block_lt_of_cell? w _ hw529_0)).trans hw529_0)⟩ (fun hHeld => ?_)
        clear hK K
        refine norm_ (a' := ?_) ?_ ?_
        rotate_left
        ·show Act.put _ (some 65) _ = _
         simp only [Act.put, List.setIfInBounds_toArray, List.set_cons_zero, List.set_cons_succ, i64_w, i32_w]
         rfl
        refine pv_ 17 12 tb17 HT_ ?_
        refine pv_ 18 13 tb18 HT_ ?_
        refine done_ (done_of HT_.out (by kernel_rfl)) ?_
        try go_wp2
        (try (rw [drewN_self w85]; generalize hq_ : World.drewN w85 _ = w85; have n0_ : Aside0 (Kd.S (Kd.slice 44 k44) 40 w85 w.heap.size (fun _ => True) u521000 x521000_2) := ⟨by rw [← hq_]; exact (by (with_reducible repeat (first | apply Kd.S_alloc | apply Kd.S_drewN | apply Kd.S_drew)); exact HO_521000.out)⟩; have n1_ : Aside0 (w85.heap[gb519]? = some (.cells #[.slice none 0 0] 38 (0, 0))) := ⟨by rw [← hq_]; exact (by (with_reducible repeat (first | refine blk_drewN ?_ _ | refine blk_drew ?_ | refine blk_alloc ?_ _)); exact BK519.out)⟩; have n2_ : Aside0 (w85.heap[gb520]? = some (.cells #[u521000] 38 (0, 0))) := ⟨by rw [← hq_]; exact (by (with_reducible repeat (first | refine blk_drewN ?_ _ | refine blk_drew ?_ | refine blk_alloc ?_ _)); exact BK520.out)⟩; have n3_ : Aside0 (Below w.heap.size w w85) := ⟨by rw [← hq_]; exact (by repeat (first | (with_reducible first | exact HB.out | apply below_alloc | apply pw_below_drewN | apply below_drew1 | refine below_set ?_ GE519.out | refine below_set ?_ GE520.out) | exact HB.out))⟩; clear HO_521000 BK519 BK520 HB hq_; have HO_521000 := n0_; have BK519 := n1_; have BK520 := n2_; have HB := n3_; clear n0_ n1_ n2_ n3_))
        have n0_ := Aside0.mk (Kd.S_drew HO_521000.out)
        have n1_ := Aside0.mk (blk_drew BK519.out)
        have n2_ := Aside0.mk (blk_drew BK520.out)
        have n3_ := Aside0.mk (below_drew1 HB.out)
        clear HO_521000
        clear BK519
        clear BK520
        clear HB
        have HO_521000 := n0_
        have BK519 := n1_
        have BK520 := n2_
        have HB := n3_
        clear n0_ n1_ n2_ n3_
        refine start_ (n := 18) (S := fun w' => True) (ds := []) #[false, false, false, false, false, false, false, false, false, false, false, false, false, false, false, false, false, false] (by kernel_rfl) rfl rfl trivial (fun hHeld => ?_); refine with_tabW mizmazetop_built.tab15 mizmazetop_built.bits15 (fun HT_ HW_ => ?_)
        generalize w85.drew = w86 at HO_521000 BK519 BK520 HB hHeld ⊢
        refine pv_ 0 66 tb19 HT_ ?_
        refine pv_ 1 67 tb20 HT_ ?_
        refine pv_ 2 68 tb21 HT_ ?_
        refine pv_ 3 69 tb22 HT_ ?_
        refine pv_ 4 70 tb23 HT_ ?_
        refine pv_ 5 71 tb24 HT_ ?_
        refine pv_ 6 72 tb25 HT_ ?_
        refine pv_ 7 73 tb26 HT_ ?_
        refine pv_ 8 74 tb27 HT_ ?_
        refine pv_ 9 75 tb28 HT_ ?_
        refine pv_ 10 76 tb29 HT_ ?_
        refine pv_ 11 77 tb30 HT_ ?_
        refine pv_ 12 78 tb31 HT_ ?_
        refine pv_ 13 79 tb32 HT_ ?_
        refine join_ (σ := Nat × Nat) 2 #[true, true, true, true, true, true, true, true, true, true, true, true, true, true, true, true, false, false] (fun s_ => [(14, .pointer (some ⟨s_.1, 0, none⟩)), (15, .pointer (some ⟨s_.2, 0, none⟩))]) (fun s_ w' => (Kd.S (Kd.slice 44 k44) 40 w' w.heap.size (fun k_ => k_ ≠ s_.1 ∧ k_ ≠ s_.2) u521000 x521000_2) ∧ (w'.heap[gb519]? = some (.cells #[.slice none 0 0] 38 (0, 0))) ∧ (w'.heap[gb520]? = some (.cells #[u521000] 38 (0, 0))) ∧ (w'.heap[s_.1]? = some (.cells #[.int .i64 0, .int .i64 0] 44 (0, 0))) ∧ (w'.heap[s_.2]? = some (.cells #[.int .i64 0, .int .i64 0] 44 (0, 0))) ∧ (w.heap.size ≤ s_.1) ∧ (w.heap.size ≤ s_.1) ∧ (gb519 ≠ s_.1) ∧ (s_.1 ≠ gb519) ∧ (gb520 ≠ s_.1) ∧ (s_.1 ≠ gb520) ∧ (s_.2 ≠ s_.1) ∧ (s_.1 ≠ s_.2) ∧ (w.heap.size ≤ s_.2) ∧ (w.heap.size ≤ s_.2) ∧ (gb519 ≠ s_.2) ∧ (s_.2 ≠ gb519) ∧ (gb520 ≠ s_.2) ∧ (s_.2 ≠ gb520) ∧ (Below w.heap.size w w')) ?_ ?_
        rotate_left
        ·intro hCont
         refine two_ (i := 14) (j := 15) (Ni := some 14) (Nj := some 15) tb33 tb34 rfl rfl rfl rfl (two_of HT_.out (by kernel_rfl)) (by decide) (by decide) (fun K hK => ?_) (fun K hK => ?_)
         ·skip
          refine box_step ?hg (N := 14) ?hd (cs := #[.int .i64 0, .int .i64 0]) (t := 44) ?hr ?_; (case hd => rfl); (case hg => rfl); (case hr => first | (go_simp; done) | (go_simp; rfl))
          intro gb531 hg w87 hbox hb
          have n0_ := Aside0.mk (Kd.S_below (Kd.S_elderB (by (with_reducible repeat (first | apply Kd.S_alloc | apply Kd.S_drewN | apply Kd.S_drew)); exact HO_521000.out) gb531 (Nat.le_of_eq hg.symm)) hb)
          have n1_ := Aside0.mk (blk_below (g := gb519) (o := .cells #[.slice none 0 0] 38 (0, 0)) (by (with_reducible repeat (first | refine blk_drewN ?_ _ | refine blk_drew ?_ | refine blk_alloc ?_ _)); exact BK519.out) hb)
          have n2_ := Aside0.mk (blk_below (g := gb520) (o := .cells #[u521000] 38 (0, 0)) (by (with_reducible repeat (first | refine blk_drewN ?_ _ | refine blk_drew ?_ | refine blk_alloc ?_ _)); exact BK520.out) hb)
          have n3_ := Aside0.mk (below_step (by repeat (first | (with_reducible first | exact HB.out | apply below_alloc | apply pw_below_drewN | apply below_drew1 | refine below_set ?_ GE519.out | refine below_set ?_ GE520.out) | exact HB.out)) hb)
          have n4_ := Aside0.mk (hbox)
          have n5_ := Aside0.mk ((by rw [hg]; exact (below_size (by repeat (first | (with_reducible first | exact HB.out | apply below_alloc | apply pw_below_drewN | apply below_drew1 | refine below_set ?_ GE519.out | refine below_set ?_ GE520.out) | exact HB.out))) : w.heap.size ≤ gb531))
          have n6_ := Aside0.mk ((by rw [hg]; exact (below_size (by repeat (first | (with_reducible first | exact HB.out | apply below_alloc | apply pw_below_drewN | apply below_drew1 | refine below_set ?_ GE519.out | refine below_set ?_ GE520.out) | exact HB.out))) : w.heap.size ≤ gb531))
          have n7_ := Aside0.mk ((by rw [hg]; exact Nat.ne_of_lt (blk_lt (g := gb519) (o := .cells #[.slice none 0 0] 38 (0, 0)) (by (with_reducible repeat (first | refine blk_drewN ?_ _ | refine blk_drew ?_ | refine blk_alloc ?_ _)); exact BK519.out)) : gb519 ≠ gb531))
          have n8_ := Aside0.mk ((by rw [hg]; exact Nat.ne_of_gt (blk_lt (g := gb519) (o := .cells #[.slice none 0 0] 38 (0, 0)) (by (with_reducible repeat (first | refine blk_drewN ?_ _ | refine blk_drew ?_ | refine blk_alloc ?_ _)); exact BK519.out)) : gb531 ≠ gb519))
          have n9_ := Aside0.mk ((by rw [hg]; exact Nat.ne_of_lt (blk_lt (g := gb520) (o := .cells #[u521000] 38 (0, 0)) (by (with_reducible repeat (first | refine blk_drewN ?_ _ | refine blk_drew ?_ | refine blk_alloc ?_ _)); exact BK520.out)) : gb520 ≠ gb531))
          have n10_ := Aside0.mk ((by rw [hg]; exact Nat.ne_of_gt (blk_lt (g := gb520) (o := .cells #[u521000] 38 (0, 0)) (by (with_reducible repeat (first | refine blk_drewN ?_ _ | refine blk_drew ?_ | refine blk_alloc ?_ _)); exact BK520.out)) : gb531 ≠ gb520))
          clear HO_521000
          clear BK519
          clear BK520
          clear HB
          have HO_521000 := n0_
          have BK519 := n1_
          have BK520 := n2_
          have HB := n3_
          have BK531 := n4_
          have GW531 := n5_
          have GE531 := n6_
          have NB519_531 := n7_
          have NB531_519 := n8_
          have NB520_531 := n9_
          have NB531_520 := n10_
          clear n0_ n1_ n2_ n3_ n4_ n5_ n6_ n7_ n8_ n9_ n10_
          clear hb hbox hg
          refine hK.out _ _ trivial (fun hHeld => ?_)
          clear hK K
          refine norm_ (a' := ?_) ?_ ?_
          rotate_left
          ·show Act.put _ (some 14) _ = _
           simp only [Act.put, List.setIfInBounds_toArray, List.set_cons_zero, List.set_cons_succ, i64_w, i32_w]
           rfl
          refine one_ (i := 15) (N := some 15) tb35 rfl rfl (one_of HT_.out (by kernel_rfl)) (by decide) (fun K hK => ?_)
          refine box_step ?hg (N := 15) ?hd (cs := #[.int .i64 0, .int .i64 0]) (t := 44) ?hr ?_; (case hd => rfl); (case hg => rfl); (case hr => first | (go_simp; done) | (go_simp; rfl))
          intro gb532 hg w88 hbox hb
          have n0_ := Aside0.mk (Kd.S_below (Kd.S_elderB (by (with_reducible repeat (first | apply Kd.S_alloc | apply Kd.S_drewN | apply Kd.S_drew)); exact HO_521000.out) gb532 (Nat.le_of_eq hg.symm)) hb)
          have n1_ := Aside0.mk (blk_below (g := gb519) (o := .cells #[.slice none 0 0] 38 (0, 0)) (by (with_reducible repeat (first | refine blk_drewN ?_ _ | refine blk_drew ?_ | refine blk_alloc ?_ _)); exact BK519.out) hb)
          have n2_ := Aside0.mk (blk_below (g := gb520) (o := .cells #[u521000] 38 (0, 0)) (by (with_reducible repeat (first | refine blk_drewN ?_ _ | refine blk_drew ?_ | refine blk_alloc ?_ _)); exact BK520.out) hb)
          have n3_ := Aside0.mk (blk_below (g := gb531) (o := .cells #[.int .i64 0, .int .i64 0] 44 (0, 0)) (by (with_reducible repeat (first | refine blk_drewN ?_ _ | refine blk_drew ?_ | refine blk_alloc ?_ _)); exact BK531.out) hb)
          have n4_ := Aside0.mk (below_step (by repeat (first | (with_reducible first | exact HB.out | apply below_alloc | apply pw_below_drewN | apply below_drew1 | refine below_set ?_ GE519.out | refine below_set ?_ GE520.out | refine below_set ?_ GE531.out) | exact HB.out)) hb)
          have n5_ := Aside0.mk (hbox)
          have n6_ := Aside0.mk ((by rw [hg]; exact (below_size (by repeat (first | (with_reducible first | exact HB.out | apply below_alloc | apply pw_below_drewN | apply below_drew1 | refine below_set ?_ GE519.out | refine below_set ?_ GE520.out | refine below_set ?_ GE531.out) | exact HB.out))) : w.heap.size ≤ gb532))
          have n7_ := Aside0.mk ((by rw [hg]; exact (below_size (by repeat (first | (with_reducible first | exact HB.out | apply below_alloc | apply pw_below_drewN | apply below_drew1 | refine below_set ?_ GE519.out | refine below_set ?_ GE520.out | refine below_set ?_ GE531.out) | exact HB.out))) : w.heap.size ≤ gb532))
          have n8_ := Aside0.mk ((by rw [hg]; exact Nat.ne_of_lt (blk_lt (g := gb519) (o := .cells #[.slice none 0 0] 38 (0, 0)) (by (with_reducible repeat (first | refine blk_drewN ?_ _ | refine blk_drew ?_ | refine blk_alloc ?_ _)); exact BK519.out)) : gb519 ≠ gb532))
          have n9_ := Aside0.mk ((by rw [hg]; exact Nat.ne_of_gt (blk_lt (g := gb519) (o := .cells #[.slice none 0 0] 38 (0, 0)) (by (with_reducible repeat (first | refine blk_drewN ?_ _ | refine blk_drew ?_ | refine blk_alloc ?_ _)); exact BK519.out)) : gb532 ≠ gb519))
          have n10_ := Aside0.mk ((by rw [hg]; exact Nat.ne_of_lt (blk_lt (g := gb520) (o := .cells #[u521000] 38 (0, 0)) (by (with_reducible repeat (first | refine blk_drewN ?_ _ | refine blk_drew ?_ | refine blk_alloc ?_ _)); exact BK520.out)) : gb520 ≠ gb532))
          have n11_ := Aside0.mk ((by rw [hg]; exact Nat.ne_of_gt (blk_lt (g := gb520) (o := .cells #[u521000] 38 (0, 0)) (by (with_reducible repeat (first | refine blk_drewN ?_ _ | refine blk_drew ?_ | refine blk_alloc ?_ _)); exact BK520.out)) : gb532 ≠ gb520))
          have n12_ := Aside0.mk ((by rw [hg]; exact Nat.ne_of_lt (blk_lt (g := gb531) (o := .cells #[.int .i64 0, .int .i64 0] 44 (0, 0)) (by (with_reducible repeat (first | refine blk_drewN ?_ _ | refine blk_drew ?_ | refine blk_alloc ?_ _)); exact BK531.out)) : gb531 ≠ gb532))
          have n13_ := Aside0.mk ((by rw [hg]; exact Nat.ne_of_gt (blk_lt (g := gb531) (o := .cells #[.int .i64 0, .int .i64 0] 44 (0, 0)) (by (with_reducible repeat (first | refine blk_drewN ?_ _ | refine blk_drew ?_ | refine blk_alloc ?_ _)); exact BK531.out)) : gb532 ≠ gb531))
          clear HO_521000
          clear BK519
          clear BK520
          clear BK531
          clear HB
          have HO_521000 := n0_
          have BK519 := n1_
          have BK520 := n2_
          have BK531 := n3_
          have HB := n4_
          have BK532 := n5_
          have GW532 := n6_
          have GE532 := n7_
          have NB519_532 := n8_
          have NB532_519 := n9_
          have NB520_532 := n10_
          have NB532_520 := n11_
          have NB531_532 := n12_
          have NB532_531 := n13_
          clear n0_ n1_ n2_ n3_ n4_ n5_ n6_ n7_ n8_ n9_ n10_ n11_ n12_ n13_
          clear hb hbox hg
          refine hK.out _ _ trivial (fun hHeld => ?_)
          clear hK K
          refine norm_ (a' := ?_) ?_ ?_
          rotate_left
          ·show Act.put _ (some 15) _ = _
           simp only [Act.put, List.setIfInBounds_toArray, List.set_cons_zero, List.set_cons_succ, i64_w, i32_w]
           rfl
          exact norm_ (by simp only [putAll, Act.put, List.setIfInBounds_toArray, List.set_cons_zero, List.set_cons_succ]) (hCont (gb531, gb532) _ ⟨(by (with_reducible repeat (first | apply Kd.S_alloc | apply Kd.S_drewN | apply Kd.S_drew)); exact Kd.S_mono HO_521000.out (fun _ hk => ⟨hk.1.2, hk.2⟩)), (by (with_reducible repeat (first | refine blk_drewN ?_ _ | refine blk_drew ?_ | refine blk_alloc ?_ _)); exact BK519.out), (by (with_reducible repeat (first | refine blk_drewN ?_ _ | refine blk_drew ?_ | refine blk_alloc ?_ _)); exact BK520.out), (by (with_reducible repeat (first | refine blk_drewN ?_ _ | refine blk_drew ?_ | refine blk_alloc ?_ _)); exact BK531.out), (by (with_reducible repeat (first | refine blk_drewN ?_ _ | refine blk_drew ?_ | refine blk_alloc ?_ _)); exact BK532.out), GW531.out, GE531.out, NB519_531.out, NB531_519.out, NB520_531.out, NB531_520.out, NB532_531.out, NB531_532.out, GW532.out, GE532.out, NB519_532.out, NB532_519.out, NB520_532.out, NB532_520.out, (by repeat (first | (with_reducible first | exact HB.out | apply below_alloc | apply pw_below_drewN | apply below_drew1 | refine below_set ?_ GE519.out | refine below_set ?_ GE520.out | refine below_set ?_ GE531.out | refine below_set ?_ GE532.out) | exact HB.out))⟩)
         ·skip
          refine box_step ?hg (N := 15) ?hd (cs := #[.int .i64 0, .int .i64 0]) (t := 44) ?hr ?_; (case hd => rfl); (case hg => rfl); (case hr => first | (go_simp; done) | (go_simp; rfl))
          intro gb532 hg w87 hbox hb
          have n0_ := Aside0.mk (Kd.S_below (Kd.S_elderB (by (with_reducible repeat (first | apply Kd.S_alloc | apply Kd.S_drewN | apply Kd.S_drew)); exact HO_521000.out) gb532 (Nat.le_of_eq hg.symm)) hb)
          have n1_ := Aside0.mk (blk_below (g := gb519) (o := .cells #[.slice none 0 0] 38 (0, 0)) (by (with_reducible repeat (first | refine blk_drewN ?_ _ | refine blk_drew ?_ | refine blk_alloc ?_ _)); exact BK519.out) hb)
          have n2_ := Aside0.mk (blk_below (g := gb520) (o := .cells #[u521000] 38 (0, 0)) (by (with_reducible repeat (first | refine blk_drewN ?_ _ | refine blk_drew ?_ | refine blk_alloc ?_ _)); exact BK520.out) hb)
          have n3_ := Aside0.mk (below_step (by repeat (first | (with_reducible first | exact HB.out | apply below_alloc | apply pw_below_drewN | apply below_drew1 | refine below_set ?_ GE519.out | refine below_set ?_ GE520.out) | exact HB.out)) hb)
          have n4_ := Aside0.mk (hbox)
          have n5_ := Aside0.mk ((by rw [hg]; exact (below_size (by repeat (first | (with_reducible first | exact HB.out | apply below_alloc | apply pw_below_drewN | apply below_drew1 | refine below_set ?_ GE519.out | refine below_set ?_ GE520.out) | exact HB.out))) : w.heap.size ≤ gb532))
          have n6_ := Aside0.mk ((by rw [hg]; exact (below_size (by repeat (first | (with_reducible first | exact HB.out | apply below_alloc | apply pw_below_drewN | apply below_drew1 | refine below_set ?_ GE519.out | refine below_set ?_ GE520.out) | exact HB.out))) : w.heap.size ≤ gb532))
          have n7_ := Aside0.mk ((by rw [hg]; exact Nat.ne_of_lt (blk_lt (g := gb519) (o := .cells #[.slice none 0 0] 38 (0, 0)) (by (with_reducible repeat (first | refine blk_drewN ?_ _ | refine blk_drew ?_ | refine blk_alloc ?_ _)); exact BK519.out)) : gb519 ≠ gb532))
          have n8_ := Aside0.mk ((by rw [hg]; exact Nat.ne_of_gt (blk_lt (g := gb519) (o := .cells #[.slice none 0 0] 38 (0, 0)) (by (with_reducible repeat (first | refine blk_drewN ?_ _ | refine blk_drew ?_ | refine blk_alloc ?_ _)); exact BK519.out)) : gb532 ≠ gb519))
          have n9_ := Aside0.mk ((by rw [hg]; exact Nat.ne_of_lt (blk_lt (g := gb520) (o := .cells #[u521000] 38 (0, 0)) (by (with_reducible repeat (first | refine blk_drewN ?_ _ | refine blk_drew ?_ | refine blk_alloc ?_ _)); exact BK520.out)) : gb520 ≠ gb532))
          have n10_ := Aside0.mk ((by rw [hg]; exact Nat.ne_of_gt (blk_lt (g := gb520) (o := .cells #[u521000] 38 (0, 0)) (by (with_reducible repeat (first | refine blk_drewN ?_ _ | refine blk_drew ?_ | refine blk_alloc ?_ _)); exact BK520.out)) : gb532 ≠ gb520))
          clear HO_521000
          clear BK519
          clear BK520
          clear HB
          have HO_521000 := n0_
          have BK519 := n1_
          have BK520 := n2_
          have HB := n3_
          have BK532 := n4_
          have GW532 := n5_
          have GE532 := n6_
          have NB519_532 := n7_
          have NB532_519 := n8_
          have NB520_532 := n9_
          have NB532_520 := n10_
          clear n0_ n1_ n2_ n3_ n4_ n5_ n6_ n7_ n8_ n9_ n10_
          clear hb hbox hg
          refine hK.out _ _ trivial (fun hHeld => ?_)
          clear hK K
          refine norm_ (a' := ?_) ?_ ?_
          rotate_left
          ·show Act.put _ (some 15) _ = _
           simp only [Act.put, List.setIfInBounds_toArray, List.set_cons_zero, List.set_cons_succ, i64_w, i32_w]
           rfl
          refine one_ (i := 14) (N := some 14) tb35 rfl rfl (one_of HT_.out (by kernel_rfl)) (by decide) (fun K hK => ?_)
          refine box_step ?hg (N := 14) ?hd (cs := #[.int .i64 0, .int .i64 0]) (t := 44) ?hr ?_; (case hd => rfl); (case hg => rfl); (case hr => first | (go_simp; done) | (go_simp; rfl))
          intro gb531 hg w88 hbox hb
          have n0_ := Aside0.mk (Kd.S_below (Kd.S_elderB (by (with_reducible repeat (first | apply Kd.S_alloc | apply Kd.S_drewN | apply Kd.S_drew)); exact HO_521000.out) gb531 (Nat.le_of_eq hg.symm)) hb)
          have n1_ := Aside0.mk (blk_below (g := gb519) (o := .cells #[.slice none 0 0] 38 (0, 0)) (by (with_reducible repeat (first | refine blk_drewN ?_ _ | refine blk_drew ?_ | refine blk_alloc ?_ _)); exact BK519.out) hb)
          have n2_ := Aside0.mk (blk_below (g := gb520) (o := .cells #[u521000] 38 (0, 0)) (by (with_reducible repeat (first | refine blk_drewN ?_ _ | refine blk_drew ?_ | refine blk_alloc ?_ _)); exact BK520.out) hb)
          have n3_ := Aside0.mk (blk_below (g := gb532) (o := .cells #[.int .i64 0, .int .i64 0] 44 (0, 0)) (by (with_reducible repeat (first | refine blk_drewN ?_ _ | refine blk_drew ?_ | refine blk_alloc ?_ _)); exact BK532.out) hb)
          have n4_ := Aside0.mk (below_step (by repeat (first | (with_reducible first | exact HB.out | apply below_alloc | apply pw_below_drewN | apply below_drew1 | refine below_set ?_ GE519.out | refine below_set ?_ GE520.out | refine below_set ?_ GE532.out) | exact HB.out)) hb)
          have n5_ := Aside0.mk (hbox)
          have n6_ := Aside0.mk ((by rw [hg]; exact (below_size (by repeat (first | (with_reducible first | exact HB.out | apply below_alloc | apply pw_below_drewN | apply below_drew1 | refine below_set ?_ GE519.out | refine below_set ?_ GE520.out | refine below_set ?_ GE532.out) | exact HB.out))) : w.heap.size ≤ gb531))
          have n7_ := Aside0.mk ((by rw [hg]; exact (below_size (by repeat (first | (with_reducible first | exact HB.out | apply below_alloc | apply pw_below_drewN | apply below_drew1 | refine below_set ?_ GE519.out | refine below_set ?_ GE520.out | refine below_set ?_ GE532.out) | exact HB.out))) : w.heap.size ≤ gb531))
          have n8_ := Aside0.mk ((by rw [hg]; exact Nat.ne_of_lt (blk_lt (g := gb519) (o := .cells #[.slice none 0 0] 38 (0, 0)) (by (with_reducible repeat (first | refine blk_drewN ?_ _ | refine blk_drew ?_ | refine blk_alloc ?_ _)); exact BK519.out)) : gb519 ≠ gb531))
          have n9_ := Aside0.mk ((by rw [hg]; exact Nat.ne_of_gt (blk_lt (g := gb519) (o := .cells #[.slice none 0 0] 38 (0, 0)) (by (with_reducible repeat (first | refine blk_drewN ?_ _ | refine blk_drew ?_ | refine blk_alloc ?_ _)); exact BK519.out)) : gb531 ≠ gb519))
          have n10_ := Aside0.mk ((by rw [hg]; exact Nat.ne_of_lt (blk_lt (g := gb520) (o := .cells #[u521000] 38 (0, 0)) (by (with_reducible repeat (first | refine blk_drewN ?_ _ | refine blk_drew ?_ | refine blk_alloc ?_ _)); exact BK520.out)) : gb520 ≠ gb531))
          have n11_ := Aside0.mk ((by rw [hg]; exact Nat.ne_of_gt (blk_lt (g := gb520) (o := .cells #[u521000] 38 (0, 0)) (by (with_reducible repeat (first | refine blk_drewN ?_ _ | refine blk_drew ?_ | refine blk_alloc ?_ _)); exact BK520.out)) : gb531 ≠ gb520))
          have n12_ := Aside0.mk ((by rw [hg]; exact Nat.ne_of_lt (blk_lt (g := gb532) (o := .cells #[.int .i64 0, .int .i64 0] 44 (0, 0)) (by (with_reducible repeat (first | refine blk_drewN ?_ _ | refine blk_drew ?_ | refine blk_alloc ?_ _)); exact BK532.out)) : gb532 ≠ gb531))
          have n13_ := Aside0.mk ((by rw [hg]; exact Nat.ne_of_gt (blk_lt (g := gb532) (o := .cells #[.int .i64 0, .int .i64 0] 44 (0, 0)) (by (with_reducible repeat (first | refine blk_drewN ?_ _ | refine blk_drew ?_ | refine blk_alloc ?_ _)); exact BK532.out)) : gb531 ≠ gb532))
          clear HO_521000
          clear BK519
          clear BK520
          clear BK532
          clear HB
          have HO_521000 := n0_
          have BK519 := n1_
          have BK520 := n2_
          have BK532 := n3_
          have HB := n4_
          have BK531 := n5_
          have GW531 := n6_
          have GE531 := n7_
          have NB519_531 := n8_
          have NB531_519 := n9_
          have NB520_531 := n10_
          have NB531_520 := n11_
          have NB532_531 := n12_
          have NB531_532 := n13_
          clear n0_ n1_ n2_ n3_ n4_ n5_ n6_ n7_ n8_ n9_ n10_ n11_ n12_ n13_
          clear hb hbox hg
          refine hK.out _ _ trivial (fun hHeld => ?_)
          clear hK K
          refine norm_ (a' := ?_) ?_ ?_
          rotate_left
          ·show Act.put _ (some 14) _ = _
           simp only [Act.put, List.setIfInBounds_toArray, List.set_cons_zero, List.set_cons_succ, i64_w, i32_w]
           rfl
          exact norm_ (by simp only [putAll, Act.put, List.setIfInBounds_toArray, List.set_cons_zero, List.set_cons_succ]) (hCont (gb531, gb532) _ ⟨(by (with_reducible repeat (first | apply Kd.S_alloc | apply Kd.S_drewN | apply Kd.S_drew)); exact Kd.S_mono HO_521000.out (fun _ hk => ⟨hk.2, hk.1.2⟩)), (by (with_reducible repeat (first | refine blk_drewN ?_ _ | refine blk_drew ?_ | refine blk_alloc ?_ _)); exact BK519.out), (by (with_reducible repeat (first | refine blk_drewN ?_ _ | refine blk_drew ?_ | refine blk_alloc ?_ _)); exact BK520.out), (by (with_reducible repeat (first | refine blk_drewN ?_ _ | refine blk_drew ?_ | refine blk_alloc ?_ _)); exact BK531.out), (by (with_reducible repeat (first | refine blk_drewN ?_ _ | refine blk_drew ?_ | refine blk_alloc ?_ _)); exact BK532.out), GW531.out, GE531.out, NB519_531.out, NB531_519.out, NB520_531.out, NB531_520.out, NB532_531.out, NB531_532.out, GW532.out, GE532.out, NB519_532.out, NB532_519.out, NB520_532.out, NB532_520.out, (by repeat (first | (with_reducible first | exact HB.out | apply below_alloc | apply pw_below_drewN | apply below_drew1 | refine below_set ?_ GE519.out | refine below_set ?_ GE520.out | refine below_set ?_ GE532.out | refine below_set ?_ GE531.out) | exact HB.out))⟩)
        rintro ⟨gb531, gb532⟩ w89 ⟨h0_, h1_, h2_, h3_, h4_, h5_, h6_, h7_, h8_, h9_, h10_, h11_, h12_, h13_, h14_, h15_, h16_, h17_, h18_, h19_⟩
        have n0_ : Aside0 (Kd.S (Kd.slice 44 k44) 40 w89 w.heap.size (fun k_ => k_ ≠ gb531 ∧ k_ ≠ gb532) u521000 x521000_2) := ⟨h0_⟩
        have n1_ : Aside0 (w89.heap[gb519]? = some (.cells #[.slice none 0 0] 38 (0, 0))) := ⟨h1_⟩
        have n2_ : Aside0 (w89.heap[gb520]? = some (.cells #[u521000] 38 (0, 0))) := ⟨h2_⟩
        have n3_ : Aside0 (w89.heap[gb531]? = some (.cells #[.int .i64 0, .int .i64 0] 44 (0, 0))) := ⟨h3_⟩
        have n4_ : Aside0 (w89.heap[gb532]? = some (.cells #[.int .i64 0, .int .i64 0] 44 (0, 0))) := ⟨h4_⟩
        have n5_ : Aside0 (w.heap.size ≤ gb531) := ⟨h5_⟩
        have n6_ : Aside0 (w.heap.size ≤ gb531) := ⟨h6_⟩
        have n7_ : Aside0 (gb519 ≠ gb531) := ⟨h7_⟩
        have n8_ : Aside0 (gb531 ≠ gb519) := ⟨h8_⟩
        have n9_ : Aside0 (gb520 ≠ gb531) := ⟨h9_⟩
        have n10_ : Aside0 (gb531 ≠ gb520) := ⟨h10_⟩
        have n11_ : Aside0 (gb532 ≠ gb531) := ⟨h11_⟩
        have n12_ : Aside0 (gb531 ≠ gb532) := ⟨h12_⟩
        have n13_ : Aside0 (w.heap.size ≤ gb532) := ⟨h13_⟩
        have n14_ : Aside0 (w.heap.size ≤ gb532) := ⟨h14_⟩
        have n15_ : Aside0 (gb519 ≠ gb532) := ⟨h15_⟩
        have n16_ : Aside0 (gb532 ≠ gb519) := ⟨h16_⟩
        have n17_ : Aside0 (gb520 ≠ gb532) := ⟨h17_⟩
        have n18_ : Aside0 (gb532 ≠ gb520) := ⟨h18_⟩
        have n19_ : Aside0 (Below w.heap.size w w89) := ⟨h19_⟩
        clear HO_521000
        clear BK519
        clear BK520
        clear HB
        clear h0_ h1_ h2_ h3_ h4_ h5_ h6_ h7_ h8_ h9_ h10_ h11_ h12_ h13_ h14_ h15_ h16_ h17_ h18_ h19_
        have HO_521000 := n0_
        have BK519 := n1_
        have BK520 := n2_
        have BK531 := n3_
        have BK532 := n4_
        have GW531 := n5_
        have GE531 := n6_
        have NB519_531 := n7_
        have NB531_519 := n8_
        have NB520_531 := n9_
        have NB531_520 := n10_
        have NB532_531 := n11_
        have NB531_532 := n12_
        have GW532 := n13_
        have GE532 := n14_
        have NB519_532 := n15_
        have NB532_519 := n16_
        have NB520_532 := n17_
        have NB532_520 := n18_
        have HB := n19_
        clear n0_ n1_ n2_ n3_ n4_ n5_ n6_ n7_ n8_ n9_ n10_ n11_ n12_ n13_ n14_ n15_ n16_ n17_ n18_ n19_
        have hHeld := trivial
        refine norm_ (a' := ?_) ?_ ?_
        rotate_left
        ·simp only [putAll, Act.put, List.setIfInBounds_toArray, List.set_cons_zero, List.set_cons_succ]
         rfl
        refine one_ (i := 16) (N := none) tb36 rfl rfl (one_of HT_.out (by kernel_rfl)) (by decide) (fun K hK => ?_)
        have hs90 : w89.cell? ⟨gb531, 0, none⟩ = some (.int .i64 0) := (blk_cell BK531.out 0).trans rfl
        have hfs90 := blk_frozen BK531.out 0
        have hns90_0 := NB519_531.out
        have hns90_1 := NB520_531.out
        have hns90_3 := NB532_531.out
        have hms90_0 := NB531_519.out
        have hms90_1 := NB531_520.out
        have hms90_3 := NB531_532.out
        have hs91 : w89.cell? ⟨gb531, 1, none⟩ = some (.int .i64 0) := (blk_cell BK531.out 1).trans rfl
        have hfs91 := blk_frozen BK531.out 1
        have hns91_0 := NB519_531.out
        have hns91_1 := NB520_531.out
        have hns91_3 := NB532_531.out
        have hms91_0 := NB531_519.out
        have hms91_1 := NB531_520.out
        have hms91_3 := NB531_532.out
        refine skip_ (w1 := ?_) (by rfl) rfl ?_ ?_
        rotate_left
        ·go_simp
         rfl
        refine hK.out _ _ trivial (fun hHeld => ?_)
        clear hK K
        refine one_ (i := 17) (N := none) tb37 rfl rfl (one_of HT_.out (by kernel_rfl)) (by decide) (fun K hK => ?_)
        have hs92 : w89.cell? ⟨gb532, 0, none⟩ = some (.int .i64 0) := (blk_cell BK532.out 0).trans rfl
        have hfs92 := blk_frozen BK532.out 0
        have hns92_0 := NB519_532.out
        have hns92_1 := NB520_532.out
        have hns92_2 := NB531_532.out
        have hms92_0 := NB532_519.out
        have hms92_1 := NB532_520.out
        have hms92_2 := NB532_531.out
        have hs93 : w89.cell? ⟨gb532, 1, none⟩ = some (.int .i64 0) := (blk_cell BK532.out 1).trans rfl
        have hfs93 := blk_frozen BK532.out 1
        have hns93_0 := NB519_532.out
        have hns93_1 := NB520_532.out
        have hns93_2 := NB531_532.out
        have hms93_0 := NB532_519.out
        have hms93_1 := NB532_520.out
        have hms93_2 := NB532_531.out
        refine skip_ (w1 := ?_) (by rfl) rfl ?_ ?_
        rotate_left
        ·go_simp
         rfl
        refine hK.out _ _ trivial (fun hHeld => ?_)
        clear hK K
        refine done_ (done_of HT_.out (by kernel_rfl)) ?_
        try go_wp2
        have n0_ : Aside0 (Kd.S (Kd.slice 44 k44) 40 ((((w89.setCell ⟨gb531, 0, none⟩ (.int .i64 ji28)).setCell ⟨gb531, 1, none⟩ (.int .i64 ji31)).setCell ⟨gb532, 0, none⟩ (.int .i64 (wrap64 (Int.tdiv t530 a1)))).setCell ⟨gb532, 1, none⟩ (.int .i64 (Int.tmod t530 a1))) w.heap.size (fun k_ => k_ ≠ gb531 ∧ k_ ≠ gb532) u521000 x521000_2) := ⟨by (with_reducible repeat (first | apply Kd.S_alloc | apply Kd.S_drewN | apply Kd.S_drew)); exact Kd.S_mono (Kd.S_far (p := ⟨gb532, 1, none⟩) (Kd.S_far (p := ⟨gb532, 0, none⟩) (Kd.S_far (p := ⟨gb531, 1, none⟩) (Kd.S_far (p := ⟨gb531, 0, none⟩) (Kd.S_mono (Kd.S_mono HO_521000.out (fun k_ hk => (⟨hk, hk.1⟩ : _ ∧ k_ ≠ gb531))) (fun k_ hk => (⟨hk, hk.1.2⟩ : _ ∧ k_ ≠ gb532))) (fun _ hk => hk.1.2) (.int .i64 ji28)) (fun _ hk => hk.1.2) (.int .i64 ji31)) (fun _ hk => hk.2) (.int .i64 (wrap64 (Int.tdiv t530 a1)))) (fun _ hk => hk.2) (.int .i64 (Int.tmod t530 a1))) (fun _ hk => ⟨hk.1.1.1, hk.1.1.2⟩)⟩
        have n1_ : Aside0 (((((w89.setCell ⟨gb531, 0, none⟩ (.int .i64 ji28)).setCell ⟨gb531, 1, none⟩ (.int .i64 ji31)).setCell ⟨gb532, 0, none⟩ (.int .i64 (wrap64 (Int.tdiv t530 a1)))).setCell ⟨gb532, 1, none⟩ (.int .i64 (Int.tmod t530 a1))).heap[gb519]? = some (.cells #[.slice none 0 0] 38 (0, 0))) := ⟨by (with_reducible repeat (first | refine blk_drewN ?_ _ | refine blk_drew ?_ | refine blk_alloc ?_ _)); refine blk_far ?_ NB519_532.out _; (with_reducible repeat (first | refine blk_drewN ?_ _ | refine blk_drew ?_ | refine blk_alloc ?_ _)); refine blk_far ?_ NB519_532.out _; (with_reducible repeat (first | refine blk_drewN ?_ _ | refine blk_drew ?_ | refine blk_alloc ?_ _)); refine blk_far ?_ NB519_531.out _; (with_reducible repeat (first | refine blk_drewN ?_ _ | refine blk_drew ?_ | refine blk_alloc ?_ _)); refine blk_far ?_ NB519_531.out _; (with_reducible repeat (first | refine blk_drewN ?_ _ | refine blk_drew ?_ | refine blk_alloc ?_ _)); exact BK519.out⟩
        have n2_ : Aside0 (((((w89.setCell ⟨gb531, 0, none⟩ (.int .i64 ji28)).setCell ⟨gb531, 1, none⟩ (.int .i64 ji31)).setCell ⟨gb532, 0, none⟩ (.int .i64 (wrap64 (Int.tdiv t530 a1)))).setCell ⟨gb532, 1, none⟩ (.int .i64 (Int.tmod t530 a1))).heap[gb520]? = some (.cells #[u521000] 38 (0, 0))) := ⟨by (with_reducible repeat (first | refine blk_drewN ?_ _ | refine blk_drew ?_ | refine blk_alloc ?_ _)); refine blk_far ?_ NB520_532.out _; (with_reducible repeat (first | refine blk_drewN ?_ _ | refine blk_drew ?_ | refine blk_alloc ?_ _)); refine blk_far ?_ NB520_532.out _; (with_reducible repeat (first | refine blk_drewN ?_ _ | refine blk_drew ?_ | refine blk_alloc ?_ _)); refine blk_far ?_ NB520_531.out _; (with_reducible repeat (first | refine blk_drewN ?_ _ | refine blk_drew ?_ | refine blk_alloc ?_ _)); refine blk_far ?_ NB520_531.out _; (with_reducible repeat (first | refine blk_drewN ?_ _ | refine blk_drew ?_ | refine blk_alloc ?_ _)); exact BK520.out⟩
        have n3_ : Aside0 (((((w89.setCell ⟨gb531, 0, none⟩ (.int .i64 ji28)).setCell ⟨gb531, 1, none⟩ (.int .i64 ji31)).setCell ⟨gb532, 0, none⟩ (.int .i64 (wrap64 (Int.tdiv t530 a1)))).setCell ⟨gb532, 1, none⟩ (.int .i64 (Int.tmod t530 a1))).heap[gb531]? = some (.cells #[.int .i64 ji28, .int .i64 ji31] 44 (0, 0))) := ⟨by (with_reducible repeat (first | refine blk_drewN ?_ _ | refine blk_drew ?_ | refine blk_alloc ?_ _)); refine blk_far ?_ NB531_532.out _; (with_reducible repeat (first | refine blk_drewN ?_ _ | refine blk_drew ?_ | refine blk_alloc ?_ _)); refine blk_far ?_ NB531_532.out _; (with_reducible repeat (first | refine blk_drewN ?_ _ | refine blk_drew ?_ | refine blk_alloc ?_ _)); refine blk_put (cs := #[.int .i64 ji28, .int .i64 0]) ?_ 1 _ rfl; (with_reducible repeat (first | refine blk_drewN ?_ _ | refine blk_drew ?_ | refine blk_alloc ?_ _)); refine blk_put (cs := #[.int .i64 0, .int .i64 0]) ?_ 0 _ rfl; (with_reducible repeat (first | refine blk_drewN ?_ _ | refine blk_drew ?_ | refine blk_alloc ?_ _)); exact BK531.out⟩
        have n4_ : Aside0 (((((w89.setCell ⟨gb531, 0, none⟩ (.int .i64 ji28)).setCell ⟨gb531, 1, none⟩ (.int .i64 ji31)).setCell ⟨gb532, 0, none⟩ (.int .i64 (wrap64 (Int.tdiv t530 a1)))).setCell ⟨gb532, 1, none⟩ (.int .i64 (Int.tmod t530 a1))).heap[gb532]? = some (.cells #[.int .i64 (wrap64 (Int.tdiv t530 a1)), .int .i64 (Int.tmod t530 a1)] 44 (0, 0))) := ⟨by (with_reducible repeat (first | refine blk_drewN ?_ _ | refine blk_drew ?_ | refine blk_alloc ?_ _)); refine blk_put (cs := #[.int .i64 (wrap64 (Int.tdiv t530 a1)), .int .i64 0]) ?_ 1 _ rfl; (with_reducible repeat (first | refine blk_drewN ?_ _ | refine blk_drew ?_ | refine blk_alloc ?_ _)); refine blk_put (cs := #[.int .i64 0, .int .i64 0]) ?_ 0 _ rfl; (with_reducible repeat (first | refine blk_drewN ?_ _ | refine blk_drew ?_ | refine blk_alloc ?_ _)); refine blk_far ?_ NB532_531.out _; (with_reducible repeat (first | refine blk_drewN ?_ _ | refine blk_drew ?_ | refine blk_alloc ?_ _)); refine blk_far ?_ NB532_531.out _; (with_reducible repeat (first | refine blk_drewN ?_ _ | refine blk_drew ?_ | refine blk_alloc ?_ _)); exact BK532.out⟩
        have n5_ : Aside0 (Below w.heap.size w ((((w89.setCell ⟨gb531, 0, none⟩ (.int .i64 ji28)).setCell ⟨gb531, 1, none⟩ (.int .i64 ji31)).setCell ⟨gb532, 0, none⟩ (.int .i64 (wrap64 (Int.tdiv t530 a1)))).setCell ⟨gb532, 1, none⟩ (.int .i64 (Int.tmod t530 a1)))) := ⟨by repeat (first | (with_reducible first | exact HB.out | apply below_alloc | apply pw_below_drewN | apply below_drew1 | refine below_set ?_ GE519.out | refine below_set ?_ GE520.out | refine below_set ?_ GE531.out | refine below_set ?_ GE532.out) | exact HB.out)⟩
        (try clear HO_521000)
        (try clear BK519)
        (try clear BK520)
        (try clear BK531)
        (try clear BK532)
        (try clear HB)
        generalize ((((w89.setCell ⟨gb531, 0, none⟩ (.int .i64 ji28)).setCell ⟨gb531, 1, none⟩ (.int .i64 ji31)).setCell ⟨gb532, 0, none⟩ (.int .i64 (wrap64 (Int.tdiv t530 a1)))).setCell ⟨gb532, 1, none⟩ (.int .i64 (Int.tmod t530 a1))) = w94 at n0_ n1_ n2_ n3_ n4_ n5_ ⊢
        have HO_521000 := n0_
        have BK519 := n1_
        have BK520 := n2_
        have BK531 := n3_
        have BK532 := n4_
        have HB := n5_
        clear n0_ n1_ n2_ n3_ n4_ n5_
        have n0_ := Aside0.mk (Kd.S_drew HO_521000.out)
        have n1_ := Aside0.mk (blk_drew BK519.out)
        have n2_ := Aside0.mk (blk_drew BK520.out)
        have n3_ := Aside0.mk (blk_drew BK531.out)
        have n4_ := Aside0.mk (blk_drew BK532.out)
        have n5_ := Aside0.mk (below_drew1 HB.out)
        clear HO_521000
        clear BK519
        clear BK520
        clear BK531
        clear BK532
        clear HB
        have HO_521000 := n0_
        have BK519 := n1_
        have BK520 := n2_
        have BK531 := n3_
        have BK532 := n4_
        have HB := n5_
        clear n0_ n1_ n2_ n3_ n4_ n5_
        obtain ⟨Ao96, co96, eo96⟩ := Kd.S_slice HO_521000.out
        (first | subst eo96 | (injection eo96 with f1_ f2_ f3_; have f4_ := f1_.symm; have f5_ := f3_.symm; clear f1_ f2_ f3_; subst f4_; subst f5_))
        have p533 : 0 ≤ ((ji28) : Int) := of_decide_eq_true (by first | (with_reducible assumption) | assumption)
        have q533 : (ji28) < (x521000_2.length : Int) := of_decide_eq_true (by first | (with_reducible assumption) | assumption)
        obtain ⟨ad533, A533_0, c533_0, e533, hx533_0, hl533_0, hi533_0⟩ := at_L4 (Kd.S_reads' HO_521000.out).2.2 (ji28) p533 q533
        cases e533
        obtain ⟨ce533, hce533, hMe533, hcc533⟩ := Kd.S_get HO_521000.out [] (ji28) p533 (by first | exact q533 | exact of_decide_eq_true (by first | (with_reducible assumption) | assumption) | (have e_ := (Kd.S_reads' HO_521000.out).1; omega))
        obtain ⟨ve533_0, rfl, ge533_0⟩ := hMe533
        have hv533_0 := hcc533 0 _ rfl
        rw [Nat.add_zero, show ((Kd.slice 44 k44)).sz = 1 from rfl, Nat.mul_one] at hv533_0
        replace hv533_0 := Option.some.inj (hv533_0.symm.trans hx533_0)
        rw [hv533_0] at ge533_0
        have HL533_0 := Aside0.mk (show Kd.R k44 44 _ _ _ _ (rd_L4 x521000_2 (ji28)) from ge533_0)
        clear hv533_0 ge533_0
        have HX533_0 := Aside0.mk hx533_0
        clear hcc533 hce533
        have HR533_0 := Aside0.mk hi533_0
        have HC533_0 := Aside0.mk hl533_0
        clear hi533_0 hl533_0
        replace p533 := eq_true p533
        replace q533 := eq_true q533
        have p534 : 0 ≤ ((ji31) : Int) := of_decide_eq_true (by first | (with_reducible assumption) | assumption)
        have q534 : (ji31) < ((rd_L4 x521000_2 (ji28)).length : Int) := of_decide_eq_true (by first | (with_reducible assumption) | assumption)
        obtain ⟨ad534, e534, hx534_0, hx534_1⟩ := at_T44 (by repeat (first | (with_reducible exact HR533_0.out) | (with_reducible refine Kd.C_alloc ?_ _) | (with_reducible refine Kd.C_drewN ?_ _) | (with_reducible refine Kd.C_drew ?_) | exact HR533_0.out)) (ji31) p534 q534
        cases e534
        replace p534 := eq_true p534
        replace q534 := eq_true q534
        refine start_ (n := 26) (S := fun w' => w'.cell? ⟨gb520, 0, none⟩ = some (.slice (some ad533) x521000_2.length co96) ∧ w'.cell? ⟨gb531, 0, none⟩ = some (.int .i64 ji28) ∧ w'.cell? ⟨gb531, 1, none⟩ = some (.int .i64 ji31) ∧ w'.cell? (ad533.add ((ji28)).toNat) = some (.slice (some ad534) (rd_L4 x521000_2 (ji28)).length c533_0) ∧ w'.cell? (ad534.add (((ji31)).toNat * 2)) = some (.int .i64 ((rd_T44 (rd_L4 x521000_2 (ji28)) (ji31)).f0)) ∧ w'.cell? ⟨(ad534.add (((ji31)).toNat * 2)).block, (ad534.add (((ji31)).toNat * 2)).off + 1, none⟩ = some (.int .i64 ((rd_T44 (rd_L4 x521000_2 (ji28)) (ji31)).f1))) (ds := []) #[false, false, false, false, false, false, false, false, false, false, false, false, false, false, false, false, false, false, false, false, false, false, false, false, false, false] (by kernel_rfl) rfl rfl ⟨(blk_cell BK520.out 0).trans rfl, (blk_cell BK531.out 0).trans rfl, (blk_cell BK531.out 1).trans rfl, hx533_0, hx534_0, hx534_1⟩ (fun hHeld => ?_); refine with_tabW mizmazetop_built.tab16 mizmazetop_built.bits16 (fun HT_ HW_ => ?_)
        generalize w94.drew = w95 at HO_521000 BK519 BK520 BK531 BK532 HB HL533_0 HR533_0 HX533_0 hx533_0 hx534_0 hx534_1 hHeld ⊢
        refine pv_ 0 80 tb38 HT_ ?_
        refine pv_ 2 82 tb39 HT_ ?_
        refine pv_ 6 86 tb40 HT_ ?_
        refine take_ (i := 1) (N := some 81) (v := ?_) (a' := ?_) tb41 rfl rfl (take_ofW HT_.out HW_.out (by kernel_rfl)) (fun _ _ _ h => h) (Or.inl ⟨by rfl, ?_⟩) hHeld ?_ ?_
        rotate_left
        ·rintro w' ⟨s0, s1, s2, s3, s4, s5⟩
         go_simp
         with_reducible rfl
        rotate_left
        ·simp only [Act.put, List.setIfInBounds_toArray, List.set_cons_zero, List.set_cons_succ, i64_w, i32_w]
         rfl
        refine take_ (i := 3) (N := some 83) (v := ?_) (a' := ?_) tb42 rfl rfl (take_ofW HT_.out HW_.out (by kernel_rfl)) (fun _ _ _ h => h) (Or.inl ⟨by rfl, ?_⟩) hHeld ?_ ?_
        rotate_left
        ·rintro w' ⟨s0, s1, s2, s3, s4, s5⟩
         go_simp
         with_reducible rfl
        rotate_left
        ·simp only [Act.put, List.setIfInBounds_toArray, List.set_cons_zero, List.set_cons_succ, i64_w, i32_w]
         rfl
        refine pv_ 4 84 tb43 HT_ ?_
        refine take_ (i := 5) (N := some 85) (v := ?_) (a' := ?_) tb44 rfl rfl (take_ofW HT_.out HW_.out (by kernel_rfl)) (fun _ _ _ h => h) (Or.inl ⟨by rfl, ?_⟩) hHeld ?_ ?_
        rotate_left
        ·rintro w' ⟨s0, s1, s2, s3, s4, s5⟩
         go_simp
         with_reducible rfl
        rotate_left
        ·simp only [Act.put, List.setIfInBounds_toArray, List.set_cons_zero, List.set_cons_succ, i64_w, i32_w]
         rfl
        refine take_ (i := 7) (N := some 87) (v := ?_) (a' := ?_) tb45 rfl rfl (take_ofW HT_.out HW_.out (by kernel_rfl)) (fun _ _ _ h => h) (Or.inl ⟨by rfl, ?_⟩) hHeld ?_ ?_
        rotate_left
        ·rintro w' ⟨s0, s1, s2, s3, s4, s5⟩
         go_simp
         with_reducible rfl
        rotate_left
        ·simp only [Act.put, List.setIfInBounds_toArray, List.set_cons_zero, List.set_cons_succ, i64_w, i32_w]
         rfl
        refine pv_ 8 88 tb46 HT_ ?_
        refine take_ (i := 9) (N := some 89) (v := ?_) (a' := ?_) tb47 rfl rfl (take_ofW HT_.out HW_.out (by kernel_rfl)) (fun _ _ _ h => h) (Or.inl ⟨by rfl, ?_⟩) hHeld ?_ ?_
        rotate_left
        ·rintro w' ⟨s0, s1, s2, s3, s4, s5⟩
         go_simp
         with_reducible rfl
        rotate_left
        ·simp only [Act.put, List.setIfInBounds_toArray, List.set_cons_zero, List.set_cons_succ, i64_w, i32_w]
         rfl
        refine take_ (i := 10) (N := some 90) (v := ?_) (a' := ?_) tb48 rfl rfl (take_ofW HT_.out HW_.out (by kernel_rfl)) (fun _ _ _ h => h) (Or.inl ⟨by rfl, ?_⟩) hHeld ?_ ?_
        rotate_left
        ·rintro w' ⟨s0, s1, s2, s3, s4, s5⟩
         go_simp
         with_reducible rfl
        rotate_left
        ·simp only [Act.put, List.setIfInBounds_toArray, List.set_cons_zero, List.set_cons_succ, i64_w, i32_w]
         rfl
        refine pv_ 11 91 tb49 HT_ ?_
        refine pv_ 12 92 tb50 HT_ ?_
        refine pu_ 13 93 tb51 HT_ ?_
        refine pu_ 14 94 tb86 HT_ ?_
        refine pu_ 15 95 tb87 HT_ ?_
        refine pu_ 16 96 tb88 HT_ ?_
        refine pu_ 17 97 tb89 HT_ ?_
        refine pu_ 18 98 tb90 HT_ ?_
        refine pu_ 19 99 tb57 HT_ ?_
        refine pu_ 20 100 tb58 HT_ ?_
        refine pu_ 21 101 tb59 HT_ ?_
        refine pu_ 22 102 tb60 HT_ ?_
        refine pu_ 23 103 tb61 HT_ ?_
        refine pu_ 24 104 tb62 HT_ ?_
        refine pv_ 25 105 tb63 HT_ ?_
        refine done_ (done_of HT_.out (by kernel_rfl)) ?_
        try go_wp2
        go_roundg kj16
        case measure => have := HK1.out; have := HK2.out; have := HJ16.out; omega
        case rel => exact ⟨(wrap64 (x11_2 + 2)), (x521000_2), (.slice (some ad533) x521000_2.length co96), (by first | rfl | (simp; done) | (simp [*]; done)), H', ⟨by have := HK1.out; have := HK2.out; have := HJ16.out; omega⟩, ⟨by (with_reducible repeat (first | apply Kd.S_alloc | apply Kd.S_drewN | apply Kd.S_drew)); exact Kd.S_mono HO_521000.out (fun _ hk => trivial)⟩, ⟨by (with_reducible repeat (first | refine blk_drewN ?_ _ | refine blk_drew ?_ | refine blk_alloc ?_ _)); exact BK519.out⟩, ⟨by (with_reducible repeat (first | refine blk_drewN ?_ _ | refine blk_drew ?_ | refine blk_alloc ?_ _)); exact BK520.out⟩, ⟨by repeat (first | (with_reducible first | exact HB.out | apply below_alloc | apply pw_below_drewN | apply below_drew1 | refine below_set ?_ GE519.out | refine below_set ?_ GE520.out | refine below_set ?_ GE531.out | refine below_set ?_ GE532.out) | exact HB.out)⟩⟩
       rw [if_pos c34] at H
       have c34b0 : (((rd_T44 (rd_L4 x521000_2 (ji28)) (ji31)).f0) == (ji28) && (((rd_T44 (rd_L4 x521000_2 (ji28)) (ji31)).f1) == (ji31))) = true := c34
       (try (have c34b1 : decide (((rd_T44 (rd_L4 x521000_2 (ji28)) (ji31)).f0) = (ji28) && (((rd_T44 (rd_L4 x521000_2 (ji28)) (ji31)).f1) == (ji31))) = true := by simpa using c34))
       (try (have c34b2 : (((rd_T44 (rd_L4 x521000_2 (ji28)) (ji31)).f0) == (ji28) && (((rd_T44 (rd_L4 x521000_2 (ji28)) (ji31)).f1) == (ji31))) = true := by simpa using c34))
       clear c34
       obtain ⟨ji35, hji35⟩ : ∃ j_ : Int, (wrap64 (Int.tdiv t530 a1)) = j_ := ⟨_, rfl⟩
       replace H : (if 0 ≤ (ji35) then (if (ji35) < (x521000_2.length : Int) then (if 0 ≤ (Int.tmod t530 a1) then (if (Int.tmod t530 a1) < ((rd_L4 x521000_2 (ji35)).length : Int) then (if (((rd_T44 (rd_L4 x521000_2 (ji35)) (Int.tmod t530 a1)).f0) == (ji35) && (((rd_T44 (rd_L4 x521000_2 (ji35)) (Int.tmod t530 a1)).f1) == (Int.tmod t530 a1))) = true then ((some (x521000_2.set ((ji28) : Int).toNat ((rd_L4 x521000_2 (ji28)).set ((ji31) : Int).toNat (⟨ji35, Int.tmod t530 a1⟩ : S44)) : List (List (S44)))).bind fun y540 => (if (Int.tmod t530 a1) < ((rd_L4 y540 (ji35)).length : Int) then (mizmazetop_built.l2 kj16 a0 a1 l2 (wrap64 (x11_2 + 2)) (y540.set ((ji35) : Int).toNat ((rd_L4 y540 (ji35)).set ((Int.tmod t530 a1) : Int).toNat (⟨ji28, ji31⟩ : S44)))) else (none))) else (mizmazetop_built.l2 kj16 a0 a1 l2 (wrap64 (x11_2 + 2)) x521000_2)) else (none)) else (none)) else (none)) else (none)) = some r := by first | (rw [hji35] at H; exact H) | (simp only [hji35] at H ⊢; exact H)
       (try rw [hji35] at A22)
       (try rw [hji35] at A26)
       have hji35w : (IntKind.i64.wrap (Int.tdiv t530 a1)) = ji35 := (i64_w _).trans hji35
       by_cases c36 : 0 ≤ (ji35)
       rotate_left
       ·rw [if_neg c36] at H
        exact absurd H (by simp)
       rw [if_pos c36] at H
       have c36b0 : decide (0 ≤ (ji35)) = true := decide_eq_true c36
       clear c36
       by_cases c37 : (ji35) < (x521000_2.length : Int)
       rotate_left
       ·rw [if_neg c37] at H
        exact absurd H (by simp)
       rw [if_pos c37] at H
       have c37b0 : decide ((ji35) < (x521000_2.length : Int)) = true := decide_eq_true c37
       clear c37
       obtain ⟨ji38, hji38⟩ : ∃ j_ : Int, (Int.tmod t530 a1) = j_ := ⟨_, rfl⟩
       replace H : (if 0 ≤ (ji38) then (if (ji38) < ((rd_L4 x521000_2 (ji35)).length : Int) then (if (((rd_T44 (rd_L4 x521000_2 (ji35)) (ji38)).f0) == (ji35) && (((rd_T44 (rd_L4 x521000_2 (ji35)) (ji38)).f1) == (ji38))) = true then ((some (x521000_2.set ((ji28) : Int).toNat ((rd_L4 x521000_2 (ji28)).set ((ji31) : Int).toNat (⟨ji35, ji38⟩ : S44)) : List (List (S44)))).bind fun y540 => (if (ji38) < ((rd_L4 y540 (ji35)).length : Int) then (mizmazetop_built.l2 kj16 a0 a1 l2 (wrap64 (x11_2 + 2)) (y540.set ((ji35) : Int).toNat ((rd_L4 y540 (ji35)).set ((ji38) : Int).toNat (⟨ji28, ji31⟩ : S44)))) else (none))) else (mizmazetop_built.l2 kj16 a0 a1 l2 (wrap64 (x11_2 + 2)) x521000_2)) else (none)) else (none)) = some r := by first | (rw [hji38] at H; exact H) | (simp only [hji38] at H ⊢; exact H)
       (try rw [hji38] at A22)
       (try rw [hji38] at A26)
       by_cases c39 : 0 ≤ (ji38)
       rotate_left
       ·rw [if_neg c39] at H
        exact absurd H (by simp)
       rw [if_pos c39] at H
       have c39b0 : decide (0 ≤ (ji38)) = true := decide_eq_true c39
       clear c39
       by_cases c40 : (ji38) < ((rd_L4 x521000_2 (ji35)).length : Int)
       rotate_left
       ·rw [if_neg c40] at H
        exact absurd H (by simp)
       rw [if_pos c40] at H
       have c40b0 : decide ((ji38) < ((rd_L4 x521000_2 (ji35)).length : Int)) = true := decide_eq_true c40
       clear c40
       by_cases c41 : (((rd_T44 (rd_L4 x521000_2 (ji35)) (ji38)).f0) == (ji35) && (((rd_T44 (rd_L4 x521000_2 (ji35)) (ji38)).f1) == (ji38))) = true
       rotate_left
       ·rw [if_neg c41] at H
        have c41b0 : (((rd_T44 (rd_L4 x521000_2 (ji35)) (ji38)).f0) == (ji35) && (((rd_T44 (rd_L4 x521000_2 (ji35)) (ji38)).f1) == (ji38))) = false := by simpa using c41
        (try (have c41b1 : decide (((rd_T44 (rd_L4 x521000_2 (ji35)) (ji38)).f0) = (ji35) && (((rd_T44 (rd_L4 x521000_2 (ji35)) (ji38)).f1) == (ji38))) = false := by simpa using c41))
        (try (have c41b2 : (((rd_T44 (rd_L4 x521000_2 (ji35)) (ji38)).f0) == (ji35) && (((rd_T44 (rd_L4 x521000_2 (ji35)) (ji38)).f1) == (ji38))) = false := by simpa using c41))
        (try (have c41b3 : ¬ (((rd_T44 (rd_L4 x521000_2 (ji35)) (ji38)).f0) = (ji35) && (((rd_T44 (rd_L4 x521000_2 (ji35)) (ji38)).f1) == (ji38))) := by simpa using c41))
        clear c41
        have H' := Aside0.mk H
        clear H
        try go_wp2
        have n0_ := Aside0.mk (Kd.S_drew HO_521000.out)
        have n1_ := Aside0.mk (blk_drew BK519.out)
        have n2_ := Aside0.mk (blk_drew BK520.out)
        have n3_ := Aside0.mk (below_drew1 HB.out)
        clear HO_521000
        clear BK519
        clear BK520
        clear HB
        have HO_521000 := n0_
        have BK519 := n1_
        have BK520 := n2_
        have HB := n3_
        clear n0_ n1_ n2_ n3_
        have p527 : 0 ≤ (x11_2 : Int) := of_decide_eq_true (by first | (with_reducible assumption) | assumption)
        have q527 : x11_2 < (l2.length : Int) := of_decide_eq_true (by first | (with_reducible assumption) | assumption)
        obtain ⟨ad527, e527, hx527_0⟩ := Kd.at_int HR2.out x11_2 p527 q527
        have hw527_0 := hx527_0
        cases e527
        replace hx527_0 := (HB.out.cell (World.block_lt_of_cell? w _ hx527_0)).trans hx527_0
        replace p527 := eq_true p527
        replace q527 := eq_true q527
        have p529 : 0 ≤ ((ji23) : Int) := of_decide_eq_true (by first | (with_reducible assumption) | assumption)
        have q529 : (ji23) < (l2.length : Int) := of_decide_eq_true (by first | (with_reducible assumption) | assumption)
        obtain ⟨ad529, e529, hx529_0⟩ := Kd.at_int HR2.out (ji23) p529 q529
        have hw529_0 := hx529_0
        obtain rfl : ad527 = ad529 := (by injection e529)
        replace hx529_0 := (HB.out.cell (World.block_lt_of_cell? w _ hx529_0)).trans hx529_0
        replace p529 := eq_true p529
        replace q529 := eq_true q529
        refine start_ (n := 19) (S := fun w' => w'.cell? (ad527.add (x11_2).toNat) = some (.int .i64 (rd l2 x11_2)) ∧ w'.cell? (ad527.add ((ji23)).toNat) = some (.int .i64 (rd l2 (ji23)))) (ds := []) #[false, false, false, false, false, false, false, false, false, false, false, false, false, false, false, false, false, false, false] (by kernel_rfl) rfl rfl ⟨((HB.out.cell (World.block_lt_of_cell? w _ hw527_0)).trans hw527_0), ((HB.out.cell (World.block_lt_of_cell? w _ hw529_0)).trans hw529_0)⟩ (fun hHeld => ?_); refine with_tabW mizmazetop_built.tab14 mizmazetop_built.bits14 (fun HT_ HW_ => ?_)
        generalize wc.drew = w73 at HO_521000 BK519 BK520 HB hx527_0 hx529_0 hHeld ⊢
        refine pv_ 0 49 tb0 HT_ ?_
        refine pv_ 1 50 tb1 HT_ ?_
        refine pv_ 2 51 tb2 HT_ ?_
        refine pv_ 4 53 tb3 HT_ ?_
        refine pv_ 5 54 tb4 HT_ ?_
        refine pv_ 6 55 tb5 HT_ ?_
        refine pv_ 8 57 tb6 HT_ ?_
        refine pv_ 9 58 tb7 HT_ ?_
        refine pv_ 10 59 tb8 HT_ ?_
        refine pv_ 11 60 tb9 HT_ ?_
        refine pv_ 13 62 tb10 HT_ ?_
        refine pv_ 14 63 tb11 HT_ ?_
        refine pv_ 15 64 tb12 HT_ ?_
        refine take_ (i := 3) (N := some 52) (v := ?_) (a' := ?_) tb13 rfl rfl (take_ofW HT_.out HW_.out (by kernel_rfl)) (fun _ _ _ h => h) (Or.inl ⟨by rfl, ?_⟩) hHeld ?_ ?_
        rotate_left
        ·rintro w' ⟨s0, s1⟩
         go_simp
         with_reducible rfl
        rotate_left
        ·simp only [Act.put, List.setIfInBounds_toArray, List.set_cons_zero, List.set_cons_succ, i64_w, i32_w]
         rfl
        refine take_ (i := 12) (N := some 61) (v := ?_) (a' := ?_) tb14 rfl rfl (take_ofW HT_.out HW_.out (by kernel_rfl)) (fun _ _ _ h => h) (Or.inl ⟨by rfl, ?_⟩) hHeld ?_ ?_
        rotate_left
        ·rintro w' ⟨s0, s1⟩
         go_simp
         with_reducible rfl
        rotate_left
        ·simp only [Act.put, List.setIfInBounds_toArray, List.set_cons_zero, List.set_cons_succ, i64_w, i32_w]
         rfl
        refine one_ (i := 7) (N := some 56) tb15 rfl rfl (one_of HT_.out (by kernel_rfl)) (by decide) (fun K hK => ?_)
        refine goes_ Try.func27 (by kernel_rfl) rfl #[.int .i64 (rd l2 x11_2), .int .i64 (wrap64 (a0 * a1))] (by rfl) rfl rfl (by (try simp only [List.map_toArray, List.map_cons, List.map_nil]); first | done | rfl | (simp only [List.length_drop, List.length_take]; rfl)) ?_
        with_reducible refine (mizmazetop_cycle.calls (rd l2 x11_2) (wrap64 (a0 * a1)) t528 _ A22.out).mono ?_
        rintro e w' ⟨rfl, ⟨nd, rfl⟩⟩
        refine ⟨_, rfl, ?_⟩
        refine hK.out _ _ ⟨((HB.out.cell (World.block_lt_of_cell? w _ hw527_0)).trans hw527_0), ((HB.out.cell (World.block_lt_of_cell? w _ hw529_0)).trans hw529_0)⟩ (fun hHeld => ?_)
        clear hK K
        refine norm_ (a' := ?_) ?_ ?_
        rotate_left
        ·show Act.put _ (some 56) _ = _
         simp only [Act.put, List.setIfInBounds_toArray, List.set_cons_zero, List.set_cons_succ, i64_w, i32_w]
         rfl
        refine one_ (i := 16) (N := some 65) tb16 rfl rfl (one_of HT_.out (by kernel_rfl)) (by decide) (fun K hK => ?_)
        refine goes_ Try.func27 (by kernel_rfl) rfl #[.int .i64 (rd l2 (ji23)), .int .i64 (wrap64 (a0 * a1))] (by rfl) rfl rfl (by (try simp only [List.map_toArray, List.map_cons, List.map_nil]); first | done | (simp only [hji23]; rfl) | rfl | (simp only [List.length_drop, List.length_take]; rfl)) ?_
        with_reducible refine (mizmazetop_cycle.calls (rd l2 (ji23)) (wrap64 (a0 * a1)) t530 _ A26.out).mono ?_
        rintro e w' ⟨rfl, ⟨nd, rfl⟩⟩
        refine ⟨_, rfl, ?_⟩
        refine hK.out _ _ ⟨((HB.out.cell (World.block_lt_of_cell? w _ hw527_0)).trans hw527_0), ((HB.out.cell (World.block_lt_of_cell? w _ hw529_0)).trans hw529_0)⟩ (fun hHeld => ?_)
        clear hK K
        refine norm_ (a' := ?_) ?_ ?_
        rotate_left
        ·show Act.put _ (some 65) _ = _
         simp only [Act.put, List.setIfInBounds_toArray, List.set_cons_zero, List.set_cons_succ, i64_w, i32_w]
         rfl
        refine pv_ 17 12 tb17 HT_ ?_
        refine pv_ 18 13 tb18 HT_ ?_
        refine done_ (done_of HT_.out (by kernel_rfl)) ?_
        try go_wp2
        (try (rw [drewN_self w73]; generalize hq_ : World.drewN w73 _ = w73; have n0_ : Aside0 (Kd.S (Kd.slice 44 k44) 40 w73 w.heap.size (fun _ => True) u521000 x521000_2) := ⟨by rw [← hq_]; exact (by (with_reducible repeat (first | apply Kd.S_alloc | apply Kd.S_drewN | apply Kd.S_drew)); exact HO_521000.out)⟩; have n1_ : Aside0 (w73.heap[gb519]? = some (.cells #[.slice none 0 0] 38 (0, 0))) := ⟨by rw [← hq_]; exact (by (with_reducible repeat (first | refine blk_drewN ?_ _ | refine blk_drew ?_ | refine blk_alloc ?_ _)); exact BK519.out)⟩; have n2_ : Aside0 (w73.heap[gb520]? = some (.cells #[u521000] 38 (0, 0))) := ⟨by rw [← hq_]; exact (by (with_reducible repeat (first | refine blk_drewN ?_ _ | refine blk_drew ?_ | refine blk_alloc ?_ _)); exact BK520.out)⟩; have n3_ : Aside0 (Below w.heap.size w w73) := ⟨by rw [← hq_]; exact (by repeat (first | (with_reducible first | exact HB.out | apply below_alloc | apply pw_below_drewN | apply below_drew1 | refine below_set ?_ GE519.out | refine below_set ?_ GE520.out) | exact HB.out))⟩; clear HO_521000 BK519 BK520 HB hq_; have HO_521000 := n0_; have BK519 := n1_; have BK520 := n2_; have HB := n3_; clear n0_ n1_ n2_ n3_))
        have n0_ := Aside0.mk (Kd.S_drew HO_521000.out)
        have n1_ := Aside0.mk (blk_drew BK519.out)
        have n2_ := Aside0.mk (blk_drew BK520.out)
        have n3_ := Aside0.mk (below_drew1 HB.out)
        clear HO_521000
        clear BK519
        clear BK520
        clear HB
        have HO_521000 := n0_
        have BK519 := n1_
        have BK520 := n2_
        have HB := n3_
        clear n0_ n1_ n2_ n3_
        refine start_ (n := 18) (S := fun w' => True) (ds := []) #[false, false, false, false, false, false, false, false, false, false, false, false, false, false, false, false, false, false] (by kernel_rfl) rfl rfl trivial (fun hHeld => ?_); refine with_tabW mizmazetop_built.tab15 mizmazetop_built.bits15 (fun HT_ HW_ => ?_)
        generalize w73.drew = w74 at HO_521000 BK519 BK520 HB hHeld ⊢
        refine pv_ 0 66 tb19 HT_ ?_
        refine pv_ 1 67 tb20 HT_ ?_
        refine pv_ 2 68 tb21 HT_ ?_
        refine pv_ 3 69 tb22 HT_ ?_
        refine pv_ 4 70 tb23 HT_ ?_
        refine pv_ 5 71 tb24 HT_ ?_
        refine pv_ 6 72 tb25 HT_ ?_
        refine pv_ 7 73 tb26 HT_ ?_
        refine pv_ 8 74 tb27 HT_ ?_
        refine pv_ 9 75 tb28 HT_ ?_
        refine pv_ 10 76 tb29 HT_ ?_
        refine pv_ 11 77 tb30 HT_ ?_
        refine pv_ 12 78 tb31 HT_ ?_
        refine pv_ 13 79 tb32 HT_ ?_
        refine join_ (σ := Nat × Nat) 2 #[true, true, true, true, true, true, true, true, true, true, true, true, true, true, true, true, false, false] (fun s_ => [(14, .pointer (some ⟨s_.1, 0, none⟩)), (15, .pointer (some ⟨s_.2, 0, none⟩))]) (fun s_ w' => (Kd.S (Kd.slice 44 k44) 40 w' w.heap.size (fun k_ => k_ ≠ s_.1 ∧ k_ ≠ s_.2) u521000 x521000_2) ∧ (w'.heap[gb519]? = some (.cells #[.slice none 0 0] 38 (0, 0))) ∧ (w'.heap[gb520]? = some (.cells #[u521000] 38 (0, 0))) ∧ (w'.heap[s_.1]? = some (.cells #[.int .i64 0, .int .i64 0] 44 (0, 0))) ∧ (w'.heap[s_.2]? = some (.cells #[.int .i64 0, .int .i64 0] 44 (0, 0))) ∧ (w.heap.size ≤ s_.1) ∧ (w.heap.size ≤ s_.1) ∧ (gb519 ≠ s_.1) ∧ (s_.1 ≠ gb519) ∧ (gb520 ≠ s_.1) ∧ (s_.1 ≠ gb520) ∧ (s_.2 ≠ s_.1) ∧ (s_.1 ≠ s_.2) ∧ (w.heap.size ≤ s_.2) ∧ (w.heap.size ≤ s_.2) ∧ (gb519 ≠ s_.2) ∧ (s_.2 ≠ gb519) ∧ (gb520 ≠ s_.2) ∧ (s_.2 ≠ gb520) ∧ (Below w.heap.size w w')) ?_ ?_
        rotate_left
        ·intro hCont
         refine two_ (i := 14) (j := 15) (Ni := some 14) (Nj := some 15) tb33 tb34 rfl rfl rfl rfl (two_of HT_.out (by kernel_rfl)) (by decide) (by decide) (fun K hK => ?_) (fun K hK => ?_)
         ·skip
          refine box_step ?hg (N := 14) ?hd (cs := #[.int .i64 0, .int .i64 0]) (t := 44) ?hr ?_; (case hd => rfl); (case hg => rfl); (case hr => first | (go_simp; done) | (go_simp; rfl))
          intro gb531 hg w75 hbox hb
          have n0_ := Aside0.mk (Kd.S_below (Kd.S_elderB (by (with_reducible repeat (first | apply Kd.S_alloc | apply Kd.S_drewN | apply Kd.S_drew)); exact HO_521000.out) gb531 (Nat.le_of_eq hg.symm)) hb)
          have n1_ := Aside0.mk (blk_below (g := gb519) (o := .cells #[.slice none 0 0] 38 (0, 0)) (by (with_reducible repeat (first | refine blk_drewN ?_ _ | refine blk_drew ?_ | refine blk_alloc ?_ _)); exact BK519.out) hb)
          have n2_ := Aside0.mk (blk_below (g := gb520) (o := .cells #[u521000] 38 (0, 0)) (by (with_reducible repeat (first | refine blk_drewN ?_ _ | refine blk_drew ?_ | refine blk_alloc ?_ _)); exact BK520.out) hb)
          have n3_ := Aside0.mk (below_step (by repeat (first | (with_reducible first | exact HB.out | apply below_alloc | apply pw_below_drewN | apply below_drew1 | refine below_set ?_ GE519.out | refine below_set ?_ GE520.out) | exact HB.out)) hb)
          have n4_ := Aside0.mk (hbox)
          have n5_ := Aside0.mk ((by rw [hg]; exact (below_size (by repeat (first | (with_reducible first | exact HB.out | apply below_alloc | apply pw_below_drewN | apply below_drew1 | refine below_set ?_ GE519.out | refine below_set ?_ GE520.out) | exact HB.out))) : w.heap.size ≤ gb531))
          have n6_ := Aside0.mk ((by rw [hg]; exact (below_size (by repeat (first | (with_reducible first | exact HB.out | apply below_alloc | apply pw_below_drewN | apply below_drew1 | refine below_set ?_ GE519.out | refine below_set ?_ GE520.out) | exact HB.out))) : w.heap.size ≤ gb531))
          have n7_ := Aside0.mk ((by rw [hg]; exact Nat.ne_of_lt (blk_lt (g := gb519) (o := .cells #[.slice none 0 0] 38 (0, 0)) (by (with_reducible repeat (first | refine blk_drewN ?_ _ | refine blk_drew ?_ | refine blk_alloc ?_ _)); exact BK519.out)) : gb519 ≠ gb531))
          have n8_ := Aside0.mk ((by rw [hg]; exact Nat.ne_of_gt (blk_lt (g := gb519) (o := .cells #[.slice none 0 0] 38 (0, 0)) (by (with_reducible repeat (first | refine blk_drewN ?_ _ | refine blk_drew ?_ | refine blk_alloc ?_ _)); exact BK519.out)) : gb531 ≠ gb519))
          have n9_ := Aside0.mk ((by rw [hg]; exact Nat.ne_of_lt (blk_lt (g := gb520) (o := .cells #[u521000] 38 (0, 0)) (by (with_reducible repeat (first | refine blk_drewN ?_ _ | refine blk_drew ?_ | refine blk_alloc ?_ _)); exact BK520.out)) : gb520 ≠ gb531))
          have n10_ := Aside0.mk ((by rw [hg]; exact Nat.ne_of_gt (blk_lt (g := gb520) (o := .cells #[u521000] 38 (0, 0)) (by (with_reducible repeat (first | refine blk_drewN ?_ _ | refine blk_drew ?_ | refine blk_alloc ?_ _)); exact BK520.out)) : gb531 ≠ gb520))
          clear HO_521000
          clear BK519
          clear BK520
          clear HB
          have HO_521000 := n0_
          have BK519 := n1_
          have BK520 := n2_
          have HB := n3_
          have BK531 := n4_
          have GW531 := n5_
          have GE531 := n6_
          have NB519_531 := n7_
          have NB531_519 := n8_
          have NB520_531 := n9_
          have NB531_520 := n10_
          clear n0_ n1_ n2_ n3_ n4_ n5_ n6_ n7_ n8_ n9_ n10_
          clear hb hbox hg
          refine hK.out _ _ trivial (fun hHeld => ?_)
          clear hK K
          refine norm_ (a' := ?_) ?_ ?_
          rotate_left
          ·show Act.put _ (some 14) _ = _
           simp only [Act.put, List.setIfInBounds_toArray, List.set_cons_zero, List.set_cons_succ, i64_w, i32_w]
           rfl
          refine one_ (i := 15) (N := some 15) tb35 rfl rfl (one_of HT_.out (by kernel_rfl)) (by decide) (fun K hK => ?_)
          refine box_step ?hg (N := 15) ?hd (cs := #[.int .i64 0, .int .i64 0]) (t := 44) ?hr ?_; (case hd => rfl); (case hg => rfl); (case hr => first | (go_simp; done) | (go_simp; rfl))
          intro gb532 hg w76 hbox hb
          have n0_ := Aside0.mk (Kd.S_below (Kd.S_elderB (by (with_reducible repeat (first | apply Kd.S_alloc | apply Kd.S_drewN | apply Kd.S_drew)); exact HO_521000.out) gb532 (Nat.le_of_eq hg.symm)) hb)
          have n1_ := Aside0.mk (blk_below (g := gb519) (o := .cells #[.slice none 0 0] 38 (0, 0)) (by (with_reducible repeat (first | refine blk_drewN ?_ _ | refine blk_drew ?_ | refine blk_alloc ?_ _)); exact BK519.out) hb)
          have n2_ := Aside0.mk (blk_below (g := gb520) (o := .cells #[u521000] 38 (0, 0)) (by (with_reducible repeat (first | refine blk_drewN ?_ _ | refine blk_drew ?_ | refine blk_alloc ?_ _)); exact BK520.out) hb)
          have n3_ := Aside0.mk (blk_below (g := gb531) (o := .cells #[.int .i64 0, .int .i64 0] 44 (0, 0)) (by (with_reducible repeat (first | refine blk_drewN ?_ _ | refine blk_drew ?_ | refine blk_alloc ?_ _)); exact BK531.out) hb)
          have n4_ := Aside0.mk (below_step (by repeat (first | (with_reducible first | exact HB.out | apply below_alloc | apply pw_below_drewN | apply below_drew1 | refine below_set ?_ GE519.out | refine below_set ?_ GE520.out | refine below_set ?_ GE531.out) | exact HB.out)) hb)
          have n5_ := Aside0.mk (hbox)
          have n6_ := Aside0.mk ((by rw [hg]; exact (below_size (by repeat (first | (with_reducible first | exact HB.out | apply below_alloc | apply pw_below_drewN | apply below_drew1 | refine below_set ?_ GE519.out | refine below_set ?_ GE520.out | refine below_set ?_ GE531.out) | exact HB.out))) : w.heap.size ≤ gb532))
          have n7_ := Aside0.mk ((by rw [hg]; exact (below_size (by repeat (first | (with_reducible first | exact HB.out | apply below_alloc | apply pw_below_drewN | apply below_drew1 | refine below_set ?_ GE519.out | refine below_set ?_ GE520.out | refine below_set ?_ GE531.out) | exact HB.out))) : w.heap.size ≤ gb532))
          have n8_ := Aside0.mk ((by rw [hg]; exact Nat.ne_of_lt (blk_lt (g := gb519) (o := .cells #[.slice none 0 0] 38 (0, 0)) (by (with_reducible repeat (first | refine blk_drewN ?_ _ | refine blk_drew ?_ | refine blk_alloc ?_ _)); exact BK519.out)) : gb519 ≠ gb532))
          have n9_ := Aside0.mk ((by rw [hg]; exact Nat.ne_of_gt (blk_lt (g := gb519) (o := .cells #[.slice none 0 0] 38 (0, 0)) (by (with_reducible repeat (first | refine blk_drewN ?_ _ | refine blk_drew ?_ | refine blk_alloc ?_ _)); exact BK519.out)) : gb532 ≠ gb519))
          have n10_ := Aside0.mk ((by rw [hg]; exact Nat.ne_of_lt (blk_lt (g := gb520) (o := .cells #[u521000] 38 (0, 0)) (by (with_reducible repeat (first | refine blk_drewN ?_ _ | refine blk_drew ?_ | refine blk_alloc ?_ _)); exact BK520.out)) : gb520 ≠ gb532))
          have n11_ := Aside0.mk ((by rw [hg]; exact Nat.ne_of_gt (blk_lt (g := gb520) (o := .cells #[u521000] 38 (0, 0)) (by (with_reducible repeat (first | refine blk_drewN ?_ _ | refine blk_drew ?_ | refine blk_alloc ?_ _)); exact BK520.out)) : gb532 ≠ gb520))
          have n12_ := Aside0.mk ((by rw [hg]; exact Nat.ne_of_lt (blk_lt (g := gb531) (o := .cells #[.int .i64 0, .int .i64 0] 44 (0, 0)) (by (with_reducible repeat (first | refine blk_drewN ?_ _ | refine blk_drew ?_ | refine blk_alloc ?_ _)); exact BK531.out)) : gb531 ≠ gb532))
          have n13_ := Aside0.mk ((by rw [hg]; exact Nat.ne_of_gt (blk_lt (g := gb531) (o := .cells #[.int .i64 0, .int .i64 0] 44 (0, 0)) (by (with_reducible repeat (first | refine blk_drewN ?_ _ | refine blk_drew ?_ | refine blk_alloc ?_ _)); exact BK531.out)) : gb532 ≠ gb531))
          clear HO_521000
          clear BK519
          clear BK520
          clear BK531
          clear HB
          have HO_521000 := n0_
          have BK519 := n1_
          have BK520 := n2_
          have BK531 := n3_
          have HB := n4_
          have BK532 := n5_
          have GW532 := n6_
          have GE532 := n7_
          have NB519_532 := n8_
          have NB532_519 := n9_
          have NB520_532 := n10_
          have NB532_520 := n11_
          have NB531_532 := n12_
          have NB532_531 := n13_
          clear n0_ n1_ n2_ n3_ n4_ n5_ n6_ n7_ n8_ n9_ n10_ n11_ n12_ n13_
          clear hb hbox hg
          refine hK.out _ _ trivial (fun hHeld => ?_)
          clear hK K
          refine norm_ (a' := ?_) ?_ ?_
          rotate_left
          ·show Act.put _ (some 15) _ = _
           simp only [Act.put, List.setIfInBounds_toArray, List.set_cons_zero, List.set_cons_succ, i64_w, i32_w]
           rfl
          exact norm_ (by simp only [putAll, Act.put, List.setIfInBounds_toArray, List.set_cons_zero, List.set_cons_succ]) (hCont (gb531, gb532) _ ⟨(by (with_reducible repeat (first | apply Kd.S_alloc | apply Kd.S_drewN | apply Kd.S_drew)); exact Kd.S_mono HO_521000.out (fun _ hk => ⟨hk.1.2, hk.2⟩)), (by (with_reducible repeat (first | refine blk_drewN ?_ _ | refine blk_drew ?_ | refine blk_alloc ?_ _)); exact BK519.out), (by (with_reducible repeat (first | refine blk_drewN ?_ _ | refine blk_drew ?_ | refine blk_alloc ?_ _)); exact BK520.out), (by (with_reducible repeat (first | refine blk_drewN ?_ _ | refine blk_drew ?_ | refine blk_alloc ?_ _)); exact BK531.out), (by (with_reducible repeat (first | refine blk_drewN ?_ _ | refine blk_drew ?_ | refine blk_alloc ?_ _)); exact BK532.out), GW531.out, GE531.out, NB519_531.out, NB531_519.out, NB520_531.out, NB531_520.out, NB532_531.out, NB531_532.out, GW532.out, GE532.out, NB519_532.out, NB532_519.out, NB520_532.out, NB532_520.out, (by repeat (first | (with_reducible first | exact HB.out | apply below_alloc | apply pw_below_drewN | apply below_drew1 | refine below_set ?_ GE519.out | refine below_set ?_ GE520.out | refine below_set ?_ GE531.out | refine below_set ?_ GE532.out) | exact HB.out))⟩)
         ·skip
          refine box_step ?hg (N := 15) ?hd (cs := #[.int .i64 0, .int .i64 0]) (t := 44) ?hr ?_; (case hd => rfl); (case hg => rfl); (case hr => first | (go_simp; done) | (go_simp; rfl))
          intro gb532 hg w75 hbox hb
          have n0_ := Aside0.mk (Kd.S_below (Kd.S_elderB (by (with_reducible repeat (first | apply Kd.S_alloc | apply Kd.S_drewN | apply Kd.S_drew)); exact HO_521000.out) gb532 (Nat.le_of_eq hg.symm)) hb)
          have n1_ := Aside0.mk (blk_below (g := gb519) (o := .cells #[.slice none 0 0] 38 (0, 0)) (by (with_reducible repeat (first | refine blk_drewN ?_ _ | refine blk_drew ?_ | refine blk_alloc ?_ _)); exact BK519.out) hb)
          have n2_ := Aside0.mk (blk_below (g := gb520) (o := .cells #[u521000] 38 (0, 0)) (by (with_reducible repeat (first | refine blk_drewN ?_ _ | refine blk_drew ?_ | refine blk_alloc ?_ _)); exact BK520.out) hb)
          have n3_ := Aside0.mk (below_step (by repeat (first | (with_reducible first | exact HB.out | apply below_alloc | apply pw_below_drewN | apply below_drew1 | refine below_set ?_ GE519.out | refine below_set ?_ GE520.out) | exact HB.out)) hb)
          have n4_ := Aside0.mk (hbox)
          have n5_ := Aside0.mk ((by rw [hg]; exact (below_size (by repeat (first | (with_reducible first | exact HB.out | apply below_alloc | apply pw_below_drewN | apply below_drew1 | refine below_set ?_ GE519.out | refine below_set ?_ GE520.out) | exact HB.out))) : w.heap.size ≤ gb532))
          have n6_ := Aside0.mk ((by rw [hg]; exact (below_size (by repeat (first | (with_reducible first | exact HB.out | apply below_alloc | apply pw_below_drewN | apply below_drew1 | refine below_set ?_ GE519.out | refine below_set ?_ GE520.out) | exact HB.out))) : w.heap.size ≤ gb532))
          have n7_ := Aside0.mk ((by rw [hg]; exact Nat.ne_of_lt (blk_lt (g := gb519) (o := .cells #[.slice none 0 0] 38 (0, 0)) (by (with_reducible repeat (first | refine blk_drewN ?_ _ | refine blk_drew ?_ | refine blk_alloc ?_ _)); exact BK519.out)) : gb519 ≠ gb532))
          have n8_ := Aside0.mk ((by rw [hg]; exact Nat.ne_of_gt (blk_lt (g := gb519) (o := .cells #[.slice none 0 0] 38 (0, 0)) (by (with_reducible repeat (first | refine blk_drewN ?_ _ | refine blk_drew ?_ | refine blk_alloc ?_ _)); exact BK519.out)) : gb532 ≠ gb519))
          have n9_ := Aside0.mk ((by rw [hg]; exact Nat.ne_of_lt (blk_lt (g := gb520) (o := .cells #[u521000] 38 (0, 0)) (by (with_reducible repeat (first | refine blk_drewN ?_ _ | refine blk_drew ?_ | refine blk_alloc ?_ _)); exact BK520.out)) : gb520 ≠ gb532))
          have n10_ := Aside0.mk ((by rw [hg]; exact Nat.ne_of_gt (blk_lt (g := gb520) (o := .cells #[u521000] 38 (0, 0)) (by (with_reducible repeat (first | refine blk_drewN ?_ _ | refine blk_drew ?_ | refine blk_alloc ?_ _)); exact BK520.out)) : gb532 ≠ gb520))
          clear HO_521000
          clear BK519
          clear BK520
          clear HB
          have HO_521000 := n0_
          have BK519 := n1_
          have BK520 := n2_
          have HB := n3_
          have BK532 := n4_
          have GW532 := n5_
          have GE532 := n6_
          have NB519_532 := n7_
          have NB532_519 := n8_
          have NB520_532 := n9_
          have NB532_520 := n10_
          clear n0_ n1_ n2_ n3_ n4_ n5_ n6_ n7_ n8_ n9_ n10_
          clear hb hbox hg
          refine hK.out _ _ trivial (fun hHeld => ?_)
          clear hK K
          refine norm_ (a' := ?_) ?_ ?_
          rotate_left
          ·show Act.put _ (some 15) _ = _
           simp only [Act.put, List.setIfInBounds_toArray, List.set_cons_zero, List.set_cons_succ, i64_w, i32_w]
           rfl
          refine one_ (i := 14) (N := some 14) tb35 rfl rfl (one_of HT_.out (by kernel_rfl)) (by decide) (fun K hK => ?_)
          refine box_step ?hg (N := 14) ?hd (cs := #[.int .i64 0, .int .i64 0]) (t := 44) ?hr ?_; (case hd => rfl); (case hg => rfl); (case hr => first | (go_simp; done) | (go_simp; rfl))
          intro gb531 hg w76 hbox hb
          have n0_ := Aside0.mk (Kd.S_below (Kd.S_elderB (by (with_reducible repeat (first | apply Kd.S_alloc | apply Kd.S_drewN | apply Kd.S_drew)); exact HO_521000.out) gb531 (Nat.le_of_eq hg.symm)) hb)
          have n1_ := Aside0.mk (blk_below (g := gb519) (o := .cells #[.slice none 0 0] 38 (0, 0)) (by (with_reducible repeat (first | refine blk_drewN ?_ _ | refine blk_drew ?_ | refine blk_alloc ?_ _)); exact BK519.out) hb)
          have n2_ := Aside0.mk (blk_below (g := gb520) (o := .cells #[u521000] 38 (0, 0)) (by (with_reducible repeat (first | refine blk_drewN ?_ _ | refine blk_drew ?_ | refine blk_alloc ?_ _)); exact BK520.out) hb)
          have n3_ := Aside0.mk (blk_below (g := gb532) (o := .cells #[.int .i64 0, .int .i64 0] 44 (0, 0)) (by (with_reducible repeat (first | refine blk_drewN ?_ _ | refine blk_drew ?_ | refine blk_alloc ?_ _)); exact BK532.out) hb)
          have n4_ := Aside0.mk (below_step (by repeat (first | (with_reducible first | exact HB.out | apply below_alloc | apply pw_below_drewN | apply below_drew1 | refine below_set ?_ GE519.out | refine below_set ?_ GE520.out | refine below_set ?_ GE532.out) | exact HB.out)) hb)
          have n5_ := Aside0.mk (hbox)
          have n6_ := Aside0.mk ((by rw [hg]; exact (below_size (by repeat (first | (with_reducible first | exact HB.out | apply below_alloc | apply pw_below_drewN | apply below_drew1 | refine below_set ?_ GE519.out | refine below_set ?_ GE520.out | refine below_set ?_ GE532.out) | exact HB.out))) : w.heap.size ≤ gb531))
          have n7_ := Aside0.mk ((by rw [hg]; exact (below_size (by repeat (first | (with_reducible first | exact HB.out | apply below_alloc | apply pw_below_drewN | apply below_drew1 | refine below_set ?_ GE519.out | refine below_set ?_ GE520.out | refine below_set ?_ GE532.out) | exact HB.out))) : w.heap.size ≤ gb531))
          have n8_ := Aside0.mk ((by rw [hg]; exact Nat.ne_of_lt (blk_lt (g := gb519) (o := .cells #[.slice none 0 0] 38 (0, 0)) (by (with_reducible repeat (first | refine blk_drewN ?_ _ | refine blk_drew ?_ | refine blk_alloc ?_ _)); exact BK519.out)) : gb519 ≠ gb531))
          have n9_ := Aside0.mk ((by rw [hg]; exact Nat.ne_of_gt (blk_lt (g := gb519) (o := .cells #[.slice none 0 0] 38 (0, 0)) (by (with_reducible repeat (first | refine blk_drewN ?_ _ | refine blk_drew ?_ | refine blk_alloc ?_ _)); exact BK519.out)) : gb531 ≠ gb519))
          have n10_ := Aside0.mk ((by rw [hg]; exact Nat.ne_of_lt (blk_lt (g := gb520) (o := .cells #[u521000] 38 (0, 0)) (by (with_reducible repeat (first | refine blk_drewN ?_ _ | refine blk_drew ?_ | refine blk_alloc ?_ _)); exact BK520.out)) : gb520 ≠ gb531))
          have n11_ := Aside0.mk ((by rw [hg]; exact Nat.ne_of_gt (blk_lt (g := gb520) (o := .cells #[u521000] 38 (0, 0)) (by (with_reducible repeat (first | refine blk_drewN ?_ _ | refine blk_drew ?_ | refine blk_alloc ?_ _)); exact BK520.out)) : gb531 ≠ gb520))
          have n12_ := Aside0.mk ((by rw [hg]; exact Nat.ne_of_lt (blk_lt (g := gb532) (o := .cells #[.int .i64 0, .int .i64 0] 44 (0, 0)) (by (with_reducible repeat (first | refine blk_drewN ?_ _ | refine blk_drew ?_ | refine blk_alloc ?_ _)); exact BK532.out)) : gb532 ≠ gb531))
          have n13_ := Aside0.mk ((by rw [hg]; exact Nat.ne_of_gt (blk_lt (g := gb532) (o := .cells #[.int .i64 0, .int .i64 0] 44 (0, 0)) (by (with_reducible repeat (first | refine blk_drewN ?_ _ | refine blk_drew ?_ | refine blk_alloc ?_ _)); exact BK532.out)) : gb531 ≠ gb532))
          clear HO_521000
          clear BK519
          clear BK520
          clear BK532
          clear HB
          have HO_521000 := n0_
          have BK519 := n1_
          have BK520 := n2_
          have BK532 := n3_
          have HB := n4_
          have BK531 := n5_
          have GW531 := n6_
          have GE531 := n7_
          have NB519_531 := n8_
          have NB531_519 := n9_
          have NB520_531 := n10_
          have NB531_520 := n11_
          have NB532_531 := n12_
          have NB531_532 := n13_
          clear n0_ n1_ n2_ n3_ n4_ n5_ n6_ n7_ n8_ n9_ n10_ n11_ n12_ n13_
          clear hb hbox hg
          refine hK.out _ _ trivial (fun hHeld => ?_)
          clear hK K
          refine norm_ (a' := ?_) ?_ ?_
          rotate_left
          ·show Act.put _ (some 14) _ = _
           simp only [Act.put, List.setIfInBounds_toArray, List.set_cons_zero, List.set_cons_succ, i64_w, i32_w]
           rfl
          exact norm_ (by simp only [putAll, Act.put, List.setIfInBounds_toArray, List.set_cons_zero, List.set_cons_succ]) (hCont (gb531, gb532) _ ⟨(by (with_reducible repeat (first | apply Kd.S_alloc | apply Kd.S_drewN | apply Kd.S_drew)); exact Kd.S_mono HO_521000.out (fun _ hk => ⟨hk.2, hk.1.2⟩)), (by (with_reducible repeat (first | refine blk_drewN ?_ _ | refine blk_drew ?_ | refine blk_alloc ?_ _)); exact BK519.out), (by (with_reducible repeat (first | refine blk_drewN ?_ _ | refine blk_drew ?_ | refine blk_alloc ?_ _)); exact BK520.out), (by (with_reducible repeat (first | refine blk_drewN ?_ _ | refine blk_drew ?_ | refine blk_alloc ?_ _)); exact BK531.out), (by (with_reducible repeat (first | refine blk_drewN ?_ _ | refine blk_drew ?_ | refine blk_alloc ?_ _)); exact BK532.out), GW531.out, GE531.out, NB519_531.out, NB531_519.out, NB520_531.out, NB531_520.out, NB532_531.out, NB531_532.out, GW532.out, GE532.out, NB519_532.out, NB532_519.out, NB520_532.out, NB532_520.out, (by repeat (first | (with_reducible first | exact HB.out | apply below_alloc | apply pw_below_drewN | apply below_drew1 | refine below_set ?_ GE519.out | refine below_set ?_ GE520.out | refine below_set ?_ GE532.out | refine below_set ?_ GE531.out) | exact HB.out))⟩)
        rintro ⟨gb531, gb532⟩ w77 ⟨h0_, h1_, h2_, h3_, h4_, h5_, h6_, h7_, h8_, h9_, h10_, h11_, h12_, h13_, h14_, h15_, h16_, h17_, h18_, h19_⟩
        have n0_ : Aside0 (Kd.S (Kd.slice 44 k44) 40 w77 w.heap.size (fun k_ => k_ ≠ gb531 ∧ k_ ≠ gb532) u521000 x521000_2) := ⟨h0_⟩
        have n1_ : Aside0 (w77.heap[gb519]? = some (.cells #[.slice none 0 0] 38 (0, 0))) := ⟨h1_⟩
        have n2_ : Aside0 (w77.heap[gb520]? = some (.cells #[u521000] 38 (0, 0))) := ⟨h2_⟩
        have n3_ : Aside0 (w77.heap[gb531]? = some (.cells #[.int .i64 0, .int .i64 0] 44 (0, 0))) := ⟨h3_⟩
        have n4_ : Aside0 (w77.heap[gb532]? = some (.cells #[.int .i64 0, .int .i64 0] 44 (0, 0))) := ⟨h4_⟩
        have n5_ : Aside0 (w.heap.size ≤ gb531) := ⟨h5_⟩
        have n6_ : Aside0 (w.heap.size ≤ gb531) := ⟨h6_⟩
        have n7_ : Aside0 (gb519 ≠ gb531) := ⟨h7_⟩
        have n8_ : Aside0 (gb531 ≠ gb519) := ⟨h8_⟩
        have n9_ : Aside0 (gb520 ≠ gb531) := ⟨h9_⟩
        have n10_ : Aside0 (gb531 ≠ gb520) := ⟨h10_⟩
        have n11_ : Aside0 (gb532 ≠ gb531) := ⟨h11_⟩
        have n12_ : Aside0 (gb531 ≠ gb532) := ⟨h12_⟩
        have n13_ : Aside0 (w.heap.size ≤ gb532) := ⟨h13_⟩
        have n14_ : Aside0 (w.heap.size ≤ gb532) := ⟨h14_⟩
        have n15_ : Aside0 (gb519 ≠ gb532) := ⟨h15_⟩
        have n16_ : Aside0 (gb532 ≠ gb519) := ⟨h16_⟩
        have n17_ : Aside0 (gb520 ≠ gb532) := ⟨h17_⟩
        have n18_ : Aside0 (gb532 ≠ gb520) := ⟨h18_⟩
        have n19_ : Aside0 (Below w.heap.size w w77) := ⟨h19_⟩
        clear HO_521000
        clear BK519
        clear BK520
        clear HB
        clear h0_ h1_ h2_ h3_ h4_ h5_ h6_ h7_ h8_ h9_ h10_ h11_ h12_ h13_ h14_ h15_ h16_ h17_ h18_ h19_
        have HO_521000 := n0_
        have BK519 := n1_
        have BK520 := n2_
        have BK531 := n3_
        have BK532 := n4_
        have GW531 := n5_
        have GE531 := n6_
        have NB519_531 := n7_
        have NB531_519 := n8_
        have NB520_531 := n9_
        have NB531_520 := n10_
        have NB532_531 := n11_
        have NB531_532 := n12_
        have GW532 := n13_
        have GE532 := n14_
        have NB519_532 := n15_
        have NB532_519 := n16_
        have NB520_532 := n17_
        have NB532_520 := n18_
        have HB := n19_
        clear n0_ n1_ n2_ n3_ n4_ n5_ n6_ n7_ n8_ n9_ n10_ n11_ n12_ n13_ n14_ n15_ n16_ n17_ n18_ n19_
        have hHeld := trivial
        refine norm_ (a' := ?_) ?_ ?_
        rotate_left
        ·simp only [putAll, Act.put, List.setIfInBounds_toArray, List.set_cons_zero, List.set_cons_succ]
         rfl
        refine one_ (i := 16) (N := none) tb36 rfl rfl (one_of HT_.out (by kernel_rfl)) (by decide) (fun K hK => ?_)
        have hs78 : w77.cell? ⟨gb531, 0, none⟩ = some (.int .i64 0) := (blk_cell BK531.out 0).trans rfl
        have hfs78 := blk_frozen BK531.out 0
        have hns78_0 := NB519_531.out
        have hns78_1 := NB520_531.out
        have hns78_3 := NB532_531.out
        have hms78_0 := NB531_519.out
        have hms78_1 := NB531_520.out
        have hms78_3 := NB531_532.out
        have hs79 : w77.cell? ⟨gb531, 1, none⟩ = some (.int .i64 0) := (blk_cell BK531.out 1).trans rfl
        have hfs79 := blk_frozen BK531.out 1
        have hns79_0 := NB519_531.out
        have hns79_1 := NB520_531.out
        have hns79_3 := NB532_531.out
        have hms79_0 := NB531_519.out
        have hms79_1 := NB531_520.out
        have hms79_3 := NB531_532.out
        refine skip_ (w1 := ?_) (by rfl) rfl ?_ ?_
        rotate_left
        ·go_simp
         rfl
        refine hK.out _ _ trivial (fun hHeld => ?_)
        clear hK K
        refine one_ (i := 17) (N := none) tb37 rfl rfl (one_of HT_.out (by kernel_rfl)) (by decide) (fun K hK => ?_)
        have hs80 : w77.cell? ⟨gb532, 0, none⟩ = some (.int .i64 0) := (blk_cell BK532.out 0).trans rfl
        have hfs80 := blk_frozen BK532.out 0
        have hns80_0 := NB519_532.out
        have hns80_1 := NB520_532.out
        have hns80_2 := NB531_532.out
        have hms80_0 := NB532_519.out
        have hms80_1 := NB532_520.out
        have hms80_2 := NB532_531.out
        have hs81 : w77.cell? ⟨gb532, 1, none⟩ = some (.int .i64 0) := (blk_cell BK532.out 1).trans rfl
        have hfs81 := blk_frozen BK532.out 1
        have hns81_0 := NB519_532.out
        have hns81_1 := NB520_532.out
        have hns81_2 := NB531_532.out
        have hms81_0 := NB532_519.out
        have hms81_1 := NB532_520.out
        have hms81_2 := NB532_531.out
        refine skip_ (w1 := ?_) (by rfl) rfl ?_ ?_
        rotate_left
        ·go_simp
         rfl
        refine hK.out _ _ trivial (fun hHeld => ?_)
        clear hK K
        refine done_ (done_of HT_.out (by kernel_rfl)) ?_
        try go_wp2
        have n0_ : Aside0 (Kd.S (Kd.slice 44 k44) 40 ((((w77.setCell ⟨gb531, 0, none⟩ (.int .i64 ji28)).setCell ⟨gb531, 1, none⟩ (.int .i64 ji31)).setCell ⟨gb532, 0, none⟩ (.int .i64 ji35)).setCell ⟨gb532, 1, none⟩ (.int .i64 ji38)) w.heap.size (fun k_ => k_ ≠ gb531 ∧ k_ ≠ gb532) u521000 x521000_2) := ⟨by (with_reducible repeat (first | apply Kd.S_alloc | apply Kd.S_drewN | apply Kd.S_drew)); exact Kd.S_mono (Kd.S_far (p := ⟨gb532, 1, none⟩) (Kd.S_far (p := ⟨gb532, 0, none⟩) (Kd.S_far (p := ⟨gb531, 1, none⟩) (Kd.S_far (p := ⟨gb531, 0, none⟩) (Kd.S_mono (Kd.S_mono HO_521000.out (fun k_ hk => (⟨hk, hk.1⟩ : _ ∧ k_ ≠ gb531))) (fun k_ hk => (⟨hk, hk.1.2⟩ : _ ∧ k_ ≠ gb532))) (fun _ hk => hk.1.2) (.int .i64 ji28)) (fun _ hk => hk.1.2) (.int .i64 ji31)) (fun _ hk => hk.2) (.int .i64 ji35)) (fun _ hk => hk.2) (.int .i64 ji38)) (fun _ hk => ⟨hk.1.1.1, hk.1.1.2⟩)⟩
        have n1_ : Aside0 (((((w77.setCell ⟨gb531, 0, none⟩ (.int .i64 ji28)).setCell ⟨gb531, 1, none⟩ (.int .i64 ji31)).setCell ⟨gb532, 0, none⟩ (.int .i64 ji35)).setCell ⟨gb532, 1, none⟩ (.int .i64 ji38)).heap[gb519]? = some (.cells #[.slice none 0 0] 38 (0, 0))) := ⟨by (with_reducible repeat (first | refine blk_drewN ?_ _ | refine blk_drew ?_ | refine blk_alloc ?_ _)); refine blk_far ?_ NB519_532.out _; (with_reducible repeat (first | refine blk_drewN ?_ _ | refine blk_drew ?_ | refine blk_alloc ?_ _)); refine blk_far ?_ NB519_532.out _; (with_reducible repeat (first | refine blk_drewN ?_ _ | refine blk_drew ?_ | refine blk_alloc ?_ _)); refine blk_far ?_ NB519_531.out _; (with_reducible repeat (first | refine blk_drewN ?_ _ | refine blk_drew ?_ | refine blk_alloc ?_ _)); refine blk_far ?_ NB519_531.out _; (with_reducible repeat (first | refine blk_drewN ?_ _ | refine blk_drew ?_ | refine blk_alloc ?_ _)); exact BK519.out⟩
        have n2_ : Aside0 (((((w77.setCell ⟨gb531, 0, none⟩ (.int .i64 ji28)).setCell ⟨gb531, 1, none⟩ (.int .i64 ji31)).setCell ⟨gb532, 0, none⟩ (.int .i64 ji35)).setCell ⟨gb532, 1, none⟩ (.int .i64 ji38)).heap[gb520]? = some (.cells #[u521000] 38 (0, 0))) := ⟨by (with_reducible repeat (first | refine blk_drewN ?_ _ | refine blk_drew ?_ | refine blk_alloc ?_ _)); refine blk_far ?_ NB520_532.out _; (with_reducible repeat (first | refine blk_drewN ?_ _ | refine blk_drew ?_ | refine blk_alloc ?_ _)); refine blk_far ?_ NB520_532.out _; (with_reducible repeat (first | refine blk_drewN ?_ _ | refine blk_drew ?_ | refine blk_alloc ?_ _)); refine blk_far ?_ NB520_531.out _; (with_reducible repeat (first | refine blk_drewN ?_ _ | refine blk_drew ?_ | refine blk_alloc ?_ _)); refine blk_far ?_ NB520_531.out _; (with_reducible repeat (first | refine blk_drewN ?_ _ | refine blk_drew ?_ | refine blk_alloc ?_ _)); exact BK520.out⟩
        have n3_ : Aside0 (((((w77.setCell ⟨gb531, 0, none⟩ (.int .i64 ji28)).setCell ⟨gb531, 1, none⟩ (.int .i64 ji31)).setCell ⟨gb532, 0, none⟩ (.int .i64 ji35)).setCell ⟨gb532, 1, none⟩ (.int .i64 ji38)).heap[gb531]? = some (.cells #[.int .i64 ji28, .int .i64 ji31] 44 (0, 0))) := ⟨by (with_reducible repeat (first | refine blk_drewN ?_ _ | refine blk_drew ?_ | refine blk_alloc ?_ _)); refine blk_far ?_ NB531_532.out _; (with_reducible repeat (first | refine blk_drewN ?_ _ | refine blk_drew ?_ | refine blk_alloc ?_ _)); refine blk_far ?_ NB531_532.out _; (with_reducible repeat (first | refine blk_drewN ?_ _ | refine blk_drew ?_ | refine blk_alloc ?_ _)); refine blk_put (cs := #[.int .i64 ji28, .int .i64 0]) ?_ 1 _ rfl; (with_reducible repeat (first | refine blk_drewN ?_ _ | refine blk_drew ?_ | refine blk_alloc ?_ _)); refine blk_put (cs := #[.int .i64 0, .int .i64 0]) ?_ 0 _ rfl; (with_reducible repeat (first | refine blk_drewN ?_ _ | refine blk_drew ?_ | refine blk_alloc ?_ _)); exact BK531.out⟩
        have n4_ : Aside0 (((((w77.setCell ⟨gb531, 0, none⟩ (.int .i64 ji28)).setCell ⟨gb531, 1, none⟩ (.int .i64 ji31)).setCell ⟨gb532, 0, none⟩ (.int .i64 ji35)).setCell ⟨gb532, 1, none⟩ (.int .i64 ji38)).heap[gb532]? = some (.cells #[.int .i64 ji35, .int .i64 ji38] 44 (0, 0))) := ⟨by (with_reducible repeat (first | refine blk_drewN ?_ _ | refine blk_drew ?_ | refine blk_alloc ?_ _)); refine blk_put (cs := #[.int .i64 ji35, .int .i64 0]) ?_ 1 _ rfl; (with_reducible repeat (first | refine blk_drewN ?_ _ | refine blk_drew ?_ | refine blk_alloc ?_ _)); refine blk_put (cs := #[.int .i64 0, .int .i64 0]) ?_ 0 _ rfl; (with_reducible repeat (first | refine blk_drewN ?_ _ | refine blk_drew ?_ | refine blk_alloc ?_ _)); refine blk_far ?_ NB532_531.out _; (with_reducible repeat (first | refine blk_drewN ?_ _ | refine blk_drew ?_ | refine blk_alloc ?_ _)); refine blk_far ?_ NB532_531.out _; (with_reducible repeat (first | refine blk_drewN ?_ _ | refine blk_drew ?_ | refine blk_alloc ?_ _)); exact BK532.out⟩
        have n5_ : Aside0 (Below w.heap.size w ((((w77.setCell ⟨gb531, 0, none⟩ (.int .i64 ji28)).setCell ⟨gb531, 1, none⟩ (.int .i64 ji31)).setCell ⟨gb532, 0, none⟩ (.int .i64 ji35)).setCell ⟨gb532, 1, none⟩ (.int .i64 ji38))) := ⟨by repeat (first | (with_reducible first | exact HB.out | apply below_alloc | apply pw_below_drewN | apply below_drew1 | refine below_set ?_ GE519.out | refine below_set ?_ GE520.out | refine below_set ?_ GE531.out | refine below_set ?_ GE532.out) | exact HB.out)⟩
        (try clear HO_521000)
        (try clear BK519)
        (try clear BK520)
        (try clear BK531)
        (try clear BK532)
        (try clear HB)
        generalize ((((w77.setCell ⟨gb531, 0, none⟩ (.int .i64 ji28)).setCell ⟨gb531, 1, none⟩ (.int .i64 ji31)).setCell ⟨gb532, 0, none⟩ (.int .i64 ji35)).setCell ⟨gb532, 1, none⟩ (.int .i64 ji38)) = w82 at n0_ n1_ n2_ n3_ n4_ n5_ ⊢
        have HO_521000 := n0_
        have BK519 := n1_
        have BK520 := n2_
        have BK531 := n3_
        have BK532 := n4_
        have HB := n5_
        clear n0_ n1_ n2_ n3_ n4_ n5_
        have n0_ := Aside0.mk (Kd.S_drew HO_521000.out)
        have n1_ := Aside0.mk (blk_drew BK519.out)
        have n2_ := Aside0.mk (blk_drew BK520.out)
        have n3_ := Aside0.mk (blk_drew BK531.out)
        have n4_ := Aside0.mk (blk_drew BK532.out)
        have n5_ := Aside0.mk (below_drew1 HB.out)
        clear HO_521000
        clear BK519
        clear BK520
        clear BK531
        clear BK532
        clear HB
        have HO_521000 := n0_
        have BK519 := n1_
        have BK520 := n2_
        have BK531 := n3_
        have BK532 := n4_
        have HB := n5_
        clear n0_ n1_ n2_ n3_ n4_ n5_
        obtain ⟨Ao84, co84, eo84⟩ := Kd.S_slice HO_521000.out
        (first | subst eo84 | (injection eo84 with f1_ f2_ f3_; have f4_ := f1_.symm; have f5_ := f3_.symm; clear f1_ f2_ f3_; subst f4_; subst f5_))
        have p533 : 0 ≤ ((ji28) : Int) := of_decide_eq_true (by first | (with_reducible assumption) | assumption)
        have q533 : (ji28) < (x521000_2.length : Int) := of_decide_eq_true (by first | (with_reducible assumption) | assumption)
        obtain ⟨ad533, A533_0, c533_0, e533, hx533_0, hl533_0, hi533_0⟩ := at_L4 (Kd.S_reads' HO_521000.out).2.2 (ji28) p533 q533
        cases e533
        obtain ⟨ce533, hce533, hMe533, hcc533⟩ := Kd.S_get HO_521000.out [] (ji28) p533 (by first | exact q533 | exact of_decide_eq_true (by first | (with_reducible assumption) | assumption) | (have e_ := (Kd.S_reads' HO_521000.out).1; omega))
        obtain ⟨ve533_0, rfl, ge533_0⟩ := hMe533
        have hv533_0 := hcc533 0 _ rfl
        rw [Nat.add_zero, show ((Kd.slice 44 k44)).sz = 1 from rfl, Nat.mul_one] at hv533_0
        replace hv533_0 := Option.some.inj (hv533_0.symm.trans hx533_0)
        rw [hv533_0] at ge533_0
        have HL533_0 := Aside0.mk (show Kd.R k44 44 _ _ _ _ (rd_L4 x521000_2 (ji28)) from ge533_0)
        clear hv533_0 ge533_0
        have HX533_0 := Aside0.mk hx533_0
        clear hcc533 hce533
        have HR533_0 := Aside0.mk hi533_0
        have HC533_0 := Aside0.mk hl533_0
        clear hi533_0 hl533_0
        replace p533 := eq_true p533
        replace q533 := eq_true q533
        have p534 : 0 ≤ ((ji31) : Int) := of_decide_eq_true (by first | (with_reducible assumption) | assumption)
        have q534 : (ji31) < ((rd_L4 x521000_2 (ji28)).length : Int) := of_decide_eq_true (by first | (with_reducible assumption) | assumption)
        obtain ⟨ad534, e534, hx534_0, hx534_1⟩ := at_T44 (by repeat (first | (with_reducible exact HR533_0.out) | (with_reducible refine Kd.C_alloc ?_ _) | (with_reducible refine Kd.C_drewN ?_ _) | (with_reducible refine Kd.C_drew ?_) | exact HR533_0.out)) (ji31) p534 q534
        cases e534
        replace p534 := eq_true p534
        replace q534 := eq_true q534
        have p535 : 0 ≤ ((ji35) : Int) := of_decide_eq_true (by first | (with_reducible assumption) | assumption)
        have q535 : (ji35) < (x521000_2.length : Int) := of_decide_eq_true (by first | (with_reducible assumption) | assumption)
        obtain ⟨ad535, A535_0, c535_0, e535, hx535_0, hl535_0, hi535_0⟩ := at_L4 (Kd.S_reads' HO_521000.out).2.2 (ji35) p535 q535
        obtain rfl : ad533 = ad535 := (by injection e535)
        obtain ⟨ce535, hce535, hMe535, hcc535⟩ := Kd.S_get HO_521000.out [] (ji35) p535 (by first | exact q535 | exact of_decide_eq_true (by first | (with_reducible assumption) | assumption) | (have e_ := (Kd.S_reads' HO_521000.out).1; omega))
        obtain ⟨ve535_0, rfl, ge535_0⟩ := hMe535
        have hv535_0 := hcc535 0 _ rfl
        rw [Nat.add_zero, show ((Kd.slice 44 k44)).sz = 1 from rfl, Nat.mul_one] at hv535_0
        replace hv535_0 := Option.some.inj (hv535_0.symm.trans hx535_0)
        rw [hv535_0] at ge535_0
        have HL535_0 := Aside0.mk (show Kd.R k44 44 _ _ _ _ (rd_L4 x521000_2 (ji35)) from ge535_0)
        clear hv535_0 ge535_0
        have HX535_0 := Aside0.mk hx535_0
        clear hcc535 hce535
        have HR535_0 := Aside0.mk hi535_0
        have HC535_0 := Aside0.mk hl535_0
        clear hi535_0 hl535_0
        replace p535 := eq_true p535
        replace q535 := eq_true q535
        have p536 : 0 ≤ ((ji38) : Int) := of_decide_eq_true (by first | (with_reducible assumption) | assumption)
        have q536 : (ji38) < ((rd_L4 x521000_2 (ji35)).length : Int) := of_decide_eq_true (by first | (with_reducible assumption) | assumption)
        obtain ⟨ad536, e536, hx536_0, hx536_1⟩ := at_T44 (by repeat (first | (with_reducible exact HR535_0.out) | (with_reducible refine Kd.C_alloc ?_ _) | (with_reducible refine Kd.C_drewN ?_ _) | (with_reducible refine Kd.C_drew ?_) | exact HR535_0.out)) (ji38) p536 q536
        cases e536
        replace p536 := eq_true p536
        replace q536 := eq_true q536
        refine start_ (n := 26) (S := fun w' => w'.cell? ⟨gb520, 0, none⟩ = some (.slice (some ad533) x521000_2.length co84) ∧ w'.cell? ⟨gb531, 0, none⟩ = some (.int .i64 ji28) ∧ w'.cell? ⟨gb531, 1, none⟩ = some (.int .i64 ji31) ∧ w'.cell? ⟨gb532, 0, none⟩ = some (.int .i64 ji35) ∧ w'.cell? ⟨gb532, 1, none⟩ = some (.int .i64 ji38) ∧ w'.cell? (ad533.add ((ji28)).toNat) = some (.slice (some ad534) (rd_L4 x521000_2 (ji28)).length c533_0) ∧ w'.cell? (ad534.add (((ji31)).toNat * 2)) = some (.int .i64 ((rd_T44 (rd_L4 x521000_2 (ji28)) (ji31)).f0)) ∧ w'.cell? ⟨(ad534.add (((ji31)).toNat * 2)).block, (ad534.add (((ji31)).toNat * 2)).off + 1, none⟩ = some (.int .i64 ((rd_T44 (rd_L4 x521000_2 (ji28)) (ji31)).f1)) ∧ w'.cell? (ad533.add ((ji35)).toNat) = some (.slice (some ad536) (rd_L4 x521000_2 (ji35)).length c535_0) ∧ w'.cell? (ad536.add (((ji38)).toNat * 2)) = some (.int .i64 ((rd_T44 (rd_L4 x521000_2 (ji35)) (ji38)).f0)) ∧ w'.cell? ⟨(ad536.add (((ji38)).toNat * 2)).block, (ad536.add (((ji38)).toNat * 2)).off + 1, none⟩ = some (.int .i64 ((rd_T44 (rd_L4 x521000_2 (ji35)) (ji38)).f1))) (ds := []) #[false, false, false, false, false, false, false, false, false, false, false, false, false, false, false, false, false, false, false, false, false, false, false, false, false, false] (by kernel_rfl) rfl rfl ⟨(blk_cell BK520.out 0).trans rfl, (blk_cell BK531.out 0).trans rfl, (blk_cell BK531.out 1).trans rfl, (blk_cell BK532.out 0).trans rfl, (blk_cell BK532.out 1).trans rfl, hx533_0, hx534_0, hx534_1, hx535_0, hx536_0, hx536_1⟩ (fun hHeld => ?_); refine with_tabW mizmazetop_built.tab16 mizmazetop_built.bits16 (fun HT_ HW_ => ?_)
        generalize w82.drew = w83 at HO_521000 BK519 BK520 BK531 BK532 HB HL533_0 HL535_0 HR533_0 HR535_0 HX533_0 HX535_0 hx533_0 hx534_0 hx534_1 hx535_0 hx536_0 hx536_1 hHeld ⊢
        refine pv_ 0 80 tb38 HT_ ?_
        refine pv_ 2 82 tb39 HT_ ?_
        refine pv_ 6 86 tb40 HT_ ?_
        refine take_ (i := 1) (N := some 81) (v := ?_) (a' := ?_) tb41 rfl rfl (take_ofW HT_.out HW_.out (by kernel_rfl)) (fun _ _ _ h => h) (Or.inl ⟨by rfl, ?_⟩) hHeld ?_ ?_
        rotate_left
        ·rintro w' ⟨s0, s1, s2, s3, s4, s5, s6, s7, s8, s9, s10⟩
         go_simp
         with_reducible rfl
        rotate_left
        ·simp only [Act.put, List.setIfInBounds_toArray, List.set_cons_zero, List.set_cons_succ, i64_w, i32_w]
         rfl
        refine take_ (i := 3) (N := some 83) (v := ?_) (a' := ?_) tb42 rfl rfl (take_ofW HT_.out HW_.out (by kernel_rfl)) (fun _ _ _ h => h) (Or.inl ⟨by rfl, ?_⟩) hHeld ?_ ?_
        rotate_left
        ·rintro w' ⟨s0, s1, s2, s3, s4, s5, s6, s7, s8, s9, s10⟩
         go_simp
         with_reducible rfl
        rotate_left
        ·simp only [Act.put, List.setIfInBounds_toArray, List.set_cons_zero, List.set_cons_succ, i64_w, i32_w]
         rfl
        refine pv_ 4 84 tb43 HT_ ?_
        refine take_ (i := 5) (N := some 85) (v := ?_) (a' := ?_) tb44 rfl rfl (take_ofW HT_.out HW_.out (by kernel_rfl)) (fun _ _ _ h => h) (Or.inl ⟨by rfl, ?_⟩) hHeld ?_ ?_
        rotate_left
        ·rintro w' ⟨s0, s1, s2, s3, s4, s5, s6, s7, s8, s9, s10⟩
         go_simp
         with_reducible rfl
        rotate_left
        ·simp only [Act.put, List.setIfInBounds_toArray, List.set_cons_zero, List.set_cons_succ, i64_w, i32_w]
         rfl
        refine take_ (i := 7) (N := some 87) (v := ?_) (a' := ?_) tb45 rfl rfl (take_ofW HT_.out HW_.out (by kernel_rfl)) (fun _ _ _ h => h) (Or.inl ⟨by rfl, ?_⟩) hHeld ?_ ?_
        rotate_left
        ·rintro w' ⟨s0, s1, s2, s3, s4, s5, s6, s7, s8, s9, s10⟩
         go_simp
         with_reducible rfl
        rotate_left
        ·simp only [Act.put, List.setIfInBounds_toArray, List.set_cons_zero, List.set_cons_succ, i64_w, i32_w]
         rfl
        refine pv_ 8 88 tb46 HT_ ?_
        refine take_ (i := 9) (N := some 89) (v := ?_) (a' := ?_) tb47 rfl rfl (take_ofW HT_.out HW_.out (by kernel_rfl)) (fun _ _ _ h => h) (Or.inl ⟨by rfl, ?_⟩) hHeld ?_ ?_
        rotate_left
        ·rintro w' ⟨s0, s1, s2, s3, s4, s5, s6, s7, s8, s9, s10⟩
         go_simp
         with_reducible rfl
        rotate_left
        ·simp only [Act.put, List.setIfInBounds_toArray, List.set_cons_zero, List.set_cons_succ, i64_w, i32_w]
         rfl
        refine take_ (i := 10) (N := some 90) (v := ?_) (a' := ?_) tb48 rfl rfl (take_ofW HT_.out HW_.out (by kernel_rfl)) (fun _ _ _ h => h) (Or.inl ⟨by rfl, ?_⟩) hHeld ?_ ?_
        rotate_left
        ·rintro w' ⟨s0, s1, s2, s3, s4, s5, s6, s7, s8, s9, s10⟩
         go_simp
         with_reducible rfl
        rotate_left
        ·simp only [Act.put, List.setIfInBounds_toArray, List.set_cons_zero, List.set_cons_succ, i64_w, i32_w]
         rfl
        refine pv_ 11 91 tb49 HT_ ?_
        refine pv_ 12 92 tb50 HT_ ?_
        refine pv_ 13 93 tb51 HT_ ?_
        refine pv_ 15 95 tb52 HT_ ?_
        refine pv_ 19 99 tb53 HT_ ?_
        refine take_ (i := 14) (N := some 94) (v := ?_) (a' := ?_) tb54 rfl rfl (take_ofW HT_.out HW_.out (by kernel_rfl)) (fun _ _ _ h => h) (Or.inl ⟨by rfl, ?_⟩) hHeld ?_ ?_
        rotate_left
        ·rintro w' ⟨s0, s1, s2, s3, s4, s5, s6, s7, s8, s9, s10⟩
         go_simp
         with_reducible rfl
        rotate_left
        ·simp only [Act.put, List.setIfInBounds_toArray, List.set_cons_zero, List.set_cons_succ, i64_w, i32_w]
         rfl
        refine take_ (i := 16) (N := some 96) (v := ?_) (a' := ?_) tb55 rfl rfl (take_ofW HT_.out HW_.out (by kernel_rfl)) (fun _ _ _ h => h) (Or.inl ⟨by rfl, ?_⟩) hHeld ?_ ?_
        rotate_left
        ·rintro w' ⟨s0, s1, s2, s3, s4, s5, s6, s7, s8, s9, s10⟩
         go_simp
         with_reducible rfl
        rotate_left
        ·simp only [Act.put, List.setIfInBounds_toArray, List.set_cons_zero, List.set_cons_succ, i64_w, i32_w]
         rfl
        refine pv_ 17 97 tb56 HT_ ?_
        refine take_ (i := 18) (N := some 98) (v := ?_) (a' := ?_) tb57 rfl rfl (take_ofW HT_.out HW_.out (by kernel_rfl)) (fun _ _ _ h => h) (Or.inl ⟨by rfl, ?_⟩) hHeld ?_ ?_
        rotate_left
        ·rintro w' ⟨s0, s1, s2, s3, s4, s5, s6, s7, s8, s9, s10⟩
         go_simp
         with_reducible rfl
        rotate_left
        ·simp only [Act.put, List.setIfInBounds_toArray, List.set_cons_zero, List.set_cons_succ, i64_w, i32_w]
         rfl
        refine take_ (i := 20) (N := some 100) (v := ?_) (a' := ?_) tb58 rfl rfl (take_ofW HT_.out HW_.out (by kernel_rfl)) (fun _ _ _ h => h) (Or.inl ⟨by rfl, ?_⟩) hHeld ?_ ?_
        rotate_left
        ·rintro w' ⟨s0, s1, s2, s3, s4, s5, s6, s7, s8, s9, s10⟩
         go_simp
         with_reducible rfl
        rotate_left
        ·simp only [Act.put, List.setIfInBounds_toArray, List.set_cons_zero, List.set_cons_succ, i64_w, i32_w]
         rfl
        refine pv_ 21 101 tb59 HT_ ?_
        refine take_ (i := 22) (N := some 102) (v := ?_) (a' := ?_) tb60 rfl rfl (take_ofW HT_.out HW_.out (by kernel_rfl)) (fun _ _ _ h => h) (Or.inl ⟨by rfl, ?_⟩) hHeld ?_ ?_
        rotate_left
        ·rintro w' ⟨s0, s1, s2, s3, s4, s5, s6, s7, s8, s9, s10⟩
         go_simp
         with_reducible rfl
        rotate_left
        ·simp only [Act.put, List.setIfInBounds_toArray, List.set_cons_zero, List.set_cons_succ, i64_w, i32_w]
         rfl
        refine take_ (i := 23) (N := some 103) (v := ?_) (a' := ?_) tb61 rfl rfl (take_ofW HT_.out HW_.out (by kernel_rfl)) (fun _ _ _ h => h) (Or.inl ⟨by rfl, ?_⟩) hHeld ?_ ?_
        rotate_left
        ·rintro w' ⟨s0, s1, s2, s3, s4, s5, s6, s7, s8, s9, s10⟩
         go_simp
         with_reducible rfl
        rotate_left
        ·simp only [Act.put, List.setIfInBounds_toArray, List.set_cons_zero, List.set_cons_succ, i64_w, i32_w]
         rfl
        refine pv_ 24 104 tb62 HT_ ?_
        refine pv_ 25 105 tb63 HT_ ?_
        refine done_ (done_of HT_.out (by kernel_rfl)) ?_
        try go_wp2
        go_roundg kj16
        case measure => have := HK1.out; have := HK2.out; have := HJ16.out; omega
        case rel => exact ⟨(wrap64 (x11_2 + 2)), (x521000_2), (.slice (some ad533) x521000_2.length co84), (by first | rfl | (simp; done) | (simp [*]; done)), H', ⟨by have := HK1.out; have := HK2.out; have := HJ16.out; omega⟩, ⟨by (with_reducible repeat (first | apply Kd.S_alloc | apply Kd.S_drewN | apply Kd.S_drew)); exact Kd.S_mono HO_521000.out (fun _ hk => trivial)⟩, ⟨by (with_reducible repeat (first | refine blk_drewN ?_ _ | refine blk_drew ?_ | refine blk_alloc ?_ _)); exact BK519.out⟩, ⟨by (with_reducible repeat (first | refine blk_drewN ?_ _ | refine blk_drew ?_ | refine blk_alloc ?_ _)); exact BK520.out⟩, ⟨by repeat (first | (with_reducible first | exact HB.out | apply below_alloc | apply pw_below_drewN | apply below_drew1 | refine below_set ?_ GE519.out | refine below_set ?_ GE520.out | refine below_set ?_ GE531.out | refine below_set ?_ GE532.out) | exact HB.out)⟩⟩
       rw [if_pos c41] at H
       have c41b0 : (((rd_T44 (rd_L4 x521000_2 (ji35)) (ji38)).f0) == (ji35) && (((rd_T44 (rd_L4 x521000_2 (ji35)) (ji38)).f1) == (ji38))) = true := c41
       (try (have c41b1 : decide (((rd_T44 (rd_L4 x521000_2 (ji35)) (ji38)).f0) = (ji35) && (((rd_T44 (rd_L4 x521000_2 (ji35)) (ji38)).f1) == (ji38))) = true := by simpa using c41))
       (try (have c41b2 : (((rd_T44 (rd_L4 x521000_2 (ji35)) (ji38)).f0) == (ji35) && (((rd_T44 (rd_L4 x521000_2 (ji35)) (ji38)).f1) == (ji38))) = true := by simpa using c41))
       clear c41
       obtain ⟨y538, hy538⟩ : ∃ y_ : List (S44), y_ = ((rd_L4 x521000_2 (ji28)).set ((ji31) : Int).toNat (⟨ji35, ji38⟩ : S44)) := ⟨_, rfl⟩
       replace H : ((some (x521000_2.set ((ji28) : Int).toNat y538 : List (List (S44)))).bind fun y540 => (if (ji38) < ((rd_L4 y540 (ji35)).length : Int) then (mizmazetop_built.l2 kj16 a0 a1 l2 (wrap64 (x11_2 + 2)) (y540.set ((ji35) : Int).toNat ((rd_L4 y540 (ji35)).set ((ji38) : Int).toNat (⟨ji28, ji31⟩ : S44)))) else (none))) = some r := by first | (rw [hy538]; with_reducible exact H) | (have H2_ := (Option.bind_some _ _).symm.trans H; rw [hy538]; with_reducible exact H2_) | (have H2_ := (Option.bind_some _ _).symm.trans H; with_reducible exact H2_) | with_reducible exact H | (rw [hy538]; exact H) | exact H
       have Ny538 := Aside0.mk hy538
       clear hy538
       obtain ⟨y540, hy540⟩ : ∃ y_ : List (List (S44)), y_ = (x521000_2.set ((ji28) : Int).toNat y538) := ⟨_, rfl⟩
       replace H : (if (ji38) < ((rd_L4 y540 (ji35)).length : Int) then (mizmazetop_built.l2 kj16 a0 a1 l2 (wrap64 (x11_2 + 2)) (y540.set ((ji35) : Int).toNat ((rd_L4 y540 (ji35)).set ((ji38) : Int).toNat (⟨ji28, ji31⟩ : S44)))) else (none)) = some r := by first | (rw [hy540]; with_reducible exact H) | (have H2_ := (Option.bind_some _ _).symm.trans H; rw [hy540]; with_reducible exact H2_) | (have H2_ := (Option.bind_some _ _).symm.trans H; with_reducible exact H2_) | with_reducible exact H | (rw [hy540]; exact H) | exact H
       have Ny540 := Aside0.mk hy540
       clear hy540
       by_cases c43 : (ji38) < ((rd_L4 y540 (ji35)).length : Int)
       rotate_left
       ·rw [if_neg c43] at H
        exact absurd H (by simp)
       rw [if_pos c43] at H
       have c43b0 : decide ((ji38) < ((rd_L4 y540 (ji35)).length : Int)) = true := decide_eq_true c43
       clear c43
       obtain ⟨y542, hy542⟩ : ∃ y_ : List (S44), y_ = ((rd_L4 y540 (ji35)).set ((ji38) : Int).toNat (⟨ji28, ji31⟩ : S44)) := ⟨_, rfl⟩
       replace H : (mizmazetop_built.l2 kj16 a0 a1 l2 (wrap64 (x11_2 + 2)) (y540.set ((ji35) : Int).toNat y542)) = some r := by first | (rw [hy542]; with_reducible exact H) | (have H2_ := (Option.bind_some _ _).symm.trans H; rw [hy542]; with_reducible exact H2_) | (have H2_ := (Option.bind_some _ _).symm.trans H; with_reducible exact H2_) | with_reducible exact H | (rw [hy542]; exact H) | exact H
       have Ny542 := Aside0.mk hy542
       clear hy542
       obtain ⟨y544, hy544⟩ : ∃ y_ : List (List (S44)), y_ = (y540.set ((ji35) : Int).toNat y542) := ⟨_, rfl⟩
       replace H : (mizmazetop_built.l2 kj16 a0 a1 l2 (wrap64 (x11_2 + 2)) y544) = some r := by first | (rw [hy544]; with_reducible exact H) | (have H2_ := (Option.bind_some _ _).symm.trans H; rw [hy544]; with_reducible exact H2_) | (have H2_ := (Option.bind_some _ _).symm.trans H; with_reducible exact H2_) | with_reducible exact H | (rw [hy544]; exact H) | exact H
       have Ny544 := Aside0.mk hy544
       clear hy544
       have H' := Aside0.mk H
       clear H
       try go_wp2
       have n0_ := Aside0.mk (Kd.S_drew HO_521000.out)
       have n1_ := Aside0.mk (blk_drew BK519.out)
       have n2_ := Aside0.mk (blk_drew BK520.out)
       have n3_ := Aside0.mk (below_drew1 HB.out)
       clear HO_521000
       clear BK519
       clear BK520
       clear HB
       have HO_521000 := n0_
       have BK519 := n1_
       have BK520 := n2_
       have HB := n3_
       clear n0_ n1_ n2_ n3_
       have p527 : 0 ≤ (x11_2 : Int) := of_decide_eq_true (by first | (with_reducible assumption) | assumption)
       have q527 : x11_2 < (l2.length : Int) := of_decide_eq_true (by first | (with_reducible assumption) | assumption)
       obtain ⟨ad527, e527, hx527_0⟩ := Kd.at_int HR2.out x11_2 p527 q527
       have hw527_0 := hx527_0
       cases e527
       replace hx527_0 := (HB.out.cell (World.block_lt_of_cell? w _ hx527_0)).trans hx527_0
       replace p527 := eq_true p527
       replace q527 := eq_true q527
       have p529 : 0 ≤ ((ji23) : Int) := of_decide_eq_true (by first | (with_reducible assumption) | assumption)
       have q529 : (ji23) < (l2.length : Int) := of_decide_eq_true (by first | (with_reducible assumption) | assumption)
       obtain ⟨ad529, e529, hx529_0⟩ := Kd.at_int HR2.out (ji23) p529 q529
       have hw529_0 := hx529_0
       obtain rfl : ad527 = ad529 := (by injection e529)
       replace hx529_0 := (HB.out.cell (World.block_lt_of_cell? w _ hx529_0)).trans hx529_0
       replace p529 := eq_true p529
       replace q529 := eq_true q529
       refine start_ (n := 19) (S := fun w' => w'.cell? (ad527.add (x11_2).toNat) = some (.int .i64 (rd l2 x11_2)) ∧ w'.cell? (ad527.add ((ji23)).toNat) = some (.int .i64 (rd l2 (ji23)))) (ds := []) #[false, false, false, false, false, false, false, false, false, false, false, false, false, false, false, false, false, false, false] (by kernel_rfl) rfl rfl ⟨((HB.out.cell (World.block_lt_of_cell? w _ hw527_0)).trans hw527_0), ((HB.out.cell (World.block_lt_of_cell? w _ hw529_0)).trans hw529_0)⟩ (fun hHeld => ?_); refine with_tabW mizmazetop_built.tab14 mizmazetop_built.bits14 (fun HT_ HW_ => ?_)
       generalize wc.drew = w45 at HO_521000 BK519 BK520 HB hx527_0 hx529_0 hHeld ⊢
       refine pv_ 0 49 tb0 HT_ ?_
       refine pv_ 1 50 tb1 HT_ ?_
       refine pv_ 2 51 tb2 HT_ ?_
       refine pv_ 4 53 tb3 HT_ ?_
       refine pv_ 5 54 tb4 HT_ ?_
       refine pv_ 6 55 tb5 HT_ ?_
       refine pv_ 8 57 tb6 HT_ ?_
       refine pv_ 9 58 tb7 HT_ ?_
       refine pv_ 10 59 tb8 HT_ ?_
       refine pv_ 11 60 tb9 HT_ ?_
       refine pv_ 13 62 tb10 HT_ ?_
       refine pv_ 14 63 tb11 HT_ ?_
       refine pv_ 15 64 tb12 HT_ ?_
       refine take_ (i := 3) (N := some 52) (v := ?_) (a' := ?_) tb13 rfl rfl (take_ofW HT_.out HW_.out (by kernel_rfl)) (fun _ _ _ h => h) (Or.inl ⟨by rfl, ?_⟩) hHeld ?_ ?_
       rotate_left
       ·rintro w' ⟨s0, s1⟩
        go_simp
        with_reducible rfl
       rotate_left
       ·simp only [Act.put, List.setIfInBounds_toArray, List.set_cons_zero, List.set_cons_succ, i64_w, i32_w]
        rfl
       refine take_ (i := 12) (N := some 61) (v := ?_) (a' := ?_) tb14 rfl rfl (take_ofW HT_.out HW_.out (by kernel_rfl)) (fun _ _ _ h => h) (Or.inl ⟨by rfl, ?_⟩) hHeld ?_ ?_
       rotate_left
       ·rintro w' ⟨s0, s1⟩
        go_simp
        with_reducible rfl
       rotate_left
       ·simp only [Act.put, List.setIfInBounds_toArray, List.set_cons_zero, List.set_cons_succ, i64_w, i32_w]
        rfl
       refine one_ (i := 7) (N := some 56) tb15 rfl rfl (one_of HT_.out (by kernel_rfl)) (by decide) (fun K hK => ?_)
       refine goes_ Try.func27 (by kernel_rfl) rfl #[.int .i64 (rd l2 x11_2), .int .i64 (wrap64 (a0 * a1))] (by rfl) rfl rfl (by (try simp only [List.map_toArray, List.map_cons, List.map_nil]); first | done | rfl | (simp only [List.length_drop, List.length_take]; rfl)) ?_
       with_reducible refine (mizmazetop_cycle.calls (rd l2 x11_2) (wrap64 (a0 * a1)) t528 _ A22.out).mono ?_
       rintro e w' ⟨rfl, ⟨nd, rfl⟩⟩
       refine ⟨_, rfl, ?_⟩
       refine hK.out _ _ ⟨((HB.out.cell (World.block_lt_of_cell? w _ hw527_0)).trans hw527_0), ((HB.out.cell (World.block_lt_of_cell? w _ hw529_0)).trans hw529_0)⟩ (fun hHeld => ?_)
       clear hK K
       refine norm_ (a' := ?_) ?_ ?_
       rotate_left
       ·show Act.put _ (some 56) _ = _
        simp only [Act.put, List.setIfInBounds_toArray, List.set_cons_zero, List.set_cons_succ, i64_w, i32_w]
        rfl
       refine one_ (i := 16) (N := some 65) tb16 rfl rfl (one_of HT_.out (by kernel_rfl)) (by decide) (fun K hK => ?_)
       refine goes_ Try.func27 (by kernel_rfl) rfl #[.int .i64 (rd l2 (ji23)), .int .i64 (wrap64 (a0 * a1))] (by rfl) rfl rfl (by (try simp only [List.map_toArray, List.map_cons, List.map_nil]); first | done | (simp only [hji23]; rfl) | rfl | (simp only [List.length_drop, List.length_take]; rfl)) ?_
       with_reducible refine (mizmazetop_cycle.calls (rd l2 (ji23)) (wrap64 (a0 * a1)) t530 _ A26.out).mono ?_
       rintro e w' ⟨rfl, ⟨nd, rfl⟩⟩
       refine ⟨_, rfl, ?_⟩
       refine hK.out _ _ ⟨((HB.out.cell (World.block_lt_of_cell? w _ hw527_0)).trans hw527_0), ((HB.out.cell (World.block_lt_of_cell? w _ hw529_0)).trans hw529_0)⟩ (fun hHeld => ?_)
       clear hK K
       refine norm_ (a' := ?_) ?_ ?_
       rotate_left
       ·show Act.put _ (some 65) _ = _
        simp only [Act.put, List.setIfInBounds_toArray, List.set_cons_zero, List.set_cons_succ, i64_w, i32_w]
        rfl
       refine pv_ 17 12 tb17 HT_ ?_
       refine pv_ 18 13 tb18 HT_ ?_
       refine done_ (done_of HT_.out (by kernel_rfl)) ?_
       try go_wp2
       (try (rw [drewN_self w45]; generalize hq_ : World.drewN w45 _ = w45; have n0_ : Aside0 (Kd.S (Kd.slice 44 k44) 40 w45 w.heap.size (fun _ => True) u521000 x521000_2) := ⟨by rw [← hq_]; exact (by (with_reducible repeat (first | apply Kd.S_alloc | apply Kd.S_drewN | apply Kd.S_drew)); exact HO_521000.out)⟩; have n1_ : Aside0 (w45.heap[gb519]? = some (.cells #[.slice none 0 0] 38 (0, 0))) := ⟨by rw [← hq_]; exact (by (with_reducible repeat (first | refine blk_drewN ?_ _ | refine blk_drew ?_ | refine blk_alloc ?_ _)); exact BK519.out)⟩; have n2_ : Aside0 (w45.heap[gb520]? = some (.cells #[u521000] 38 (0, 0))) := ⟨by rw [← hq_]; exact (by (with_reducible repeat (first | refine blk_drewN ?_ _ | refine blk_drew ?_ | refine blk_alloc ?_ _)); exact BK520.out)⟩; have n3_ : Aside0 (Below w.heap.size w w45) := ⟨by rw [← hq_]; exact (by repeat (first | (with_reducible first | exact HB.out | apply below_alloc | apply pw_below_drewN | apply below_drew1 | refine below_set ?_ GE519.out | refine below_set ?_ GE520.out) | exact HB.out))⟩; clear HO_521000 BK519 BK520 HB hq_; have HO_521000 := n0_; have BK519 := n1_; have BK520 := n2_; have HB := n3_; clear n0_ n1_ n2_ n3_))
       have n0_ := Aside0.mk (Kd.S_drew HO_521000.out)
       have n1_ := Aside0.mk (blk_drew BK519.out)
       have n2_ := Aside0.mk (blk_drew BK520.out)
       have n3_ := Aside0.mk (below_drew1 HB.out)
       clear HO_521000
       clear BK519
       clear BK520
       clear HB
       have HO_521000 := n0_
       have BK519 := n1_
       have BK520 := n2_
       have HB := n3_
       clear n0_ n1_ n2_ n3_
       refine start_ (n := 18) (S := fun w' => True) (ds := []) #[false, false, false, false, false, false, false, false, false, false, false, false, false, false, false, false, false, false] (by kernel_rfl) rfl rfl trivial (fun hHeld => ?_); refine with_tabW mizmazetop_built.tab15 mizmazetop_built.bits15 (fun HT_ HW_ => ?_)
       generalize w45.drew = w46 at HO_521000 BK519 BK520 HB hHeld ⊢
       refine pv_ 0 66 tb19 HT_ ?_
       refine pv_ 1 67 tb20 HT_ ?_
       refine pv_ 2 68 tb21 HT_ ?_
       refine pv_ 3 69 tb22 HT_ ?_
       refine pv_ 4 70 tb23 HT_ ?_
       refine pv_ 5 71 tb24 HT_ ?_
       refine pv_ 6 72 tb25 HT_ ?_
       refine pv_ 7 73 tb26 HT_ ?_
       refine pv_ 8 74 tb27 HT_ ?_
       refine pv_ 9 75 tb28 HT_ ?_
       refine pv_ 10 76 tb29 HT_ ?_
       refine pv_ 11 77 tb30 HT_ ?_
       refine pv_ 12 78 tb31 HT_ ?_
       refine pv_ 13 79 tb32 HT_ ?_
       refine join_ (σ := Nat × Nat) 2 #[true, true, true, true, true, true, true, true, true, true, true, true, true, true, true, true, false, false] (fun s_ => [(14, .pointer (some ⟨s_.1, 0, none⟩)), (15, .pointer (some ⟨s_.2, 0, none⟩))]) (fun s_ w' => (Kd.S (Kd.slice 44 k44) 40 w' w.heap.size (fun k_ => k_ ≠ s_.1 ∧ k_ ≠ s_.2) u521000 x521000_2) ∧ (w'.heap[gb519]? = some (.cells #[.slice none 0 0] 38 (0, 0))) ∧ (w'.heap[gb520]? = some (.cells #[u521000] 38 (0, 0))) ∧ (w'.heap[s_.1]? = some (.cells #[.int .i64 0, .int .i64 0] 44 (0, 0))) ∧ (w'.heap[s_.2]? = some (.cells #[.int .i64 0, .int .i64 0] 44 (0, 0))) ∧ (w.heap.size ≤ s_.1) ∧ (w.heap.size ≤ s_.1) ∧ (gb519 ≠ s_.1) ∧ (s_.1 ≠ gb519) ∧ (gb520 ≠ s_.1) ∧ (s_.1 ≠ gb520) ∧ (s_.2 ≠ s_.1) ∧ (s_.1 ≠ s_.2) ∧ (w.heap.size ≤ s_.2) ∧ (w.heap.size ≤ s_.2) ∧ (gb519 ≠ s_.2) ∧ (s_.2 ≠ gb519) ∧ (gb520 ≠ s_.2) ∧ (s_.2 ≠ gb520) ∧ (Below w.heap.size w w')) ?_ ?_
       rotate_left
       ·intro hCont
        refine two_ (i := 14) (j := 15) (Ni := some 14) (Nj := some 15) tb33 tb34 rfl rfl rfl rfl (two_of HT_.out (by kernel_rfl)) (by decide) (by decide) (fun K hK => ?_) (fun K hK => ?_)
        ·skip
         refine box_step ?hg (N := 14) ?hd (cs := #[.int .i64 0, .int .i64 0]) (t := 44) ?hr ?_; (case hd => rfl); (case hg => rfl); (case hr => first | (go_simp; done) | (go_simp; rfl))
         intro gb531 hg w47 hbox hb
         have n0_ := Aside0.mk (Kd.S_below (Kd.S_elderB (by (with_reducible repeat (first | apply Kd.S_alloc | apply Kd.S_drewN | apply Kd.S_drew)); exact HO_521000.out) gb531 (Nat.le_of_eq hg.symm)) hb)
         have n1_ := Aside0.mk (blk_below (g := gb519) (o := .cells #[.slice none 0 0] 38 (0, 0)) (by (with_reducible repeat (first | refine blk_drewN ?_ _ | refine blk_drew ?_ | refine blk_alloc ?_ _)); exact BK519.out) hb)
         have n2_ := Aside0.mk (blk_below (g := gb520) (o := .cells #[u521000] 38 (0, 0)) (by (with_reducible repeat (first | refine blk_drewN ?_ _ | refine blk_drew ?_ | refine blk_alloc ?_ _)); exact BK520.out) hb)
         have n3_ := Aside0.mk (below_step (by repeat (first | (with_reducible first | exact HB.out | apply below_alloc | apply pw_below_drewN | apply below_drew1 | refine below_set ?_ GE519.out | refine below_set ?_ GE520.out) | exact HB.out)) hb)
         have n4_ := Aside0.mk (hbox)
         have n5_ := Aside0.mk ((by rw [hg]; exact (below_size (by repeat (first | (with_reducible first | exact HB.out | apply below_alloc | apply pw_below_drewN | apply below_drew1 | refine below_set ?_ GE519.out | refine below_set ?_ GE520.out) | exact HB.out))) : w.heap.size ≤ gb531))
         have n6_ := Aside0.mk ((by rw [hg]; exact (below_size (by repeat (first | (with_reducible first | exact HB.out | apply below_alloc | apply pw_below_drewN | apply below_drew1 | refine below_set ?_ GE519.out | refine below_set ?_ GE520.out) | exact HB.out))) : w.heap.size ≤ gb531))
         have n7_ := Aside0.mk ((by rw [hg]; exact Nat.ne_of_lt (blk_lt (g := gb519) (o := .cells #[.slice none 0 0] 38 (0, 0)) (by (with_reducible repeat (first | refine blk_drewN ?_ _ | refine blk_drew ?_ | refine blk_alloc ?_ _)); exact BK519.out)) : gb519 ≠ gb531))
         have n8_ := Aside0.mk ((by rw [hg]; exact Nat.ne_of_gt (blk_lt (g := gb519) (o := .cells #[.slice none 0 0] 38 (0, 0)) (by (with_reducible repeat (first | refine blk_drewN ?_ _ | refine blk_drew ?_ | refine blk_alloc ?_ _)); exact BK519.out)) : gb531 ≠ gb519))
         have n9_ := Aside0.mk ((by rw [hg]; exact Nat.ne_of_lt (blk_lt (g := gb520) (o := .cells #[u521000] 38 (0, 0)) (by (with_reducible repeat (first | refine blk_drewN ?_ _ | refine blk_drew ?_ | refine blk_alloc ?_ _)); exact BK520.out)) : gb520 ≠ gb531))
         have n10_ := Aside0.mk ((by rw [hg]; exact Nat.ne_of_gt (blk_lt (g := gb520) (o := .cells #[u521000] 38 (0, 0)) (by (with_reducible repeat (first | refine blk_drewN ?_ _ | refine blk_drew ?_ | refine blk_alloc ?_ _)); exact BK520.out)) : gb531 ≠ gb520))
         clear HO_521000
         clear BK519
         clear BK520
         clear HB
         have HO_521000 := n0_
         have BK519 := n1_
         have BK520 := n2_
         have HB := n3_
         have BK531 := n4_
         have GW531 := n5_
         have GE531 := n6_
         have NB519_531 := n7_
         have NB531_519 := n8_
         have NB520_531 := n9_
         have NB531_520 := n10_
         clear n0_ n1_ n2_ n3_ n4_ n5_ n6_ n7_ n8_ n9_ n10_
         clear hb hbox hg
         refine hK.out _ _ trivial (fun hHeld => ?_)
         clear hK K
         refine norm_ (a' := ?_) ?_ ?_
         rotate_left
         ·show Act.put _ (some 14) _ = _
          simp only [Act.put, List.setIfInBounds_toArray, List.set_cons_zero, List.set_cons_succ, i64_w, i32_w]
          rfl
         refine one_ (i := 15) (N := some 15) tb35 rfl rfl (one_of HT_.out (by kernel_rfl)) (by decide) (fun K hK => ?_)
         refine box_step ?hg (N := 15) ?hd (cs := #[.int .i64 0, .int .i64 0]) (t := 44) ?hr ?_; (case hd => rfl); (case hg => rfl); (case hr => first | (go_simp; done) | (go_simp; rfl))
         intro gb532 hg w48 hbox hb
         have n0_ := Aside0.mk (Kd.S_below (Kd.S_elderB (by (with_reducible repeat (first | apply Kd.S_alloc | apply Kd.S_drewN | apply Kd.S_drew)); exact HO_521000.out) gb532 (Nat.le_of_eq hg.symm)) hb)
         have n1_ := Aside0.mk (blk_below (g := gb519) (o := .cells #[.slice none 0 0] 38 (0, 0)) (by (with_reducible repeat (first | refine blk_drewN ?_ _ | refine blk_drew ?_ | refine blk_alloc ?_ _)); exact BK519.out) hb)
         have n2_ := Aside0.mk (blk_below (g := gb520) (o := .cells #[u521000] 38 (0, 0)) (by (with_reducible repeat (first | refine blk_drewN ?_ _ | refine blk_drew ?_ | refine blk_alloc ?_ _)); exact BK520.out) hb)
         have n3_ := Aside0.mk (blk_below (g := gb531) (o := .cells #[.int .i64 0, .int .i64 0] 44 (0, 0)) (by (with_reducible repeat (first | refine blk_drewN ?_ _ | refine blk_drew ?_ | refine blk_alloc ?_ _)); exact BK531.out) hb)
         have n4_ := Aside0.mk (below_step (by repeat (first | (with_reducible first | exact HB.out | apply below_alloc | apply pw_below_drewN | apply below_drew1 | refine below_set ?_ GE519.out | refine below_set ?_ GE520.out | refine below_set ?_ GE531.out) | exact HB.out)) hb)
         have n5_ := Aside0.mk (hbox)
         have n6_ := Aside0.mk ((by rw [hg]; exact (below_size (by repeat (first | (with_reducible first | exact HB.out | apply below_alloc | apply pw_below_drewN | apply below_drew1 | refine below_set ?_ GE519.out | refine below_set ?_ GE520.out | refine below_set ?_ GE531.out) | exact HB.out))) : w.heap.size ≤ gb532))
         have n7_ := Aside0.mk ((by rw [hg]; exact (below_size (by repeat (first | (with_reducible first | exact HB.out | apply below_alloc | apply pw_below_drewN | apply below_drew1 | refine below_set ?_ GE519.out | refine below_set ?_ GE520.out | refine below_set ?_ GE531.out) | exact HB.out))) : w.heap.size ≤ gb532))
         have n8_ := Aside0.mk ((by rw [hg]; exact Nat.ne_of_lt (blk_lt (g := gb519) (o := .cells #[.slice none 0 0] 38 (0, 0)) (by (with_reducible repeat (first | refine blk_drewN ?_ _ | refine blk_drew ?_ | refine blk_alloc ?_ _)); exact BK519.out)) : gb519 ≠ gb532))
         have n9_ := Aside0.mk ((by rw [hg]; exact Nat.ne_of_gt (blk_lt (g := gb519) (o := .cells #[.slice none 0 0] 38 (0, 0)) (by (with_reducible repeat (first | refine blk_drewN ?_ _ | refine blk_drew ?_ | refine blk_alloc ?_ _)); exact BK519.out)) : gb532 ≠ gb519))
         have n10_ := Aside0.mk ((by rw [hg]; exact Nat.ne_of_lt (blk_lt (g := gb520) (o := .cells #[u521000] 38 (0, 0)) (by (with_reducible repeat (first | refine blk_drewN ?_ _ | refine blk_drew ?_ | refine blk_alloc ?_ _)); exact BK520.out)) : gb520 ≠ gb532))
         have n11_ := Aside0.mk ((by rw [hg]; exact Nat.ne_of_gt (blk_lt (g := gb520) (o := .cells #[u521000] 38 (0, 0)) (by (with_reducible repeat (first | refine blk_drewN ?_ _ | refine blk_drew ?_ | refine blk_alloc ?_ _)); exact BK520.out)) : gb532 ≠ gb520))
         have n12_ := Aside0.mk ((by rw [hg]; exact Nat.ne_of_lt (blk_lt (g := gb531) (o := .cells #[.int .i64 0, .int .i64 0] 44 (0, 0)) (by (with_reducible repeat (first | refine blk_drewN ?_ _ | refine blk_drew ?_ | refine blk_alloc ?_ _)); exact BK531.out)) : gb531 ≠ gb532))
         have n13_ := Aside0.mk ((by rw [hg]; exact Nat.ne_of_gt (blk_lt (g := gb531) (o := .cells #[.int .i64 0, .int .i64 0] 44 (0, 0)) (by (with_reducible repeat (first | refine blk_drewN ?_ _ | refine blk_drew ?_ | refine blk_alloc ?_ _)); exact BK531.out)) : gb532 ≠ gb531))
         clear HO_521000
         clear BK519
         clear BK520
         clear BK531
         clear HB
         have HO_521000 := n0_
         have BK519 := n1_
         have BK520 := n2_
         have BK531 := n3_
         have HB := n4_
         have BK532 := n5_
         have GW532 := n6_
         have GE532 := n7_
         have NB519_532 := n8_
         have NB532_519 := n9_
         have NB520_532 := n10_
         have NB532_520 := n11_
         have NB531_532 := n12_
         have NB532_531 := n13_
         clear n0_ n1_ n2_ n3_ n4_ n5_ n6_ n7_ n8_ n9_ n10_ n11_ n12_ n13_
         clear hb hbox hg
         refine hK.out _ _ trivial (fun hHeld => ?_)
         clear hK K
         refine norm_ (a' := ?_) ?_ ?_
         rotate_left
         ·show Act.put _ (some 15) _ = _
          simp only [Act.put, List.setIfInBounds_toArray, List.set_cons_zero, List.set_cons_succ, i64_w, i32_w]
          rfl
         exact norm_ (by simp only [putAll, Act.put, List.setIfInBounds_toArray, List.set_cons_zero, List.set_cons_succ]) (hCont (gb531, gb532) _ ⟨(by (with_reducible repeat (first | apply Kd.S_alloc | apply Kd.S_drewN | apply Kd.S_drew)); exact Kd.S_mono HO_521000.out (fun _ hk => ⟨hk.1.2, hk.2⟩)), (by (with_reducible repeat (first | refine blk_drewN ?_ _ | refine blk_drew ?_ | refine blk_alloc ?_ _)); exact BK519.out), (by (with_reducible repeat (first | refine blk_drewN ?_ _ | refine blk_drew ?_ | refine blk_alloc ?_ _)); exact BK520.out), (by (with_reducible repeat (first | refine blk_drewN ?_ _ | refine blk_drew ?_ | refine blk_alloc ?_ _)); exact BK531.out), (by (with_reducible repeat (first | refine blk_drewN ?_ _ | refine blk_drew ?_ | refine blk_alloc ?_ _)); exact BK532.out), GW531.out, GE531.out, NB519_531.out, NB531_519.out, NB520_531.out, NB531_520.out, NB532_531.out, NB531_532.out, GW532.out, GE532.out, NB519_532.out, NB532_519.out, NB520_532.out, NB532_520.out, (by repeat (first | (with_reducible first | exact HB.out | apply below_alloc | apply pw_below_drewN | apply below_drew1 | refine below_set ?_ GE519.out | refine below_set ?_ GE520.out | refine below_set ?_ GE531.out | refine below_set ?_ GE532.out) | exact HB.out))⟩)
        ·skip
         refine box_step ?hg (N := 15) ?hd (cs := #[.int .i64 0, .int .i64 0]) (t := 44) ?hr ?_; (case hd => rfl); (case hg => rfl); (case hr => first | (go_simp; done) | (go_simp; rfl))
         intro gb532 hg w47 hbox hb
         have n0_ := Aside0.mk (Kd.S_below (Kd.S_elderB (by (with_reducible repeat (first | apply Kd.S_alloc | apply Kd.S_drewN | apply Kd.S_drew)); exact HO_521000.out) gb532 (Nat.le_of_eq hg.symm)) hb)
         have n1_ := Aside0.mk (blk_below (g := gb519) (o := .cells #[.slice none 0 0] 38 (0, 0)) (by (with_reducible repeat (first | refine blk_drewN ?_ _ | refine blk_drew ?_ | refine blk_alloc ?_ _)); exact BK519.out) hb)
         have n2_ := Aside0.mk (blk_below (g := gb520) (o := .cells #[u521000] 38 (0, 0)) (by (with_reducible repeat (first | refine blk_drewN ?_ _ | refine blk_drew ?_ | refine blk_alloc ?_ _)); exact BK520.out) hb)
         have n3_ := Aside0.mk (below_step (by repeat (first | (with_reducible first | exact HB.out | apply below_alloc | apply pw_below_drewN | apply below_drew1 | refine below_set ?_ GE519.out | refine below_set ?_ GE520.out) | exact HB.out)) hb)
         have n4_ := Aside0.mk (hbox)
         have n5_ := Aside0.mk ((by rw [hg]; exact (below_size (by repeat (first | (with_reducible first | exact HB.out | apply below_alloc | apply pw_below_drewN | apply below_drew1 | refine below_set ?_ GE519.out | refine below_set ?_ GE520.out) | exact HB.out))) : w.heap.size ≤ gb532))
         have n6_ := Aside0.mk ((by rw [hg]; exact (below_size (by repeat (first | (with_reducible first | exact HB.out | apply below_alloc | apply pw_below_drewN | apply below_drew1 | refine below_set ?_ GE519.out | refine below_set ?_ GE520.out) | exact HB.out))) : w.heap.size ≤ gb532))
         have n7_ := Aside0.mk ((by rw [hg]; exact Nat.ne_of_lt (blk_lt (g := gb519) (o := .cells #[.slice none 0 0] 38 (0, 0)) (by (with_reducible repeat (first | refine blk_drewN ?_ _ | refine blk_drew ?_ | refine blk_alloc ?_ _)); exact BK519.out)) : gb519 ≠ gb532))
         have n8_ := Aside0.mk ((by rw [hg]; exact Nat.ne_of_gt (blk_lt (g := gb519) (o := .cells #[.slice none 0 0] 38 (0, 0)) (by (with_reducible repeat (first | refine blk_drewN ?_ _ | refine blk_drew ?_ | refine blk_alloc ?_ _)); exact BK519.out)) : gb532 ≠ gb519))
         have n9_ := Aside0.mk ((by rw [hg]; exact Nat.ne_of_lt (blk_lt (g := gb520) (o := .cells #[u521000] 38 (0, 0)) (by (with_reducible repeat (first | refine blk_drewN ?_ _ | refine blk_drew ?_ | refine blk_alloc ?_ _)); exact BK520.out)) : gb520 ≠ gb532))
         have n10_ := Aside0.mk ((by rw [hg]; exact Nat.ne_of_gt (blk_lt (g := gb520) (o := .cells #[u521000] 38 (0, 0)) (by (with_reducible repeat (first | refine blk_drewN ?_ _ | refine blk_drew ?_ | refine blk_alloc ?_ _)); exact BK520.out)) : gb532 ≠ gb520))
         clear HO_521000
         clear BK519
         clear BK520
         clear HB
         have HO_521000 := n0_
         have BK519 := n1_
         have BK520 := n2_
         have HB := n3_
         have BK532 := n4_
         have GW532 := n5_
         have GE532 := n6_
         have NB519_532 := n7_
         have NB532_519 := n8_
         have NB520_532 := n9_
         have NB532_520 := n10_
         clear n0_ n1_ n2_ n3_ n4_ n5_ n6_ n7_ n8_ n9_ n10_
         clear hb hbox hg
         refine hK.out _ _ trivial (fun hHeld => ?_)
         clear hK K
         refine norm_ (a' := ?_) ?_ ?_
         rotate_left
         ·show Act.put _ (some 15) _ = _
          simp only [Act.put, List.setIfInBounds_toArray, List.set_cons_zero, List.set_cons_succ, i64_w, i32_w]
          rfl
         refine one_ (i := 14) (N := some 14) tb35 rfl rfl (one_of HT_.out (by kernel_rfl)) (by decide) (fun K hK => ?_)
         refine box_step ?hg (N := 14) ?hd (cs := #[.int .i64 0, .int .i64 0]) (t := 44) ?hr ?_; (case hd => rfl); (case hg => rfl); (case hr => first | (go_simp; done) | (go_simp; rfl))
         intro gb531 hg w48 hbox hb
         have n0_ := Aside0.mk (Kd.S_below (Kd.S_elderB (by (with_reducible repeat (first | apply Kd.S_alloc | apply Kd.S_drewN | apply Kd.S_drew)); exact HO_521000.out) gb531 (Nat.le_of_eq hg.symm)) hb)
         have n1_ := Aside0.mk (blk_below (g := gb519) (o := .cells #[.slice none 0 0] 38 (0, 0)) (by (with_reducible repeat (first | refine blk_drewN ?_ _ | refine blk_drew ?_ | refine blk_alloc ?_ _)); exact BK519.out) hb)
         have n2_ := Aside0.mk (blk_below (g := gb520) (o := .cells #[u521000] 38 (0, 0)) (by (with_reducible repeat (first | refine blk_drewN ?_ _ | refine blk_drew ?_ | refine blk_alloc ?_ _)); exact BK520.out) hb)
         have n3_ := Aside0.mk (blk_below (g := gb532) (o := .cells #[.int .i64 0, .int .i64 0] 44 (0, 0)) (by (with_reducible repeat (first | refine blk_drewN ?_ _ | refine blk_drew ?_ | refine blk_alloc ?_ _)); exact BK532.out) hb)
         have n4_ := Aside0.mk (below_step (by repeat (first | (with_reducible first | exact HB.out | apply below_alloc | apply pw_below_drewN | apply below_drew1 | refine below_set ?_ GE519.out | refine below_set ?_ GE520.out | refine below_set ?_ GE532.out) | exact HB.out)) hb)
         have n5_ := Aside0.mk (hbox)
         have n6_ := Aside0.mk ((by rw [hg]; exact (below_size (by repeat (first | (with_reducible first | exact HB.out | apply below_alloc | apply pw_below_drewN | apply below_drew1 | refine below_set ?_ GE519.out | refine below_set ?_ GE520.out | refine below_set ?_ GE532.out) | exact HB.out))) : w.heap.size ≤ gb531))
         have n7_ := Aside0.mk ((by rw [hg]; exact (below_size (by repeat (first | (with_reducible first | exact HB.out | apply below_alloc | apply pw_below_drewN | apply below_drew1 | refine below_set ?_ GE519.out | refine below_set ?_ GE520.out | refine below_set ?_ GE532.out) | exact HB.out))) : w.heap.size ≤ gb531))
         have n8_ := Aside0.mk ((by rw [hg]; exact Nat.ne_of_lt (blk_lt (g := gb519) (o := .cells #[.slice none 0 0] 38 (0, 0)) (by (with_reducible repeat (first | refine blk_drewN ?_ _ | refine blk_drew ?_ | refine blk_alloc ?_ _)); exact BK519.out)) : gb519 ≠ gb531))
         have n9_ := Aside0.mk ((by rw [hg]; exact Nat.ne_of_gt (blk_lt (g := gb519) (o := .cells #[.slice none 0 0] 38 (0, 0)) (by (with_reducible repeat (first | refine blk_drewN ?_ _ | refine blk_drew ?_ | refine blk_alloc ?_ _)); exact BK519.out)) : gb531 ≠ gb519))
         have n10_ := Aside0.mk ((by rw [hg]; exact Nat.ne_of_lt (blk_lt (g := gb520) (o := .cells #[u521000] 38 (0, 0)) (by (with_reducible repeat (first | refine blk_drewN ?_ _ | refine blk_drew ?_ | refine blk_alloc ?_ _)); exact BK520.out)) : gb520 ≠ gb531))
         have n11_ := Aside0.mk ((by rw [hg]; exact Nat.ne_of_gt (blk_lt (g := gb520) (o := .cells #[u521000] 38 (0, 0)) (by (with_reducible repeat (first | refine blk_drewN ?_ _ | refine blk_drew ?_ | refine blk_alloc ?_ _)); exact BK520.out)) : gb531 ≠ gb520))
         have n12_ := Aside0.mk ((by rw [hg]; exact Nat.ne_of_lt (blk_lt (g := gb532) (o := .cells #[.int .i64 0, .int .i64 0] 44 (0, 0)) (by (with_reducible repeat (first | refine blk_drewN ?_ _ | refine blk_drew ?_ | refine blk_alloc ?_ _)); exact BK532.out)) : gb532 ≠ gb531))
         have n13_ := Aside0.mk ((by rw [hg]; exact Nat.ne_of_gt (blk_lt (g := gb532) (o := .cells #[.int .i64 0, .int .i64 0] 44 (0, 0)) (by (with_reducible repeat (first | refine blk_drewN ?_ _ | refine blk_drew ?_ | refine blk_alloc ?_ _)); exact BK532.out)) : gb531 ≠ gb532))
         clear HO_521000
         clear BK519
         clear BK520
         clear BK532
         clear HB
         have HO_521000 := n0_
         have BK519 := n1_
         have BK520 := n2_
         have BK532 := n3_
         have HB := n4_
         have BK531 := n5_
         have GW531 := n6_
         have GE531 := n7_
         have NB519_531 := n8_
         have NB531_519 := n9_
         have NB520_531 := n10_
         have NB531_520 := n11_
         have NB532_531 := n12_
         have NB531_532 := n13_
         clear n0_ n1_ n2_ n3_ n4_ n5_ n6_ n7_ n8_ n9_ n10_ n11_ n12_ n13_
         clear hb hbox hg
         refine hK.out _ _ trivial (fun hHeld => ?_)
         clear hK K
         refine norm_ (a' := ?_) ?_ ?_
         rotate_left
         ·show Act.put _ (some 14) _ = _
          simp only [Act.put, List.setIfInBounds_toArray, List.set_cons_zero, List.set_cons_succ, i64_w, i32_w]
          rfl
         exact norm_ (by simp only [putAll, Act.put, List.setIfInBounds_toArray, List.set_cons_zero, List.set_cons_succ]) (hCont (gb531, gb532) _ ⟨(by (with_reducible repeat (first | apply Kd.S_alloc | apply Kd.S_drewN | apply Kd.S_drew)); exact Kd.S_mono HO_521000.out (fun _ hk => ⟨hk.2, hk.1.2⟩)), (by (with_reducible repeat (first | refine blk_drewN ?_ _ | refine blk_drew ?_ | refine blk_alloc ?_ _)); exact BK519.out), (by (with_reducible repeat (first | refine blk_drewN ?_ _ | refine blk_drew ?_ | refine blk_alloc ?_ _)); exact BK520.out), (by (with_reducible repeat (first | refine blk_drewN ?_ _ | refine blk_drew ?_ | refine blk_alloc ?_ _)); exact BK531.out), (by (with_reducible repeat (first | refine blk_drewN ?_ _ | refine blk_drew ?_ | refine blk_alloc ?_ _)); exact BK532.out), GW531.out, GE531.out, NB519_531.out, NB531_519.out, NB520_531.out, NB531_520.out, NB532_531.out, NB531_532.out, GW532.out, GE532.out, NB519_532.out, NB532_519.out, NB520_532.out, NB532_520.out, (by repeat (first | (with_reducible first | exact HB.out | apply below_alloc | apply pw_below_drewN | apply below_drew1 | refine below_set ?_ GE519.out | refine below_set ?_ GE520.out | refine below_set ?_ GE532.out | refine below_set ?_ GE531.out) | exact HB.out))⟩)
       rintro ⟨gb531, gb532⟩ w49 ⟨h0_, h1_, h2_, h3_, h4_, h5_, h6_, h7_, h8_, h9_, h10_, h11_, h12_, h13_, h14_, h15_, h16_, h17_, h18_, h19_⟩
       have n0_ : Aside0 (Kd.S (Kd.slice 44 k44) 40 w49 w.heap.size (fun k_ => k_ ≠ gb531 ∧ k_ ≠ gb532) u521000 x521000_2) := ⟨h0_⟩
       have n1_ : Aside0 (w49.heap[gb519]? = some (.cells #[.slice none 0 0] 38 (0, 0))) := ⟨h1_⟩
       have n2_ : Aside0 (w49.heap[gb520]? = some (.cells #[u521000] 38 (0, 0))) := ⟨h2_⟩
       have n3_ : Aside0 (w49.heap[gb531]? = some (.cells #[.int .i64 0, .int .i64 0] 44 (0, 0))) := ⟨h3_⟩
       have n4_ : Aside0 (w49.heap[gb532]? = some (.cells #[.int .i64 0, .int .i64 0] 44 (0, 0))) := ⟨h4_⟩
       have n5_ : Aside0 (w.heap.size ≤ gb531) := ⟨h5_⟩
       have n6_ : Aside0 (w.heap.size ≤ gb531) := ⟨h6_⟩
       have n7_ : Aside0 (gb519 ≠ gb531) := ⟨h7_⟩
       have n8_ : Aside0 (gb531 ≠ gb519) := ⟨h8_⟩
       have n9_ : Aside0 (gb520 ≠ gb531) := ⟨h9_⟩
       have n10_ : Aside0 (gb531 ≠ gb520) := ⟨h10_⟩
       have n11_ : Aside0 (gb532 ≠ gb531) := ⟨h11_⟩
       have n12_ : Aside0 (gb531 ≠ gb532) := ⟨h12_⟩
       have n13_ : Aside0 (w.heap.size ≤ gb532) := ⟨h13_⟩
       have n14_ : Aside0 (w.heap.size ≤ gb532) := ⟨h14_⟩
       have n15_ : Aside0 (gb519 ≠ gb532) := ⟨h15_⟩
       have n16_ : Aside0 (gb532 ≠ gb519) := ⟨h16_⟩
       have n17_ : Aside0 (gb520 ≠ gb532) := ⟨h17_⟩
       have n18_ : Aside0 (gb532 ≠ gb520) := ⟨h18_⟩
       have n19_ : Aside0 (Below w.heap.size w w49) := ⟨h19_⟩
       clear HO_521000
       clear BK519
       clear BK520
       clear HB
       clear h0_ h1_ h2_ h3_ h4_ h5_ h6_ h7_ h8_ h9_ h10_ h11_ h12_ h13_ h14_ h15_ h16_ h17_ h18_ h19_
       have HO_521000 := n0_
       have BK519 := n1_
       have BK520 := n2_
       have BK531 := n3_
       have BK532 := n4_
       have GW531 := n5_
       have GE531 := n6_
       have NB519_531 := n7_
       have NB531_519 := n8_
       have NB520_531 := n9_
       have NB531_520 := n10_
       have NB532_531 := n11_
       have NB531_532 := n12_
       have GW532 := n13_
       have GE532 := n14_
       have NB519_532 := n15_
       have NB532_519 := n16_
       have NB520_532 := n17_
       have NB532_520 := n18_
       have HB := n19_
       clear n0_ n1_ n2_ n3_ n4_ n5_ n6_ n7_ n8_ n9_ n10_ n11_ n12_ n13_ n14_ n15_ n16_ n17_ n18_ n19_
       have hHeld := trivial
       refine norm_ (a' := ?_) ?_ ?_
       rotate_left
       ·simp only [putAll, Act.put, List.setIfInBounds_toArray, List.set_cons_zero, List.set_cons_succ]
        rfl
       refine one_ (i := 16) (N := none) tb36 rfl rfl (one_of HT_.out (by kernel_rfl)) (by decide) (fun K hK => ?_)
       have hs50 : w49.cell? ⟨gb531, 0, none⟩ = some (.int .i64 0) := (blk_cell BK531.out 0).trans rfl
       have hfs50 := blk_frozen BK531.out 0
       have hns50_0 := NB519_531.out
       have hns50_1 := NB520_531.out
       have hns50_3 := NB532_531.out
       have hms50_0 := NB531_519.out
       have hms50_1 := NB531_520.out
       have hms50_3 := NB531_532.out
       have hs51 : w49.cell? ⟨gb531, 1, none⟩ = some (.int .i64 0) := (blk_cell BK531.out 1).trans rfl
       have hfs51 := blk_frozen BK531.out 1
       have hns51_0 := NB519_531.out
       have hns51_1 := NB520_531.out
       have hns51_3 := NB532_531.out
       have hms51_0 := NB531_519.out
       have hms51_1 := NB531_520.out
       have hms51_3 := NB531_532.out
       refine skip_ (w1 := ?_) (by rfl) rfl ?_ ?_
       rotate_left
       ·go_simp
        rfl
       refine hK.out _ _ trivial (fun hHeld => ?_)
       clear hK K
       refine one_ (i := 17) (N := none) tb37 rfl rfl (one_of HT_.out (by kernel_rfl)) (by decide) (fun K hK => ?_)
       have hs52 : w49.cell? ⟨gb532, 0, none⟩ = some (.int .i64 0) := (blk_cell BK532.out 0).trans rfl
       have hfs52 := blk_frozen BK532.out 0
       have hns52_0 := NB519_532.out
       have hns52_1 := NB520_532.out
       have hns52_2 := NB531_532.out
       have hms52_0 := NB532_519.out
       have hms52_1 := NB532_520.out
       have hms52_2 := NB532_531.out
       have hs53 : w49.cell? ⟨gb532, 1, none⟩ = some (.int .i64 0) := (blk_cell BK532.out 1).trans rfl
       have hfs53 := blk_frozen BK532.out 1
       have hns53_0 := NB519_532.out
       have hns53_1 := NB520_532.out
       have hns53_2 := NB531_532.out
       have hms53_0 := NB532_519.out
       have hms53_1 := NB532_520.out
       have hms53_2 := NB532_531.out
       refine skip_ (w1 := ?_) (by rfl) rfl ?_ ?_
       rotate_left
       ·go_simp
        rfl
       refine hK.out _ _ trivial (fun hHeld => ?_)
       clear hK K
       refine done_ (done_of HT_.out (by kernel_rfl)) ?_
       try go_wp2
       have n0_ : Aside0 (Kd.S (Kd.slice 44 k44) 40 ((((w49.setCell ⟨gb531, 0, none⟩ (.int .i64 ji28)).setCell ⟨gb531, 1, none⟩ (.int .i64 ji31)).setCell ⟨gb532, 0, none⟩ (.int .i64 ji35)).setCell ⟨gb532, 1, none⟩ (.int .i64 ji38)) w.heap.size (fun k_ => k_ ≠ gb531 ∧ k_ ≠ gb532) u521000 x521000_2) := ⟨by (with_reducible repeat (first | apply Kd.S_alloc | apply Kd.S_drewN | apply Kd.S_drew)); exact Kd.S_mono (Kd.S_far (p := ⟨gb532, 1, none⟩) (Kd.S_far (p := ⟨gb532, 0, none⟩) (Kd.S_far (p := ⟨gb531, 1, none⟩) (Kd.S_far (p := ⟨gb531, 0, none⟩) (Kd.S_mono (Kd.S_mono HO_521000.out (fun k_ hk => (⟨hk, hk.1⟩ : _ ∧ k_ ≠ gb531))) (fun k_ hk => (⟨hk, hk.1.2⟩ : _ ∧ k_ ≠ gb532))) (fun _ hk => hk.1.2) (.int .i64 ji28)) (fun _ hk => hk.1.2) (.int .i64 ji31)) (fun _ hk => hk.2) (.int .i64 ji35)) (fun _ hk => hk.2) (.int .i64 ji38)) (fun _ hk => ⟨hk.1.1.1, hk.1.1.2⟩)⟩
       have n1_ : Aside0 (((((w49.setCell ⟨gb531, 0, none⟩ (.int .i64 ji28)).setCell ⟨gb531, 1, none⟩ (.int .i64 ji31)).setCell ⟨gb532, 0, none⟩ (.int .i64 ji35)).setCell ⟨gb532, 1, none⟩ (.int .i64 ji38)).heap[gb519]? = some (.cells #[.slice none 0 0] 38 (0, 0))) := ⟨by (with_reducible repeat (first | refine blk_drewN ?_ _ | refine blk_drew ?_ | refine blk_alloc ?_ _)); refine blk_far ?_ NB519_532.out _; (with_reducible repeat (first | refine blk_drewN ?_ _ | refine blk_drew ?_ | refine blk_alloc ?_ _)); refine blk_far ?_ NB519_532.out _; (with_reducible repeat (first | refine blk_drewN ?_ _ | refine blk_drew ?_ | refine blk_alloc ?_ _)); refine blk_far ?_ NB519_531.out _; (with_reducible repeat (first | refine blk_drewN ?_ _ | refine blk_drew ?_ | refine blk_alloc ?_ _)); refine blk_far ?_ NB519_531.out _; (with_reducible repeat (first | refine blk_drewN ?_ _ | refine blk_drew ?_ | refine blk_alloc ?_ _)); exact BK519.out⟩
       have n2_ : Aside0 (((((w49.setCell ⟨gb531, 0, none⟩ (.int .i64 ji28)).setCell ⟨gb531, 1, none⟩ (.int .i64 ji31)).setCell ⟨gb532, 0, none⟩ (.int .i64 ji35)).setCell ⟨gb532, 1, none⟩ (.int .i64 ji38)).heap[gb520]? = some (.cells #[u521000] 38 (0, 0))) := ⟨by (with_reducible repeat (first | refine blk_drewN ?_ _ | refine blk_drew ?_ | refine blk_alloc ?_ _)); refine blk_far ?_ NB520_532.out _; (with_reducible repeat (first | refine blk_drewN ?_ _ | refine blk_drew ?_ | refine blk_alloc ?_ _)); refine blk_far ?_ NB520_532.out _; (with_reducible repeat (first | refine blk_drewN ?_ _ | refine blk_drew ?_ | refine blk_alloc ?_ _)); refine blk_far ?_ NB520_531.out _; (with_reducible repeat (first | refine blk_drewN ?_ _ | refine blk_drew ?_ | refine blk_alloc ?_ _)); refine blk_far ?_ NB520_531.out _; (with_reducible repeat (first | refine blk_drewN ?_ _ | refine blk_drew ?_ | refine blk_alloc ?_ _)); exact BK520.out⟩
       have n3_ : Aside0 (((((w49.setCell ⟨gb531, 0, none⟩ (.int .i64 ji28)).setCell ⟨gb531, 1, none⟩ (.int .i64 ji31)).setCell ⟨gb532, 0, none⟩ (.int .i64 ji35)).setCell ⟨gb532, 1, none⟩ (.int .i64 ji38)).heap[gb531]? = some (.cells #[.int .i64 ji28, .int .i64 ji31] 44 (0, 0))) := ⟨by (with_reducible repeat (first | refine blk_drewN ?_ _ | refine blk_drew ?_ | refine blk_alloc ?_ _)); refine blk_far ?_ NB531_532.out _; (with_reducible repeat (first | refine blk_drewN ?_ _ | refine blk_drew ?_ | refine blk_alloc ?_ _)); refine blk_far ?_ NB531_532.out _; (with_reducible repeat (first | refine blk_drewN ?_ _ | refine blk_drew ?_ | refine blk_alloc ?_ _)); refine blk_put (cs := #[.int .i64 ji28, .int .i64 0]) ?_ 1 _ rfl; (with_reducible repeat (first | refine blk_drewN ?_ _ | refine blk_drew ?_ | refine blk_alloc ?_ _)); refine blk_put (cs := #[.int .i64 0, .int .i64 0]) ?_ 0 _ rfl; (with_reducible repeat (first | refine blk_drewN ?_ _ | refine blk_drew ?_ | refine blk_alloc ?_ _)); exact BK531.out⟩
       have n4_ : Aside0 (((((w49.setCell ⟨gb531, 0, none⟩ (.int .i64 ji28)).setCell ⟨gb531, 1, none⟩ (.int .i64 ji31)).setCell ⟨gb532, 0, none⟩ (.int .i64 ji35)).setCell ⟨gb532, 1, none⟩ (.int .i64 ji38)).heap[gb532]? = some (.cells #[.int .i64 ji35, .int .i64 ji38] 44 (0, 0))) := ⟨by (with_reducible repeat (first | refine blk_drewN ?_ _ | refine blk_drew ?_ | refine blk_alloc ?_ _)); refine blk_put (cs := #[.int .i64 ji35, .int .i64 0]) ?_ 1 _ rfl; (with_reducible repeat (first | refine blk_drewN ?_ _ | refine blk_drew ?_ | refine blk_alloc ?_ _)); refine blk_put (cs := #[.int .i64 0, .int .i64 0]) ?_ 0 _ rfl; (with_reducible repeat (first | refine blk_drewN ?_ _ | refine blk_drew ?_ | refine blk_alloc ?_ _)); refine blk_far ?_ NB532_531.out _; (with_reducible repeat (first | refine blk_drewN ?_ _ | refine blk_drew ?_ | refine blk_alloc ?_ _)); refine blk_far ?_ NB532_531.out _; (with_reducible repeat (first | refine blk_drewN ?_ _ | refine blk_drew ?_ | refine blk_alloc ?_ _)); exact BK532.out⟩
       have n5_ : Aside0 (Below w.heap.size w ((((w49.setCell ⟨gb531, 0, none⟩ (.int .i64 ji28)).setCell ⟨gb531, 1, none⟩ (.int .i64 ji31)).setCell ⟨gb532, 0, none⟩ (.int .i64 ji35)).setCell ⟨gb532, 1, none⟩ (.int .i64 ji38))) := ⟨by repeat (first | (with_reducible first | exact HB.out | apply below_alloc | apply pw_below_drewN | apply below_drew1 | refine below_set ?_ GE519.out | refine below_set ?_ GE520.out | refine below_set ?_ GE531.out | refine below_set ?_ GE532.out) | exact HB.out)⟩
       (try clear HO_521000)
       (try clear BK519)
       (try clear BK520)
       (try clear BK531)
       (try clear BK532)
       (try clear HB)
       generalize ((((w49.setCell ⟨gb531, 0, none⟩ (.int .i64 ji28)).setCell ⟨gb531, 1, none⟩ (.int .i64 ji31)).setCell ⟨gb532, 0, none⟩ (.int .i64 ji35)).setCell ⟨gb532, 1, none⟩ (.int .i64 ji38)) = w54 at n0_ n1_ n2_ n3_ n4_ n5_ ⊢
       have HO_521000 := n0_
       have BK519 := n1_
       have BK520 := n2_
       have BK531 := n3_
       have BK532 := n4_
       have HB := n5_
       clear n0_ n1_ n2_ n3_ n4_ n5_
       have n0_ := Aside0.mk (Kd.S_drew HO_521000.out)
       have n1_ := Aside0.mk (blk_drew BK519.out)
       have n2_ := Aside0.mk (blk_drew BK520.out)
       have n3_ := Aside0.mk (blk_drew BK531.out)
       have n4_ := Aside0.mk (blk_drew BK532.out)
       have n5_ := Aside0.mk (below_drew1 HB.out)
       clear HO_521000
       clear BK519
       clear BK520
       clear BK531
       clear BK532
       clear HB
       have HO_521000 := n0_
       have BK519 := n1_
       have BK520 := n2_
       have BK531 := n3_
       have BK532 := n4_
       have HB := n5_
       clear n0_ n1_ n2_ n3_ n4_ n5_
       obtain ⟨Ao56, co56, eo56⟩ := Kd.S_slice HO_521000.out
       (first | subst eo56 | (injection eo56 with f1_ f2_ f3_; have f4_ := f1_.symm; have f5_ := f3_.symm; clear f1_ f2_ f3_; subst f4_; subst f5_))
       have p533 : 0 ≤ ((ji28) : Int) := of_decide_eq_true (by first | (with_reducible assumption) | assumption)
       have q533 : (ji28) < (x521000_2.length : Int) := of_decide_eq_true (by first | (with_reducible assumption) | assumption)
       obtain ⟨ad533, A533_0, c533_0, e533, hx533_0, hl533_0, hi533_0⟩ := at_L4 (Kd.S_reads' HO_521000.out).2.2 (ji28) p533 q533
       cases e533
       obtain ⟨ce533, hce533, hMe533, hcc533⟩ := Kd.S_get HO_521000.out [] (ji28) p533 (by first | exact q533 | exact of_decide_eq_true (by first | (with_reducible assumption) | assumption) | (have e_ := (Kd.S_reads' HO_521000.out).1; omega))
       obtain ⟨ve533_0, rfl, ge533_0⟩ := hMe533
       have hv533_0 := hcc533 0 _ rfl
       rw [Nat.add_zero, show ((Kd.slice 44 k44)).sz = 1 from rfl, Nat.mul_one] at hv533_0
       replace hv533_0 := Option.some.inj (hv533_0.symm.trans hx533_0)
       rw [hv533_0] at ge533_0
       have HL533_0 := Aside0.mk (show Kd.R k44 44 _ _ _ _ (rd_L4 x521000_2 (ji28)) from ge533_0)
       clear hv533_0 ge533_0
       have HX533_0 := Aside0.mk hx533_0
       clear hcc533 hce533
       have HR533_0 := Aside0.mk hi533_0
       have HC533_0 := Aside0.mk hl533_0
       clear hi533_0 hl533_0
       replace p533 := eq_true p533
       replace q533 := eq_true q533
       have p534 : 0 ≤ ((ji31) : Int) := of_decide_eq_true (by first | (with_reducible assumption) | assumption)
       have q534 : (ji31) < ((rd_L4 x521000_2 (ji28)).length : Int) := of_decide_eq_true (by first | (with_reducible assumption) | assumption)
       obtain ⟨ad534, e534, hx534_0, hx534_1⟩ := at_T44 (by repeat (first | (with_reducible exact HR533_0.out) | (with_reducible refine Kd.C_alloc ?_ _) | (with_reducible refine Kd.C_drewN ?_ _) | (with_reducible refine Kd.C_drew ?_) | exact HR533_0.out)) (ji31) p534 q534
       cases e534
       replace p534 := eq_true p534
       replace q534 := eq_true q534
       have p535 : 0 ≤ ((ji35) : Int) := of_decide_eq_true (by first | (with_reducible assumption) | assumption)
       have q535 : (ji35) < (x521000_2.length : Int) := of_decide_eq_true (by first | (with_reducible assumption) | assumption)
       obtain ⟨ad535, A535_0, c535_0, e535, hx535_0, hl535_0, hi535_0⟩ := at_L4 (Kd.S_reads' HO_521000.out).2.2 (ji35) p535 q535
       obtain rfl : ad533 = ad535 := (by injection e535)
       obtain ⟨ce535, hce535, hMe535, hcc535⟩ := Kd.S_get HO_521000.out [] (ji35) p535 (by first | exact q535 | exact of_decide_eq_true (by first | (with_reducible assumption) | assumption) | (have e_ := (Kd.S_reads' HO_521000.out).1; omega))
       obtain ⟨ve535_0, rfl, ge535_0⟩ := hMe535
       have hv535_0 := hcc535 0 _ rfl
       rw [Nat.add_zero, show ((Kd.slice 44 k44)).sz = 1 from rfl, Nat.mul_one] at hv535_0
       replace hv535_0 := Option.some.inj (hv535_0.symm.trans hx535_0)
       rw [hv535_0] at ge535_0
       have HL535_0 := Aside0.mk (show Kd.R k44 44 _ _ _ _ (rd_L4 x521000_2 (ji35)) from ge535_0)
       clear hv535_0 ge535_0
       have HX535_0 := Aside0.mk hx535_0
       clear hcc535 hce535
       have HR535_0 := Aside0.mk hi535_0
       have HC535_0 := Aside0.mk hl535_0
       clear hi535_0 hl535_0
       replace p535 := eq_true p535
       replace q535 := eq_true q535
       have p536 : 0 ≤ ((ji38) : Int) := of_decide_eq_true (by first | (with_reducible assumption) | assumption)
       have q536 : (ji38) < ((rd_L4 x521000_2 (ji35)).length : Int) := of_decide_eq_true (by first | (with_reducible assumption) | assumption)
       obtain ⟨ad536, e536, hx536_0, hx536_1⟩ := at_T44 (by repeat (first | (with_reducible exact HR535_0.out) | (with_reducible refine Kd.C_alloc ?_ _) | (with_reducible refine Kd.C_drewN ?_ _) | (with_reducible refine Kd.C_drew ?_) | exact HR535_0.out)) (ji38) p536 q536
       cases e536
       replace p536 := eq_true p536
       replace q536 := eq_true q536
       refine start_ (n := 26) (S := fun w' => w'.cell? ⟨gb520, 0, none⟩ = some (.slice (some ad533) x521000_2.length co56) ∧ w'.cell? ⟨gb531, 0, none⟩ = some (.int .i64 ji28) ∧ w'.cell? ⟨gb531, 1, none⟩ = some (.int .i64 ji31) ∧ w'.cell? ⟨gb532, 0, none⟩ = some (.int .i64 ji35) ∧ w'.cell? ⟨gb532, 1, none⟩ = some (.int .i64 ji38) ∧ w'.cell? (ad533.add ((ji28)).toNat) = some (.slice (some ad534) (rd_L4 x521000_2 (ji28)).length c533_0) ∧ w'.cell? (ad534.add (((ji31)).toNat * 2)) = some (.int .i64 ((rd_T44 (rd_L4 x521000_2 (ji28)) (ji31)).f0)) ∧ w'.cell? ⟨(ad534.add (((ji31)).toNat * 2)).block, (ad534.add (((ji31)).toNat * 2)).off + 1, none⟩ = some (.int .i64 ((rd_T44 (rd_L4 x521000_2 (ji28)) (ji31)).f1)) ∧ w'.cell? (ad533.add ((ji35)).toNat) = some (.slice (some ad536) (rd_L4 x521000_2 (ji35)).length c535_0) ∧ w'.cell? (ad536.add (((ji38)).toNat * 2)) = some (.int .i64 ((rd_T44 (rd_L4 x521000_2 (ji35)) (ji38)).f0)) ∧ w'.cell? ⟨(ad536.add (((ji38)).toNat * 2)).block, (ad536.add (((ji38)).toNat * 2)).off + 1, none⟩ = some (.int .i64 ((rd_T44 (rd_L4 x521000_2 (ji35)) (ji38)).f1))) (ds := []) #[false, false, false, false, false, false, false, false, false, false, false, false, false, false, false, false, false, false, false, false, false, false, false, false, false, false] (by kernel_rfl) rfl rfl ⟨(blk_cell BK520.out 0).trans rfl, (blk_cell BK531.out 0).trans rfl, (blk_cell BK531.out 1).trans rfl, (blk_cell BK532.out 0).trans rfl, (blk_cell BK532.out 1).trans rfl, hx533_0, hx534_0, hx534_1, hx535_0, hx536_0, hx536_1⟩ (fun hHeld => ?_); refine with_tabW mizmazetop_built.tab16 mizmazetop_built.bits16 (fun HT_ HW_ => ?_)
       generalize w54.drew = w55 at HO_521000 BK519 BK520 BK531 BK532 HB HL533_0 HL535_0 HR533_0 HR535_0 HX533_0 HX535_0 hx533_0 hx534_0 hx534_1 hx535_0 hx536_0 hx536_1 hHeld ⊢
       refine pv_ 0 80 tb38 HT_ ?_
       refine pv_ 2 82 tb39 HT_ ?_
       refine pv_ 6 86 tb40 HT_ ?_
       refine take_ (i := 1) (N := some 81) (v := ?_) (a' := ?_) tb41 rfl rfl (take_ofW HT_.out HW_.out (by kernel_rfl)) (fun _ _ _ h => h) (Or.inl ⟨by rfl, ?_⟩) hHeld ?_ ?_
       rotate_left
       ·rintro w' ⟨s0, s1, s2, s3, s4, s5, s6, s7, s8, s9, s10⟩
        go_simp
        with_reducible rfl
       rotate_left
       ·simp only [Act.put, List.setIfInBounds_toArray, List.set_cons_zero, List.set_cons_succ, i64_w, i32_w]
        rfl
       refine take_ (i := 3) (N := some 83) (v := ?_) (a' := ?_) tb42 rfl rfl (take_ofW HT_.out HW_.out (by kernel_rfl)) (fun _ _ _ h => h) (Or.inl ⟨by rfl, ?_⟩) hHeld ?_ ?_
       rotate_left
       ·rintro w' ⟨s0, s1, s2, s3, s4, s5, s6, s7, s8, s9, s10⟩
        go_simp
        with_reducible rfl
       rotate_left
       ·simp only [Act.put, List.setIfInBounds_toArray, List.set_cons_zero, List.set_cons_succ, i64_w, i32_w]
        rfl
       refine pv_ 4 84 tb43 HT_ ?_
       refine take_ (i := 5) (N := some 85) (v := ?_) (a' := ?_) tb44 rfl rfl (take_ofW HT_.out HW_.out (by kernel_rfl)) (fun _ _ _ h => h) (Or.inl ⟨by rfl, ?_⟩) hHeld ?_ ?_
       rotate_left
       ·rintro w' ⟨s0, s1, s2, s3, s4, s5, s6, s7, s8, s9, s10⟩
        go_simp
        with_reducible rfl
       rotate_left
       ·simp only [Act.put, List.setIfInBounds_toArray, List.set_cons_zero, List.set_cons_succ, i64_w, i32_w]
        rfl
       refine take_ (i := 7) (N := some 87) (v := ?_) (a' := ?_) tb45 rfl rfl (take_ofW HT_.out HW_.out (by kernel_rfl)) (fun _ _ _ h => h) (Or.inl ⟨by rfl, ?_⟩) hHeld ?_ ?_
       rotate_left
       ·rintro w' ⟨s0, s1, s2, s3, s4, s5, s6, s7, s8, s9, s10⟩
        go_simp
        with_reducible rfl
       rotate_left
       ·simp only [Act.put, List.setIfInBounds_toArray, List.set_cons_zero, List.set_cons_succ, i64_w, i32_w]
        rfl
       refine pv_ 8 88 tb46 HT_ ?_
       refine take_ (i := 9) (N := some 89) (v := ?_) (a' := ?_) tb47 rfl rfl (take_ofW HT_.out HW_.out (by kernel_rfl)) (fun _ _ _ h => h) (Or.inl ⟨by rfl, ?_⟩) hHeld ?_ ?_
       rotate_left
       ·rintro w' ⟨s0, s1, s2, s3, s4, s5, s6, s7, s8, s9, s10⟩
        go_simp
        with_reducible rfl
       rotate_left
       ·simp only [Act.put, List.setIfInBounds_toArray, List.set_cons_zero, List.set_cons_succ, i64_w, i32_w]
        rfl
       refine take_ (i := 10) (N := some 90) (v := ?_) (a' := ?_) tb48 rfl rfl (take_ofW HT_.out HW_.out (by kernel_rfl)) (fun _ _ _ h => h) (Or.inl ⟨by rfl, ?_⟩) hHeld ?_ ?_
       rotate_left
       ·rintro w' ⟨s0, s1, s2, s3, s4, s5, s6, s7, s8, s9, s10⟩
        go_simp
        with_reducible rfl
       rotate_left
       ·simp only [Act.put, List.setIfInBounds_toArray, List.set_cons_zero, List.set_cons_succ, i64_w, i32_w]
        rfl
       refine pv_ 11 91 tb49 HT_ ?_
       refine pv_ 12 92 tb50 HT_ ?_
       refine pv_ 13 93 tb51 HT_ ?_
       refine pv_ 15 95 tb52 HT_ ?_
       refine pv_ 19 99 tb53 HT_ ?_
       refine take_ (i := 14) (N := some 94) (v := ?_) (a' := ?_) tb54 rfl rfl (take_ofW HT_.out HW_.out (by kernel_rfl)) (fun _ _ _ h => h) (Or.inl ⟨by rfl, ?_⟩) hHeld ?_ ?_
       rotate_left
       ·rintro w' ⟨s0, s1, s2, s3, s4, s5, s6, s7, s8, s9, s10⟩
        go_simp
        with_reducible rfl
       rotate_left
       ·simp only [Act.put, List.setIfInBounds_toArray, List.set_cons_zero, List.set_cons_succ, i64_w, i32_w]
        rfl
       refine take_ (i := 16) (N := some 96) (v := ?_) (a' := ?_) tb55 rfl rfl (take_ofW HT_.out HW_.out (by kernel_rfl)) (fun _ _ _ h => h) (Or.inl ⟨by rfl, ?_⟩) hHeld ?_ ?_
       rotate_left
       ·rintro w' ⟨s0, s1, s2, s3, s4, s5, s6, s7, s8, s9, s10⟩
        go_simp
        with_reducible rfl
       rotate_left
       ·simp only [Act.put, List.setIfInBounds_toArray, List.set_cons_zero, List.set_cons_succ, i64_w, i32_w]
        rfl
       refine pv_ 17 97 tb56 HT_ ?_
       refine take_ (i := 18) (N := some 98) (v := ?_) (a' := ?_) tb57 rfl rfl (take_ofW HT_.out HW_.out (by kernel_rfl)) (fun _ _ _ h => h) (Or.inl ⟨by rfl, ?_⟩) hHeld ?_ ?_
       rotate_left
       ·rintro w' ⟨s0, s1, s2, s3, s4, s5, s6, s7, s8, s9, s10⟩
        go_simp
        with_reducible rfl
       rotate_left
       ·simp only [Act.put, List.setIfInBounds_toArray, List.set_cons_zero, List.set_cons_succ, i64_w, i32_w]
        rfl
       refine take_ (i := 20) (N := some 100) (v := ?_) (a' := ?_) tb58 rfl rfl (take_ofW HT_.out HW_.out (by kernel_rfl)) (fun _ _ _ h => h) (Or.inl ⟨by rfl, ?_⟩) hHeld ?_ ?_
       rotate_left
       ·rintro w' ⟨s0, s1, s2, s3, s4, s5, s6, s7, s8, s9, s10⟩
        go_simp
        with_reducible rfl
       rotate_left
       ·simp only [Act.put, List.setIfInBounds_toArray, List.set_cons_zero, List.set_cons_succ, i64_w, i32_w]
        rfl
       refine pv_ 21 101 tb59 HT_ ?_
       refine take_ (i := 22) (N := some 102) (v := ?_) (a' := ?_) tb60 rfl rfl (take_ofW HT_.out HW_.out (by kernel_rfl)) (fun _ _ _ h => h) (Or.inl ⟨by rfl, ?_⟩) hHeld ?_ ?_
       rotate_left
       ·rintro w' ⟨s0, s1, s2, s3, s4, s5, s6, s7, s8, s9, s10⟩
        go_simp
        with_reducible rfl
       rotate_left
       ·simp only [Act.put, List.setIfInBounds_toArray, List.set_cons_zero, List.set_cons_succ, i64_w, i32_w]
        rfl
       refine take_ (i := 23) (N := some 103) (v := ?_) (a' := ?_) tb61 rfl rfl (take_ofW HT_.out HW_.out (by kernel_rfl)) (fun _ _ _ h => h) (Or.inl ⟨by rfl, ?_⟩) hHeld ?_ ?_
       rotate_left
       ·rintro w' ⟨s0, s1, s2, s3, s4, s5, s6, s7, s8, s9, s10⟩
        go_simp
        with_reducible rfl
       rotate_left
       ·simp only [Act.put, List.setIfInBounds_toArray, List.set_cons_zero, List.set_cons_succ, i64_w, i32_w]
        rfl
       refine pv_ 24 104 tb62 HT_ ?_
       refine pv_ 25 105 tb63 HT_ ?_
       refine done_ (done_of HT_.out (by kernel_rfl)) ?_
       have pa0 : 0 ≤ (ji28 : Int) := of_decide_eq_true (by first | (with_reducible assumption) | assumption)
       have pa1 : ji28 < (x521000_2.length : Int) := of_decide_eq_true (by first | (with_reducible assumption) | assumption)
       have pb0 : 0 ≤ (ji31 : Int) := of_decide_eq_true (by first | (with_reducible assumption) | assumption)
       have pb1 : ji31 < ((rd_L4 x521000_2 ji28).length : Int) := of_decide_eq_true (by first | (with_reducible assumption) | assumption)
       have pc0 : 0 ≤ (ji35 : Int) := of_decide_eq_true (by first | (with_reducible assumption) | assumption)
       have pc1 : ji35 < (x521000_2.length : Int) := of_decide_eq_true (by first | (with_reducible assumption) | assumption)
       have pd0 : 0 ≤ (ji38 : Int) := of_decide_eq_true (by first | (with_reducible assumption) | assumption)
       have pd1 : ji38 < ((rd_L4 y540 ji35).length : Int) := of_decide_eq_true (by first | (with_reducible assumption) | assumption)
       go_wp2_with fail
       rw [Ny540.out, Ny538.out] at pd1
       have o_ := Aside0.mk (Kd.S_drew HO_521000.out)
       have b1_ := Aside0.mk (blk_drew BK519.out)
       have b2_ := Aside0.mk (blk_drew BK520.out)
       have b3_ := Aside0.mk (blk_drew BK531.out)
       have b4_ := Aside0.mk (blk_drew BK532.out)
       have hb_ := Aside0.mk (below_drew HB.out)
       clear HO_521000 BK519 BK520 BK531 BK532 HB
       have HO_521000 := o_
       have BK519 := b1_
       have BK520 := b2_
       have BK531 := b3_
       have BK532 := b4_
       have HB := hb_
       clear o_ b1_ b2_ b3_ b4_ hb_
       have hz_ := dgrid_two HO_521000.out ji28 ji31 ji35 ji38 (⟨ji35, ji38⟩ : S44) (⟨ji28, ji31⟩ : S44) pa0 pa1 pb0 pb1 pc0 pc1 pd0 pd1
       obtain ⟨adg, g1, g2, m2, cg1, cg2, W1, W2, eg, hm2, ha0, hb0, ha1, hb1, hst1, hst2, hSg, kk1, kk2, hk1, hk2, ho1, ho2, hgr1, hgr2, hty1, hty2⟩ := hz_
       cases eg
       have HSg := Aside0.mk hSg
       rw [← Ny538.out, ← Ny540.out] at HSg
       rw [← Ny542.out, ← Ny544.out] at HSg
       have HST1 := Aside0.mk hst1
       have HST2 := Aside0.mk hst2
       clear hSg hst1 hst2
       have ne1_ : gb519 ≠ kk1 := by
        intro e_; have h_ := hty1; rw [← e_, BK519.out] at h_; obtain ⟨cells, h_⟩ := h_; have h2_ := Option.some.inj h_; injection h2_ with _ ht; exact absurd ht (by decide)
       have b1_ := Aside0.mk (blk_grown BK519.out hgr1 (fun e_ => ne1_ (Option.some.inj e_)))
       have ne2_ : gb519 ≠ kk2 := by
        intro e_; have h_ := hty2; rw [← e_, b1_.out] at h_; obtain ⟨cells, h_⟩ := h_; have h2_ := Option.some.inj h_; injection h2_ with _ ht; exact absurd ht (by decide)
       have b2_ := Aside0.mk (blk_grown b1_.out hgr2 (fun e_ => ne2_ (Option.some.inj e_)))
       have ne3_ : gb520 ≠ kk1 := by
        intro e_; have h_ := hty1; rw [← e_, BK520.out] at h_; obtain ⟨cells, h_⟩ := h_; have h2_ := Option.some.inj h_; injection h2_ with _ ht; exact absurd ht (by decide)
       have b3_ := Aside0.mk (blk_grown BK520.out hgr1 (fun e_ => ne3_ (Option.some.inj e_)))
       have ne4_ : gb520 ≠ kk2 := by
        intro e_; have h_ := hty2; rw [← e_, b3_.out] at h_; obtain ⟨cells, h_⟩ := h_; have h2_ := Option.some.inj h_; injection h2_ with _ ht; exact absurd ht (by decide)
       have b4_ := Aside0.mk (blk_grown b3_.out hgr2 (fun e_ => ne4_ (Option.some.inj e_)))
       have b5_ := Aside0.mk (blk_grown BK531.out hgr1 (fun e_ => ho1.1 (Option.some.inj e_).symm))
       have b6_ := Aside0.mk (blk_grown BK532.out hgr1 (fun e_ => ho1.2 (Option.some.inj e_).symm))
       have hb_ := Aside0.mk (below_grownT (below_grownT HB.out hgr1 hk1) hgr2 hk2)
       have HX1_ := Aside0.mk (show (fun w' : World => w'.cell? ⟨gb520, 0, none⟩ = some (.slice (some ad533) x521000_2.length co56) ∧ w'.cell? ⟨gb531, 0, none⟩ = some (.int .i64 ji28) ∧ w'.cell? ⟨gb531, 1, none⟩ = some (.int .i64 ji31) ∧ w'.cell? ⟨gb532, 0, none⟩ = some (.int .i64 ji35) ∧ w'.cell? ⟨gb532, 1, none⟩ = some (.int .i64 ji38) ∧ w'.cell? (ad533.add (ji28 : Int).toNat) = some (.slice (some g1) (rd_L4 x521000_2 ji28).length cg1) ∧ w'.cell? (ad533.add (ji35 : Int).toNat) = some (.slice (some g2) m2 cg2)) W1 from ⟨(blk_cell b3_.out 0).trans rfl, (blk_cell b5_.out 0).trans rfl, (blk_cell b5_.out 1).trans rfl, (blk_cell b6_.out 0).trans rfl, (blk_cell b6_.out 1).trans rfl, ha1, hb1⟩)
       have hS_ := (show (fun w' : World => w'.cell? ⟨gb520, 0, none⟩ = some (.slice (some ad533) x521000_2.length co56) ∧ w'.cell? ⟨gb531, 0, none⟩ = some (.int .i64 ji28) ∧ w'.cell? ⟨gb531, 1, none⟩ = some (.int .i64 ji31) ∧ w'.cell? ⟨gb532, 0, none⟩ = some (.int .i64 ji35) ∧ w'.cell? ⟨gb532, 1, none⟩ = some (.int .i64 ji38) ∧ w'.cell? (ad533.add (ji28 : Int).toNat) = some (.slice (some g1) (rd_L4 x521000_2 ji28).length cg1) ∧ w'.cell? (ad533.add (ji35 : Int).toNat) = some (.slice (some g2) m2 cg2)) w55.drew from ⟨(blk_cell BK520.out 0).trans rfl, (blk_cell BK531.out 0).trans rfl, (blk_cell BK531.out 1).trans rfl, (blk_cell BK532.out 0).trans rfl, (blk_cell BK532.out 1).trans rfl, ha0, hb0⟩)
       clear ha0 ha1 hb0 hb1 hgr1 hgr2 hty1 hty2 hk1 hk2 ho1 ho2 ne1_ ne2_ ne3_ ne4_ b1_ b3_ b5_ b6_ HO_521000 BK519 BK520 BK531 BK532 HB
       have HO_521000 := HSg
       have BK519 := b2_
       have BK520 := b4_
       have HB := hb_
       clear HSg b2_ b4_ hb_
       replace pa0 := eq_true pa0
       replace pa1 := eq_true pa1
       replace pb0 := eq_true pb0
       replace pb1 := eq_true pb1
       replace pc0 := eq_true pc0
       replace pc1 := eq_true pc1
       replace pd0 := eq_true pd0
       replace hm2 := eq_true hm2
       clear pd1
       refine start_ (n := 22) (S := fun w' => w'.cell? ⟨gb520, 0, none⟩ = some (.slice (some ad533) x521000_2.length co56) ∧ w'.cell? ⟨gb531, 0, none⟩ = some (.int .i64 ji28) ∧ w'.cell? ⟨gb531, 1, none⟩ = some (.int .i64 ji31) ∧ w'.cell? ⟨gb532, 0, none⟩ = some (.int .i64 ji35) ∧ w'.cell? ⟨gb532, 1, none⟩ = some (.int .i64 ji38) ∧ w'.cell? (ad533.add (ji28 : Int).toNat) = some (.slice (some g1) (rd_L4 x521000_2 ji28).length cg1) ∧ w'.cell? (ad533.add (ji35 : Int).toNat) = some (.slice (some g2) m2 cg2)) (ds := [21]) #[false, false, false, false, false, false, false, false, false, false, false, false, false, false, false, false, false, false, false, false, false, false] (by kernel_rfl) rfl rfl hS_ (fun hHeld => ?_); refine with_tabW mizmazetop_built.tab17 mizmazetop_built.bits17 (fun HT_ HW_ => ?_)
       clear hS_
       generalize w55.drew = wd78 at HST1 hHeld ⊢
       refine pv_ 0 106 tb64 HT_ ?_
       refine pv_ 2 108 tb65 HT_ ?_
       refine pv_ 6 112 tb66 HT_ ?_
       refine pv_ 8 114 tb67 HT_ ?_
       refine pv_ 10 116 tb68 HT_ ?_
       refine pv_ 14 120 tb69 HT_ ?_
       refine take_ (i := 1) (N := some 107) (v := ?_) (a' := ?_) tb70 rfl rfl (take_ofW HT_.out HW_.out (by kernel_rfl)) (fun _ _ _ h => h) (Or.inl ⟨by rfl, ?_⟩) hHeld ?_ ?_
       rotate_left
       ·intro w' s0
        go_simp
        (try with_reducible rfl)
       rotate_left
       ·simp only [Act.put, List.setIfInBounds_toArray, List.set_cons_zero, List.set_cons_succ, i64_w, i32_w]
        rfl
       refine take_ (i := 3) (N := some 109) (v := ?_) (a' := ?_) tb71 rfl rfl (take_ofW HT_.out HW_.out (by kernel_rfl)) (fun _ _ _ h => h) (Or.inl ⟨by rfl, ?_⟩) hHeld ?_ ?_
       rotate_left
       ·intro w' s0
        go_simp
        (try with_reducible rfl)
       rotate_left
       ·simp only [Act.put, List.setIfInBounds_toArray, List.set_cons_zero, List.set_cons_succ, i64_w, i32_w]
        rfl
       refine pv_ 4 110 tb72 HT_ ?_
       refine take_ (i := 5) (N := some 111) (v := ?_) (a' := ?_) tb73 rfl rfl (take_ofW HT_.out HW_.out (by kernel_rfl)) (fun _ _ _ h => h) (Or.inl ⟨by rfl, ?_⟩) hHeld ?_ ?_
       rotate_left
       ·intro w' s0
        go_simp
        (try with_reducible rfl)
       rotate_left
       ·simp only [Act.put, List.setIfInBounds_toArray, List.set_cons_zero, List.set_cons_succ, i64_w, i32_w]
        rfl
       refine take_ (i := 7) (N := some 113) (v := ?_) (a' := ?_) tb74 rfl rfl (take_ofW HT_.out HW_.out (by kernel_rfl)) (fun _ _ _ h => h) (Or.inl ⟨by rfl, ?_⟩) hHeld ?_ ?_
       rotate_left
       ·intro w' s0
        go_simp
        (try with_reducible rfl)
       rotate_left
       ·simp only [Act.put, List.setIfInBounds_toArray, List.set_cons_zero, List.set_cons_succ, i64_w, i32_w]
        rfl
       refine take_ (i := 9) (N := some 115) (v := ?_) (a' := ?_) tb75 rfl rfl (take_ofW HT_.out HW_.out (by kernel_rfl)) (fun _ _ _ h => h) (Or.inl ⟨by rfl, ?_⟩) hHeld ?_ ?_
       rotate_left
       ·intro w' s0
        go_simp
        (try with_reducible rfl)
       rotate_left
       ·simp only [Act.put, List.setIfInBounds_toArray, List.set_cons_zero, List.set_cons_succ, i64_w, i32_w]
        rfl
       refine take_ (i := 11) (N := some 117) (v := ?_) (a' := ?_) tb76 rfl rfl (take_ofW HT_.out HW_.out (by kernel_rfl)) (fun _ _ _ h => h) (Or.inl ⟨by rfl, ?_⟩) hHeld ?_ ?_
       rotate_left
       ·intro w' s0
        go_simp
        (try with_reducible rfl)
       rotate_left
       ·simp only [Act.put, List.setIfInBounds_toArray, List.set_cons_zero, List.set_cons_succ, i64_w, i32_w]
        rfl
       refine pv_ 12 118 tb77 HT_ ?_
       refine take_ (i := 13) (N := some 119) (v := ?_) (a' := ?_) tb78 rfl rfl (take_ofW HT_.out HW_.out (by kernel_rfl)) (fun _ _ _ h => h) (Or.inl ⟨by rfl, ?_⟩) hHeld ?_ ?_
       rotate_left
       ·intro w' s0
        go_simp
        (try with_reducible rfl)
       rotate_left
       ·simp only [Act.put, List.setIfInBounds_toArray, List.set_cons_zero, List.set_cons_succ, i64_w, i32_w]
        rfl
       refine take_ (i := 15) (N := some 121) (v := ?_) (a' := ?_) tb79 rfl rfl (take_ofW HT_.out HW_.out (by kernel_rfl)) (fun _ _ _ h => h) (Or.inl ⟨by rfl, ?_⟩) hHeld ?_ ?_
       rotate_left
       ·intro w' s0
        go_simp
        (try with_reducible rfl)
       rotate_left
       ·simp only [Act.put, List.setIfInBounds_toArray, List.set_cons_zero, List.set_cons_succ, i64_w, i32_w]
        rfl
       refine take_ (i := 16) (N := some 122) (v := ?_) (a' := ?_) tb80 rfl rfl (take_ofW HT_.out HW_.out (by kernel_rfl)) (fun _ _ _ h => h) (Or.inl ⟨by rfl, ?_⟩) hHeld ?_ ?_
       rotate_left
       ·intro w' s0
        go_simp
        (try with_reducible rfl)
       rotate_left
       ·simp only [Act.put, List.setIfInBounds_toArray, List.set_cons_zero, List.set_cons_succ, i64_w, i32_w]
        rfl
       refine pv_ 18 124 tb81 HT_ ?_
       refine take_ (i := 17) (N := some 123) (v := ?_) (a' := ?_) tb82 rfl rfl (take_ofW HT_.out HW_.out (by kernel_rfl)) (fun _ _ _ h => h) (Or.inl ⟨by rfl, ?_⟩) hHeld ?_ ?_
       rotate_left
       ·intro w' s0
        go_simp
        (try with_reducible rfl)
       rotate_left
       ·simp only [Act.put, List.setIfInBounds_toArray, List.set_cons_zero, List.set_cons_succ, i64_w, i32_w]
        rfl
       refine one_ (i := 19) (N := none) tb83 rfl rfl (one_of HT_.out (by kernel_rfl)) (by decide) (fun K hK => ?_)
       have hst := HST1.out
       refine skip_ (w1 := W1) (by rfl) rfl (run_store_opT (by rfl) (by rfl) (by rfl) hst) ?_
       clear hst HST1 hHeld
       refine hK.out _ _ HX1_.out (fun hHeld => ?_)
       clear hK K
       refine pv_ 20 125 tb84 HT_ ?_
       refine last_ (i := 21) (N := none) tb85 rfl rfl (one_of HT_.out (by kernel_rfl)) (by decide) (fun K hK => ?_)
       have hst := HST2.out
       refine skip_ (w1 := W2) (by rfl) rfl (run_store_opT (by rfl) (by rfl) (by rfl) hst) ?_
       clear hst HST2 hHeld HX1_
       refine hK.out _ _ ?_
       clear hK K
       refine done_ (done_of HT_.out (by kernel_rfl)) ?_
       clear HT_ HW_
       go_wp2_with fail
       go_roundg kj16
       case measure => have := HK1.out; have := HK2.out; have := HJ16.out; omega
       case rel => exact ⟨(wrap64 (x11_2 + 2)), (y544), (.slice (some ad533) x521000_2.length co56), (by first | rfl | (simp; done) | (simp [*]; done)), H', ⟨by have := HK1.out; have := HK2.out; have := HJ16.out; omega⟩, ⟨by (with_reducible repeat (first | apply Kd.S_alloc | apply Kd.S_drewN | apply Kd.S_drew)); exact Kd.S_mono HO_521000.out (fun _ hk => trivial)⟩, ⟨by (with_reducible repeat (first | refine blk_drewN ?_ _ | refine blk_drew ?_ | refine blk_alloc ?_ _)); exact BK519.out⟩, ⟨by (with_reducible repeat (first | refine blk_drewN ?_ _ | refine blk_drew ?_ | refine blk_alloc ?_ _)); exact BK520.out⟩, ⟨by repeat (first | (with_reducible first | exact HB.out | apply below_alloc | apply pw_below_drewN | apply below_drew1 | refine below_set ?_ GE519.out | refine below_set ?_ GE520.out | refine below_set ?_ GE531.out | refine below_set ?_ GE532.out) | exact HB.out)⟩⟩
end Go.Proofs.Ytgbjbgdnldklpaa.Q
end
