/- The law MazeNames holds: a maze whose rooms are named anew is connected if and only if the maze is, and is walked through alike; no bound on the arguments beyond their types'. (text 15 of 19) -/
import Derived.Test.YtgbjbgdnldklpaaZMazeNamesf
import Derived.Test.YtgbjbgdnldklpaaZMazeNamesn
import Derived.Test.YtgbjbgdnldklpaaZMazeNamesg
/-! Part QLaw10MazeNames -/
section
-- Written by xprint.py, a program of this session's, over the kit's print. Lean checks it.
namespace Go.Proofs.Ytgbjbgdnldklpaa.Q
open Go.RowKit Go.Proofs.YtgbjbgdnldklpaaW.PrintWords Go.Proofs.YtgbjbgdnldklpaaW.PrintLast Go.Proofs.YtgbjbgdnldklpaaW.PrintMore
attribute [local go_sem] max2_int min2_int max_two min_two max_three min_three max_four min_four
set_option linter.unusedVariables false
set_option linter.unusedSimpArgs false

/-! ### mizmazelaw10_MazeNames: function 7 -/
mutual
def mizmazelaw10_MazeNames.j0 : Nat → Int → Bool → Int → List Int → Bool → List (List (S44)) → Option (Bool)
  | 0, _, _, _, _, _, _ => none
  | k + 1, x1, x2, x3, x4, x38, x260000 => if x38 = true then ((mizmazelaw10_awake.f k).bind fun t262 => (some t262)) else (if 0 ≤ (x260000.length : Int) then (if ((x260000.length : Int) : Int).toNat ≤ 35184372088832 then (mizmazelaw10_MazeNames.l0 k x1 x2 x3 x4 (x260000.length : Int) (List.replicate ((x260000.length : Int) : Int).toNat 0) 0 x260000) else (none)) else (none))
def mizmazelaw10_MazeNames.l0 : Nat → Int → Bool → Int → List Int → Int → List Int → Int → List (List (S44)) → Option (Bool)
  | 0, _, _, _, _, _, _, _, _ => none
  | k + 1, x1, x2, x3, x4, x11, x12, x13, x260000 => if x13 < x11 then (if x11 = 0 then (none) else (if 0 ≤ x13 then (if x13 < (x12.length : Int) then ((some (x12.set (x13 : Int).toNat (Int.tmod (wrap64 (x13 + (wrap64 (x1)))) x11) : List Int)).bind fun y266 => (if x2 = true then (mizmazelaw10_MazeNames.l0 k x1 x2 x3 x4 x11 (y266.set (x13 : Int).toNat (wrap64 ((wrap64 (x11 - 1)) - (rd y266 x13)))) (wrap64 (x13 + 1)) x260000) else (mizmazelaw10_MazeNames.l0 k x1 x2 x3 x4 x11 y266 (wrap64 (x13 + 1)) x260000))) else (none)) else (none))) else (if 0 ≤ x11 then (if (x11 : Int).toNat ≤ 11728124029610 then (mizmazelaw10_MazeNames.l1 k x3 x4 x11 x12 0 x260000 (List.replicate (x11 : Int).toNat [])) else (none)) else (none))
def mizmazelaw10_MazeNames.l1 : Nat → Int → List Int → Int → List Int → Int → List (List (S44)) → List (List (S44)) → Option (Bool)
  | 0, _, _, _, _, _, _, _ => none
  | k + 1, x3, x4, x11, x12, x15, x260000, x273000 => if x15 < x11 then (mizmazelaw10_MazeNames.l2 k x3 x4 x11 x12 x15 ([] : List (S44)) 0 x260000 x273000) else ((maze_Connected.f k x260000).bind fun bt284 => ((maze_Connected.f k x273000).bind fun bt286 => (if bt284.2 = 0 then (if bt286.2 = 0 then (if (bt284.1 != bt286.1) = true then (mizmazelaw10_MazeNames.j4 k x3 x4 x11 x12 true x260000 x273000) else ((maze_Valid.f x273000).bind fun t288 => (mizmazelaw10_MazeNames.j4 k x3 x4 x11 x12 (!t288) x260000 x273000))) else (mizmazelaw10_MazeNames.j4 k x3 x4 x11 x12 true x260000 x273000)) else (mizmazelaw10_MazeNames.j4 k x3 x4 x11 x12 true x260000 x273000))))
def mizmazelaw10_MazeNames.l2 : Nat → Int → List Int → Int → List Int → Int → List (S44) → Int → List (List (S44)) → List (List (S44)) → Option (Bool)
  | 0, _, _, _, _, _, _, _, _, _ => none
  | k + 1, x3, x4, x11, x12, x15, x16, x17, x260000, x273000 => if 0 ≤ x15 then (if x15 < (x260000.length : Int) then (if x17 < ((rd_L4 x260000 x15).length : Int) then (if 0 ≤ x17 then (if 0 ≤ ((rd_T44 (rd_L4 x260000 x15) x17).f0) then (if ((rd_T44 (rd_L4 x260000 x15) x17).f0) < (x12.length : Int) then (if x16.length < 8796093022208 then (mizmazelaw10_MazeNames.l2 k x3 x4 x11 x12 x15 (x16 ++ [(⟨rd x12 ((rd_T44 (rd_L4 x260000 x15) x17).f0), (rd_T44 (rd_L4 x260000 x15) x17).f1⟩ : S44)]) (wrap64 (x17 + 1)) x260000 x273000) else (none)) else (none)) else (none)) else (none)) else (if x15 < (x12.length : Int) then (if 0 ≤ (rd x12 x15) then (if (rd x12 x15) < (x273000.length : Int) then (mizmazelaw10_MazeNames.l1 k x3 x4 x11 x12 (wrap64 (x15 + 1)) x260000 (x273000.set ((rd x12 x15) : Int).toNat x16)) else (none)) else (none)) else (none))) else (none)) else (none)
def mizmazelaw10_MazeNames.j4 : Nat → Int → List Int → Int → List Int → Bool → List (List (S44)) → List (List (S44)) → Option (Bool)
  | 0, _, _, _, _, _, _, _ => none
  | k + 1, x3, x4, x11, x12, x146, x260000, x273000 => if x146 = true then (some false) else ((maze_Walk.f k x260000 x3 x4).bind fun bt289 => (if bt289.2 = 0 then (if x3 < 0 then (mizmazelaw10_MazeNames.j5 k x3 x4 x11 x12 bt289.1 bt289.2 true x273000) else (mizmazelaw10_MazeNames.j5 k x3 x4 x11 x12 bt289.1 bt289.2 (decide (x3 ≥ x11)) x273000)) else (mizmazelaw10_MazeNames.j5 k x3 x4 x11 x12 bt289.1 bt289.2 true x273000)))
def mizmazelaw10_MazeNames.j5 : Nat → Int → List Int → Int → List Int → List Int → Int → Bool → List (List (S44)) → Option (Bool)
  | 0, _, _, _, _, _, _, _, _ => none
  | k + 1, x3, x4, x11, x12, x22, x23, x164, x273000 => if x164 = true then (if x23 = 0 then (some false) else ((mizmazelaw10_awake.f k).bind fun t293 => (some t293))) else (if 0 ≤ x3 then (if x3 < (x12.length : Int) then ((maze_Walk.f k x273000 (rd x12 x3) x4).bind fun bt295 => (mizmazelaw10_MazeNames.l3 k x11 x12 x22 bt295.1 bt295.2 0)) else (none)) else (none))
def mizmazelaw10_MazeNames.l3 : Nat → Int → List Int → List Int → List Int → Int → Int → Option (Bool)
  | 0, _, _, _, _, _, _ => none
  | k + 1, x11, x12, x22, x24, x25, x26 => if x26 < (x22.length : Int) then (if 0 ≤ x26 then (if (rd x22 x26) < 0 then (some false) else (if (rd x22 x26) ≥ x11 then (some false) else (if 0 ≤ (rd x22 x26) then (if (rd x22 x26) < (x12.length : Int) then (mizmazelaw10_MazeNames.l3 k x11 x12 (x22.set (x26 : Int).toNat (rd x12 (rd x22 x26))) x24 x25 (wrap64 (x26 + 1))) else (none)) else (none)))) else (none)) else (if x25 = 0 then ((mizmazeref07_Same.f k x22 x24).bind fun t304 => (if t304 = true then ((mizmazelaw10_awake.f k).bind fun t305 => (some t305)) else (some false))) else (some false))
end
def mizmazelaw10_MazeNames.f (k : Nat) (l0_0 : List (List (S44))) (a1 : Int) (a2 : Bool) (a3 : Int) (l4 : List Int) : Option (Bool) := (mizmazelaw10_Wide.f k l0_0).bind fun t260 => (if t260 = true then (mizmazelaw10_MazeNames.j0 k a1 a2 a3 l4 true l0_0) else ((mizmazeref10_Valid.f k l0_0).bind fun t261 => (if t261 = true then (mizmazelaw10_MazeNames.j0 k a1 a2 a3 l4 (decide ((l4.length : Int) > 500)) l0_0) else (mizmazelaw10_MazeNames.j0 k a1 a2 a3 l4 true l0_0))))
theorem mizmazelaw10_MazeNames.mono_l : ∀ k, (∀ y0 y1 y2 y3 y4 y5, LeO (mizmazelaw10_MazeNames.j0 k y0 y1 y2 y3 y4 y5) (mizmazelaw10_MazeNames.j0 (k + 1) y0 y1 y2 y3 y4 y5)) ∧ (∀ y0 y1 y2 y3 y4 y5 y6 y7, LeO (mizmazelaw10_MazeNames.l0 k y0 y1 y2 y3 y4 y5 y6 y7) (mizmazelaw10_MazeNames.l0 (k + 1) y0 y1 y2 y3 y4 y5 y6 y7)) ∧ (∀ y0 y1 y2 y3 y4 y5 y6, LeO (mizmazelaw10_MazeNames.l1 k y0 y1 y2 y3 y4 y5 y6) (mizmazelaw10_MazeNames.l1 (k + 1) y0 y1 y2 y3 y4 y5 y6)) ∧ (∀ y0 y1 y2 y3 y4 y5 y6 y7 y8, LeO (mizmazelaw10_MazeNames.l2 k y0 y1 y2 y3 y4 y5 y6 y7 y8) (mizmazelaw10_MazeNames.l2 (k + 1) y0 y1 y2 y3 y4 y5 y6 y7 y8)) ∧ (∀ y0 y1 y2 y3 y4 y5 y6, LeO (mizmazelaw10_MazeNames.j4 k y0 y1 y2 y3 y4 y5 y6) (mizmazelaw10_MazeNames.j4 (k + 1) y0 y1 y2 y3 y4 y5 y6)) ∧ (∀ y0 y1 y2 y3 y4 y5 y6 y7, LeO (mizmazelaw10_MazeNames.j5 k y0 y1 y2 y3 y4 y5 y6 y7) (mizmazelaw10_MazeNames.j5 (k + 1) y0 y1 y2 y3 y4 y5 y6 y7)) ∧ (∀ y0 y1 y2 y3 y4 y5, LeO (mizmazelaw10_MazeNames.l3 k y0 y1 y2 y3 y4 y5) (mizmazelaw10_MazeNames.l3 (k + 1) y0 y1 y2 y3 y4 y5))
  | 0 => ⟨fun _ _ _ _ _ _ r h => by simp [mizmazelaw10_MazeNames.j0] at h, fun _ _ _ _ _ _ _ _ r h => by simp [mizmazelaw10_MazeNames.l0] at h, fun _ _ _ _ _ _ _ r h => by simp [mizmazelaw10_MazeNames.l1] at h, fun _ _ _ _ _ _ _ _ _ r h => by simp [mizmazelaw10_MazeNames.l2] at h, fun _ _ _ _ _ _ _ r h => by simp [mizmazelaw10_MazeNames.j4] at h, fun _ _ _ _ _ _ _ _ r h => by simp [mizmazelaw10_MazeNames.j5] at h, fun _ _ _ _ _ _ r h => by simp [mizmazelaw10_MazeNames.l3] at h⟩
  | k + 1 => by
    obtain ⟨ih0, ih1, ih2, ih3, ih4, ih5, ih6⟩ := mizmazelaw10_MazeNames.mono_l k
    refine ⟨?_, ?_, ?_, ?_, ?_, ?_, ?_⟩
    · intro y0 y1 y2 y3 y4 y5
      unfold mizmazelaw10_MazeNames.j0
      repeat' first
      | (with_reducible exact ih0 _ _ _ _ _ _)
      | (with_reducible exact ih1 _ _ _ _ _ _ _ _)
      | (with_reducible exact ih2 _ _ _ _ _ _ _)
      | (with_reducible exact ih3 _ _ _ _ _ _ _ _ _)
      | (with_reducible exact ih4 _ _ _ _ _ _ _)
      | (with_reducible exact ih5 _ _ _ _ _ _ _ _)
      | (with_reducible exact ih6 _ _ _ _ _ _)
      | (with_reducible exact maze_Connected.mono _ _)
      | (with_reducible exact maze_Walk.mono _ _ _ _)
      | (with_reducible exact mizmazelaw10_Wide.mono _ _)
      | (with_reducible exact mizmazelaw10_awake.mono _)
      | (with_reducible exact mizmazeref07_Same.mono _ _ _)
      | (with_reducible exact mizmazeref10_Valid.mono _ _)
      | (with_reducible exact LeO.refl _)
      | (with_reducible exact LeO.none _)
      | (with_reducible refine LeO.ite ?_ ?_)
      | (with_reducible refine LeO.bind ?_ (fun _ => ?_))
      | exact ih0 _ _ _ _ _ _
      | exact ih1 _ _ _ _ _ _ _ _
      | exact ih2 _ _ _ _ _ _ _
      | exact ih3 _ _ _ _ _ _ _ _ _
      | exact ih4 _ _ _ _ _ _ _
      | exact ih5 _ _ _ _ _ _ _ _
      | exact ih6 _ _ _ _ _ _
      | exact maze_Connected.mono _ _
      | exact maze_Walk.mono _ _ _ _
      | exact mizmazelaw10_Wide.mono _ _
      | exact mizmazelaw10_awake.mono _
      | exact mizmazeref07_Same.mono _ _ _
      | exact mizmazeref10_Valid.mono _ _
      | exact LeO.none _
      | refine LeO.ite ?_ ?_
      | refine LeO.bind ?_ (fun _ => ?_)
    · intro y0 y1 y2 y3 y4 y5 y6 y7
      unfold mizmazelaw10_MazeNames.l0
      repeat' first
      | (with_reducible exact ih0 _ _ _ _ _ _)
      | (with_reducible exact ih1 _ _ _ _ _ _ _ _)
      | (with_reducible exact ih2 _ _ _ _ _ _ _)
      | (with_reducible exact ih3 _ _ _ _ _ _ _ _ _)
      | (with_reducible exact ih4 _ _ _ _ _ _ _)
      | (with_reducible exact ih5 _ _ _ _ _ _ _ _)
      | (with_reducible exact ih6 _ _ _ _ _ _)
      | (with_reducible exact maze_Connected.mono _ _)
      | (with_reducible exact maze_Walk.mono _ _ _ _)
      | (with_reducible exact mizmazelaw10_Wide.mono _ _)
      | (with_reducible exact mizmazelaw10_awake.mono _)
      | (with_reducible exact mizmazeref07_Same.mono _ _ _)
      | (with_reducible exact mizmazeref10_Valid.mono _ _)
      | (with_reducible exact LeO.refl _)
      | (with_reducible exact LeO.none _)
      | (with_reducible refine LeO.ite ?_ ?_)
      | (with_reducible refine LeO.bind ?_ (fun _ => ?_))
      | exact ih0 _ _ _ _ _ _
      | exact ih1 _ _ _ _ _ _ _ _
      | exact ih2 _ _ _ _ _ _ _
      | exact ih3 _ _ _ _ _ _ _ _ _
      | exact ih4 _ _ _ _ _ _ _
      | exact ih5 _ _ _ _ _ _ _ _
      | exact ih6 _ _ _ _ _ _
      | exact maze_Connected.mono _ _
      | exact maze_Walk.mono _ _ _ _
      | exact mizmazelaw10_Wide.mono _ _
      | exact mizmazelaw10_awake.mono _
      | exact mizmazeref07_Same.mono _ _ _
      | exact mizmazeref10_Valid.mono _ _
      | exact LeO.none _
      | refine LeO.ite ?_ ?_
      | refine LeO.bind ?_ (fun _ => ?_)
    · intro y0 y1 y2 y3 y4 y5 y6
      unfold mizmazelaw10_MazeNames.l1
      repeat' first
      | (with_reducible exact ih0 _ _ _ _ _ _)
      | (with_reducible exact ih1 _ _ _ _ _ _ _ _)
      | (with_reducible exact ih2 _ _ _ _ _ _ _)
      | (with_reducible exact ih3 _ _ _ _ _ _ _ _ _)
      | (with_reducible exact ih4 _ _ _ _ _ _ _)
      | (with_reducible exact ih5 _ _ _ _ _ _ _ _)
      | (with_reducible exact ih6 _ _ _ _ _ _)
      | (with_reducible exact maze_Connected.mono _ _)
      | (with_reducible exact maze_Walk.mono _ _ _ _)
      | (with_reducible exact mizmazelaw10_Wide.mono _ _)
      | (with_reducible exact mizmazelaw10_awake.mono _)
      | (with_reducible exact mizmazeref07_Same.mono _ _ _)
      | (with_reducible exact mizmazeref10_Valid.mono _ _)
      | (with_reducible exact LeO.refl _)
      | (with_reducible exact LeO.none _)
      | (with_reducible refine LeO.ite ?_ ?_)
      | (with_reducible refine LeO.bind ?_ (fun _ => ?_))
      | exact ih0 _ _ _ _ _ _
      | exact ih1 _ _ _ _ _ _ _ _
      | exact ih2 _ _ _ _ _ _ _
      | exact ih3 _ _ _ _ _ _ _ _ _
      | exact ih4 _ _ _ _ _ _ _
      | exact ih5 _ _ _ _ _ _ _ _
      | exact ih6 _ _ _ _ _ _
      | exact maze_Connected.mono _ _
      | exact maze_Walk.mono _ _ _ _
      | exact mizmazelaw10_Wide.mono _ _
      | exact mizmazelaw10_awake.mono _
      | exact mizmazeref07_Same.mono _ _ _
      | exact mizmazeref10_Valid.mono _ _
      | exact LeO.none _
      | refine LeO.ite ?_ ?_
      | refine LeO.bind ?_ (fun _ => ?_)
    · intro y0 y1 y2 y3 y4 y5 y6 y7 y8
      unfold mizmazelaw10_MazeNames.l2
      repeat' first
      | (with_reducible exact ih0 _ _ _ _ _ _)
      | (with_reducible exact ih1 _ _ _ _ _ _ _ _)
      | (with_reducible exact ih2 _ _ _ _ _ _ _)
      | (with_reducible exact ih3 _ _ _ _ _ _ _ _ _)
      | (with_reducible exact ih4 _ _ _ _ _ _ _)
      | (with_reducible exact ih5 _ _ _ _ _ _ _ _)
      | (with_reducible exact ih6 _ _ _ _ _ _)
      | (with_reducible exact maze_Connected.mono _ _)
      | (with_reducible exact maze_Walk.mono _ _ _ _)
      | (with_reducible exact mizmazelaw10_Wide.mono _ _)
      | (with_reducible exact mizmazelaw10_awake.mono _)
      | (with_reducible exact mizmazeref07_Same.mono _ _ _)
      | (with_reducible exact mizmazeref10_Valid.mono _ _)
      | (with_reducible exact LeO.refl _)
      | (with_reducible exact LeO.none _)
      | (with_reducible refine LeO.ite ?_ ?_)
      | (with_reducible refine LeO.bind ?_ (fun _ => ?_))
      | exact ih0 _ _ _ _ _ _
      | exact ih1 _ _ _ _ _ _ _ _
      | exact ih2 _ _ _ _ _ _ _
      | exact ih3 _ _ _ _ _ _ _ _ _
      | exact ih4 _ _ _ _ _ _ _
      | exact ih5 _ _ _ _ _ _ _ _
      | exact ih6 _ _ _ _ _ _
      | exact maze_Connected.mono _ _
      | exact maze_Walk.mono _ _ _ _
      | exact mizmazelaw10_Wide.mono _ _
      | exact mizmazelaw10_awake.mono _
      | exact mizmazeref07_Same.mono _ _ _
      | exact mizmazeref10_Valid.mono _ _
      | exact LeO.none _
      | refine LeO.ite ?_ ?_
      | refine LeO.bind ?_ (fun _ => ?_)
    · intro y0 y1 y2 y3 y4 y5 y6
      unfold mizmazelaw10_MazeNames.j4
      repeat' first
      | (with_reducible exact ih0 _ _ _ _ _ _)
      | (with_reducible exact ih1 _ _ _ _ _ _ _ _)
      | (with_reducible exact ih2 _ _ _ _ _ _ _)
      | (with_reducible exact ih3 _ _ _ _ _ _ _ _ _)
      | (with_reducible exact ih4 _ _ _ _ _ _ _)
      | (with_reducible exact ih5 _ _ _ _ _ _ _ _)
      | (with_reducible exact ih6 _ _ _ _ _ _)
      | (with_reducible exact maze_Connected.mono _ _)
      | (with_reducible exact maze_Walk.mono _ _ _ _)
      | (with_reducible exact mizmazelaw10_Wide.mono _ _)
      | (with_reducible exact mizmazelaw10_awake.mono _)
      | (with_reducible exact mizmazeref07_Same.mono _ _ _)
      | (with_reducible exact mizmazeref10_Valid.mono _ _)
      | (with_reducible exact LeO.refl _)
      | (with_reducible exact LeO.none _)
      | (with_reducible refine LeO.ite ?_ ?_)
      | (with_reducible refine LeO.bind ?_ (fun _ => ?_))
      | exact ih0 _ _ _ _ _ _
      | exact ih1 _ _ _ _ _ _ _ _
      | exact ih2 _ _ _ _ _ _ _
      | exact ih3 _ _ _ _ _ _ _ _ _
      | exact ih4 _ _ _ _ _ _ _
      | exact ih5 _ _ _ _ _ _ _ _
      | exact ih6 _ _ _ _ _ _
      | exact maze_Connected.mono _ _
      | exact maze_Walk.mono _ _ _ _
      | exact mizmazelaw10_Wide.mono _ _
      | exact mizmazelaw10_awake.mono _
      | exact mizmazeref07_Same.mono _ _ _
      | exact mizmazeref10_Valid.mono _ _
      | exact LeO.none _
      | refine LeO.ite ?_ ?_
      | refine LeO.bind ?_ (fun _ => ?_)
    · intro y0 y1 y2 y3 y4 y5 y6 y7
      unfold mizmazelaw10_MazeNames.j5
      repeat' first
      | (with_reducible exact ih0 _ _ _ _ _ _)
      | (with_reducible exact ih1 _ _ _ _ _ _ _ _)
      | (with_reducible exact ih2 _ _ _ _ _ _ _)
      | (with_reducible exact ih3 _ _ _ _ _ _ _ _ _)
      | (with_reducible exact ih4 _ _ _ _ _ _ _)
      | (with_reducible exact ih5 _ _ _ _ _ _ _ _)
      | (with_reducible exact ih6 _ _ _ _ _ _)
      | (with_reducible exact maze_Connected.mono _ _)
      | (with_reducible exact maze_Walk.mono _ _ _ _)
      | (with_reducible exact mizmazelaw10_Wide.mono _ _)
      | (with_reducible exact mizmazelaw10_awake.mono _)
      | (with_reducible exact mizmazeref07_Same.mono _ _ _)
      | (with_reducible exact mizmazeref10_Valid.mono _ _)
      | (with_reducible exact LeO.refl _)
      | (with_reducible exact LeO.none _)
      | (with_reducible refine LeO.ite ?_ ?_)
      | (with_reducible refine LeO.bind ?_ (fun _ => ?_))
      | exact ih0 _ _ _ _ _ _
      | exact ih1 _ _ _ _ _ _ _ _
      | exact ih2 _ _ _ _ _ _ _
      | exact ih3 _ _ _ _ _ _ _ _ _
      | exact ih4 _ _ _ _ _ _ _
      | exact ih5 _ _ _ _ _ _ _ _
      | exact ih6 _ _ _ _ _ _
      | exact maze_Connected.mono _ _
      | exact maze_Walk.mono _ _ _ _
      | exact mizmazelaw10_Wide.mono _ _
      | exact mizmazelaw10_awake.mono _
      | exact mizmazeref07_Same.mono _ _ _
      | exact mizmazeref10_Valid.mono _ _
      | exact LeO.none _
      | refine LeO.ite ?_ ?_
      | refine LeO.bind ?_ (fun _ => ?_)
    · intro y0 y1 y2 y3 y4 y5
      unfold mizmazelaw10_MazeNames.l3
      repeat' first
      | (with_reducible exact ih0 _ _ _ _ _ _)
      | (with_reducible exact ih1 _ _ _ _ _ _ _ _)
      | (with_reducible exact ih2 _ _ _ _ _ _ _)
      | (with_reducible exact ih3 _ _ _ _ _ _ _ _ _)
      | (with_reducible exact ih4 _ _ _ _ _ _ _)
      | (with_reducible exact ih5 _ _ _ _ _ _ _ _)
      | (with_reducible exact ih6 _ _ _ _ _ _)
      | (with_reducible exact maze_Connected.mono _ _)
      | (with_reducible exact maze_Walk.mono _ _ _ _)
      | (with_reducible exact mizmazelaw10_Wide.mono _ _)
      | (with_reducible exact mizmazelaw10_awake.mono _)
      | (with_reducible exact mizmazeref07_Same.mono _ _ _)
      | (with_reducible exact mizmazeref10_Valid.mono _ _)
      | (with_reducible exact LeO.refl _)
      | (with_reducible exact LeO.none _)
      | (with_reducible refine LeO.ite ?_ ?_)
      | (with_reducible refine LeO.bind ?_ (fun _ => ?_))
      | exact ih0 _ _ _ _ _ _
      | exact ih1 _ _ _ _ _ _ _ _
      | exact ih2 _ _ _ _ _ _ _
      | exact ih3 _ _ _ _ _ _ _ _ _
      | exact ih4 _ _ _ _ _ _ _
      | exact ih5 _ _ _ _ _ _ _ _
      | exact ih6 _ _ _ _ _ _
      | exact maze_Connected.mono _ _
      | exact maze_Walk.mono _ _ _ _
      | exact mizmazelaw10_Wide.mono _ _
      | exact mizmazelaw10_awake.mono _
      | exact mizmazeref07_Same.mono _ _ _
      | exact mizmazeref10_Valid.mono _ _
      | exact LeO.none _
      | refine LeO.ite ?_ ?_
      | refine LeO.bind ?_ (fun _ => ?_)
theorem mizmazelaw10_MazeNames.mono : ∀ a0 a1 a2 a3 a4 k, LeO (mizmazelaw10_MazeNames.f k a0 a1 a2 a3 a4) (mizmazelaw10_MazeNames.f (k + 1) a0 a1 a2 a3 a4) := by
  intro a0 a1 a2 a3 a4 k
  obtain ⟨ih0, ih1, ih2, ih3, ih4, ih5, ih6⟩ := mizmazelaw10_MazeNames.mono_l k
  unfold mizmazelaw10_MazeNames.f
  repeat' first
      | (with_reducible exact ih0 _ _ _ _ _ _)
      | (with_reducible exact ih1 _ _ _ _ _ _ _ _)
      | (with_reducible exact ih2 _ _ _ _ _ _ _)
      | (with_reducible exact ih3 _ _ _ _ _ _ _ _ _)
      | (with_reducible exact ih4 _ _ _ _ _ _ _)
      | (with_reducible exact ih5 _ _ _ _ _ _ _ _)
      | (with_reducible exact ih6 _ _ _ _ _ _)
      | (with_reducible exact maze_Connected.mono _ _)
      | (with_reducible exact maze_Walk.mono _ _ _ _)
      | (with_reducible exact mizmazelaw10_Wide.mono _ _)
      | (with_reducible exact mizmazelaw10_awake.mono _)
      | (with_reducible exact mizmazeref07_Same.mono _ _ _)
      | (with_reducible exact mizmazeref10_Valid.mono _ _)
      | (with_reducible exact LeO.refl _)
      | (with_reducible exact LeO.none _)
      | (with_reducible refine LeO.ite ?_ ?_)
      | (with_reducible refine LeO.bind ?_ (fun _ => ?_))
      | exact ih0 _ _ _ _ _ _
      | exact ih1 _ _ _ _ _ _ _ _
      | exact ih2 _ _ _ _ _ _ _
      | exact ih3 _ _ _ _ _ _ _ _ _
      | exact ih4 _ _ _ _ _ _ _
      | exact ih5 _ _ _ _ _ _ _ _
      | exact ih6 _ _ _ _ _ _
      | exact maze_Connected.mono _ _
      | exact maze_Walk.mono _ _ _ _
      | exact mizmazelaw10_Wide.mono _ _
      | exact mizmazelaw10_awake.mono _
      | exact mizmazeref07_Same.mono _ _ _
      | exact mizmazeref10_Valid.mono _ _
      | exact LeO.none _
      | refine LeO.ite ?_ ?_
      | refine LeO.bind ?_ (fun _ => ?_)
def mizmazelaw10_MazeNames.T19 : Bool × List (List Nat × List Nat) := (true, [([], []), ([], []), ([], []), ([2], [2]), ([], []), ([3, 4], [3, 4]), ([5], [5]), ([], []), ([6, 7], [6, 7]), ([8], [8]), ([9], [9]), ([1, 10], [1, 10]), ([11], [11]), ([], []), ([13], [13]), ([], []), ([14, 15], [14, 15]), ([16], [16]), ([], []), ([17, 18], [17, 18]), ([19], [19]), ([20], [20]), ([12, 21], [12, 21]), ([22], [22]), ([0, 23], [0, 23]), ([24, 24, 0, 1, 2, 3, 4, 5, 6, 7, 8, 9, 10, 11, 12, 13, 14, 15, 16, 17, 18, 19, 20, 21, 22, 23, 24], [0, 24])])
def mizmazelaw10_MazeNames.B19 : List Nat := [0, 0, 0, 4, 0, 28, 60, 0, 252, 508, 1020, 2046, 4094, 0, 8192, 0, 57344, 122880, 0, 516096, 1040384, 2088960, 4194302, 8388606, 16777215, 33554431]
theorem mizmazelaw10_MazeNames.tab19 : rtab .any (opsOf Try.f7 19) = mizmazelaw10_MazeNames.T19 := by kernel_rfl
theorem mizmazelaw10_MazeNames.bits19 : waitsOk mizmazelaw10_MazeNames.T19.2 mizmazelaw10_MazeNames.B19 = true := by kernel_rfl
def mizmazelaw10_MazeNames.T20 : Bool × List (List Nat × List Nat) := (true, [([], []), ([0], [0]), ([], []), ([], []), ([2, 3], [2, 3]), ([4], [4]), ([], []), ([1, 5, 0, 1, 2, 3, 4, 5, 6], [1, 5]), ([7, 6, 0, 1, 2, 3, 4, 5, 6], [6, 7])])
def mizmazelaw10_MazeNames.B20 : List Nat := [0, 1, 0, 0, 12, 28, 0, 127, 255]
theorem mizmazelaw10_MazeNames.tab20 : rtab .any (opsOf Try.f7 20) = mizmazelaw10_MazeNames.T20 := by kernel_rfl
theorem mizmazelaw10_MazeNames.bits20 : waitsOk mizmazelaw10_MazeNames.T20.2 mizmazelaw10_MazeNames.B20 = true := by kernel_rfl
def mizmazelaw10_MazeNames.T28 : Bool × List (List Nat × List Nat) := (true, [([], []), ([], []), ([], []), ([1, 2], [1, 2]), ([3], [3]), ([], []), ([0, 4, 5], [0, 4, 5]), ([6], [6]), ([7], [7]), ([7], [7]), ([8, 6, 0, 1, 2, 3, 4, 5, 6, 7, 8], [8]), ([9, 10, 0, 1, 2, 3, 4, 5, 6, 7, 8, 9, 10], [9])])
def mizmazelaw10_MazeNames.B28 : List Nat := [0, 0, 0, 6, 14, 0, 63, 127, 255, 255, 511, 2047]
theorem mizmazelaw10_MazeNames.tab28 : rtab .any (opsOf Try.f7 28) = mizmazelaw10_MazeNames.T28 := by kernel_rfl
theorem mizmazelaw10_MazeNames.bits28 : waitsOk mizmazelaw10_MazeNames.T28.2 mizmazelaw10_MazeNames.B28 = true := by kernel_rfl
set_option maxHeartbeats 8000000 in
set_option maxRecDepth 100000 in
theorem mizmazelaw10_MazeNames.calls (k : Nat) (A0_0 : Option Addr) (c0_0 : Nat) (l0_0 : List (List (S44))) (a1 : Int) (a2 : Bool) (a3 : Int) (A4 : Option Addr) (c4 : Nat) (l4 : List Int) (r : Bool) (w : World) (hr0_0 : Kd.C (Kd.slice 44 k44) w A0_0 l0_0.length l0_0) (hc0_0 : l0_0.length ≤ c0_0) (hr4 : Kd.C (Kd.int .i64) w A4 l4.length l4) (hc4 : l4.length ≤ c4) (h : mizmazelaw10_MazeNames.f k l0_0 a1 a2 a3 l4 = some r) :
    Calls Try.prog 7 #[.agg #[.slice A0_0 l0_0.length c0_0], .int .u8 a1, .bool a2, .int .i64 a3, .slice A4 l4.length c4] w fun e w' => e = .returned (.bool r) ∧ Below w.heap.size w w' := by
  have hu38 := Try.underlying38
  have hu44 := Try.underlying44
  have HR0_0 := Aside0.mk hr0_0
  have HC0_0 := Aside0.mk hc0_0
  clear hr0_0 hc0_0
  have HR4 := Aside0.mk hr4
  have HC4 := Aside0.mk hc4
  clear hr4 hc4
  have HB := Aside0.mk (Below.refl w.heap.size w)
  have H : ((mizmazelaw10_Wide.f k l0_0).bind fun t260 => (if t260 = true then (mizmazelaw10_MazeNames.j0 k a1 a2 a3 l4 true l0_0) else ((mizmazeref10_Valid.f k l0_0).bind fun t261 => (if t261 = true then (mizmazelaw10_MazeNames.j0 k a1 a2 a3 l4 (decide ((l4.length : Int) > 500)) l0_0) else (mizmazelaw10_MazeNames.j0 k a1 a2 a3 l4 true l0_0))))) = some r := h
  clear h
  have HC6 := Aside0.mk H
  clear H
  go_enter Try.func7, Try.ntmps7
  go_upto_region 1 with (first | ((with_reducible refine gate_dst (N := 5) rfl ?_); (try (refine gate_guard (by rfl) ?_; dsimp only)); refine box_event ?hg (N := 5) ?hd (cs := #[.slice A0_0 l0_0.length c0_0]) (t := 38) ?hr ?_; (case hd => rfl); (case hg => rfl); (case hr => first | (go_simp; done) | (go_simp; rfl)); intro gb259 hg w7 hbox hb; have n0_ := Aside0.mk (below_step (by repeat (first | (with_reducible first | exact HB.out | apply below_alloc | apply pw_below_drewN | apply below_drew1) | exact HB.out)) hb); have n1_ := Aside0.mk (hbox); have n2_ := Aside0.mk ((by rw [hg]; exact (below_size (by repeat (first | (with_reducible first | exact HB.out | apply below_alloc | apply pw_below_drewN | apply below_drew1) | exact HB.out))) : w.heap.size ≤ gb259)); have n3_ := Aside0.mk ((by rw [hg]; exact (below_size (by repeat (first | (with_reducible first | exact HB.out | apply below_alloc | apply pw_below_drewN | apply below_drew1) | exact HB.out))) : w.heap.size ≤ gb259)); clear HB; have HB := n0_; have BK259 := n1_; have GW259 := n2_; have GE259 := n3_; clear n0_ n1_ n2_ n3_; clear hb hbox hg))
  (try simp only [Act.put, List.setIfInBounds_toArray, List.set_cons_zero, List.set_cons_succ])
  go_cut [38] (fun v38 wc => ∃ (kq : Nat) (x38_5 : Bool), v38 = .bool x38_5 ∧ Aside0 (mizmazelaw10_MazeNames.j0 kq a1 a2 a3 l4 x38_5 l0_0 = some r) ∧ Aside0 (kq ≤ k) ∧ Aside0 (wc.heap[gb259]? = some (.cells #[(.slice A0_0 l0_0.length c0_0)] 38 (0, 0))) ∧ Aside0 (Below w.heap.size w wc))
  case first =>
    have H := HC6.out
    clear HC6
    replace H := Option.bind_eq_some_iff.mp H
    obtain ⟨t260, A80, H⟩ := H
    replace H : (if t260 = true then (mizmazelaw10_MazeNames.j0 k a1 a2 a3 l4 true l0_0) else ((mizmazeref10_Valid.f k l0_0).bind fun t261 => (if t261 = true then (mizmazelaw10_MazeNames.j0 k a1 a2 a3 l4 (decide ((l4.length : Int) > 500)) l0_0) else (mizmazelaw10_MazeNames.j0 k a1 a2 a3 l4 true l0_0)))) = some r := H
    have A8 := Aside0.mk A80
    clear A80
    by_cases c9 : t260 = true
    · subst c9
      have H1 : (mizmazelaw10_MazeNames.j0 k a1 a2 a3 l4 true l0_0) = some r := by rw [if_pos rfl] at H; exact H
      clear H
      have H := H1
      clear H1
      have H' := Aside0.mk H
      clear H
      have hcz10_0 : w7.cell? ⟨gb259, 0, none⟩ = some (.slice A0_0 l0_0.length c0_0) := (blk_cell BK259.out 0).trans rfl
      have hfz10_0 := blk_frozen BK259.out 0
      go_wp2_with (first | ((with_reducible refine gate_callee (f := 20) rfl ?_); refine goesL_ (some 28) rfl rfl Try.func20 (by kernel_rfl) rfl #[.agg #[.slice A0_0 l0_0.length c0_0]] rfl (by (try simp only [List.map_toArray, List.map_cons, List.map_nil]); first | done | rfl | (simp only [List.length_drop, List.length_take]; rfl)) ?_; (with_reducible refine (mizmazelaw10_Wide.calls k _ _ l0_0 true _ ?side1 ?side2 A8.out).mono ?_); (case side1 => repeat (first | exact (Kd.C_below HR0_0.out HB.out) | (with_reducible refine Kd.C_alloc ?_ _) | (with_reducible refine Kd.C_drewN ?_ _) | (with_reducible refine Kd.C_drew ?_))); (case side2 => exact HC0_0.out); rintro e w11 ⟨rfl, hb⟩; refine ⟨_, rfl, ?_⟩; have n0_ := Aside0.mk (blk_below (g := gb259) (o := .cells #[.slice A0_0 l0_0.length c0_0] 38 (0, 0)) (by (with_reducible repeat (first | refine blk_drewN ?_ _ | refine blk_drew ?_ | refine blk_alloc ?_ _)); exact BK259.out) hb); have n1_ := Aside0.mk (below_step (by repeat (first | (with_reducible first | exact HB.out | apply below_alloc | apply pw_below_drewN | apply below_drew1 | refine below_set ?_ GE259.out) | exact HB.out)) hb); clear BK259; clear HB; have BK259 := n0_; have HB := n1_; clear n0_ n1_; (try clear hb); (try clear hb2); (try clear hk); (try clear hi)))
      go_meet
      case rel => exact ⟨_, (true), (by first | rfl | (simp; done) | (simp [*]; done)), H', ⟨by first | omega | exact Nat.le_refl _⟩, ⟨by (with_reducible repeat (first | refine blk_drewN ?_ _ | refine blk_drew ?_ | refine blk_alloc ?_ _)); exact BK259.out⟩, ⟨by repeat (first | (with_reducible first | exact HB.out | apply below_alloc | apply pw_below_drewN | apply below_drew1 | refine below_set ?_ GE259.out) | exact HB.out)⟩⟩
    · replace c9 := Bool.eq_false_iff.mpr c9
      subst c9
      have H1 : ((mizmazeref10_Valid.f k l0_0).bind fun t261 => (if t261 = true then (mizmazelaw10_MazeNames.j0 k a1 a2 a3 l4 (decide ((l4.length : Int) > 500)) l0_0) else (mizmazelaw10_MazeNames.j0 k a1 a2 a3 l4 true l0_0))) = some r := by rw [if_neg (show ¬ (false = true) by decide)] at H; exact H
      clear H
      have H := H1
      clear H1
      replace H := Option.bind_eq_some_iff.mp H
      obtain ⟨t261, A120, H⟩ := H
      replace H : (if t261 = true then (mizmazelaw10_MazeNames.j0 k a1 a2 a3 l4 (decide ((l4.length : Int) > 500)) l0_0) else (mizmazelaw10_MazeNames.j0 k a1 a2 a3 l4 true l0_0)) = some r := H
      have A12 := Aside0.mk A120
      clear A120
      by_cases c13 : t261 = true
      · subst c13
        have H1 : (mizmazelaw10_MazeNames.j0 k a1 a2 a3 l4 (decide ((l4.length : Int) > 500)) l0_0) = some r := by rw [if_pos rfl] at H; exact H
        clear H
        have H := H1
        clear H1
        have H' := Aside0.mk H
        clear H
        have hcz14_0 : w7.cell? ⟨gb259, 0, none⟩ = some (.slice A0_0 l0_0.length c0_0) := (blk_cell BK259.out 0).trans rfl
        have hfz14_0 := blk_frozen BK259.out 0
        go_wp2_with (first | ((with_reducible refine gate_callee (f := 20) rfl ?_); refine goesL_ (some 28) rfl rfl Try.func20 (by kernel_rfl) rfl #[.agg #[.slice A0_0 l0_0.length c0_0]] rfl (by (try simp only [List.map_toArray, List.map_cons, List.map_nil]); first | done | rfl | (simp only [List.length_drop, List.length_take]; rfl)) ?_; (with_reducible refine (mizmazelaw10_Wide.calls k _ _ l0_0 false _ ?side1 ?side2 A8.out).mono ?_); (case side1 => repeat (first | exact (Kd.C_below HR0_0.out HB.out) | (with_reducible refine Kd.C_alloc ?_ _) | (with_reducible refine Kd.C_drewN ?_ _) | (with_reducible refine Kd.C_drew ?_))); (case side2 => exact HC0_0.out); rintro e w15 ⟨rfl, hb⟩; refine ⟨_, rfl, ?_⟩; have n0_ := Aside0.mk (blk_below (g := gb259) (o := .cells #[.slice A0_0 l0_0.length c0_0] 38 (0, 0)) (by (with_reducible repeat (first | refine blk_drewN ?_ _ | refine blk_drew ?_ | refine blk_alloc ?_ _)); exact BK259.out) hb); have n1_ := Aside0.mk (below_step (by repeat (first | (with_reducible first | exact HB.out | apply below_alloc | apply pw_below_drewN | apply below_drew1 | refine below_set ?_ GE259.out) | exact HB.out)) hb); clear BK259; clear HB; have BK259 := n0_; have HB := n1_; clear n0_ n1_; (try clear hb); (try clear hb2); (try clear hk); (try clear hi); have hcz16_0 : w15.cell? ⟨gb259, 0, none⟩ = some (.slice A0_0 l0_0.length c0_0) := (blk_cell BK259.out 0).trans rfl; have hfz16_0 := blk_frozen BK259.out 0) | (go_at_call 21; (with_reducible refine (mizmazeref10_Valid.calls k _ _ l0_0 true _ ?side1 ?side2 A12.out).mono ?_); (case side1 => repeat (first | exact (Kd.C_below HR0_0.out HB.out) | (with_reducible refine Kd.C_alloc ?_ _) | (with_reducible refine Kd.C_drewN ?_ _) | (with_reducible refine Kd.C_drew ?_))); (case side2 => exact HC0_0.out); rintro e w17 ⟨rfl, hb⟩; have n0_ := Aside0.mk (blk_below (g := gb259) (o := .cells #[.slice A0_0 l0_0.length c0_0] 38 (0, 0)) (by (with_reducible repeat (first | refine blk_drewN ?_ _ | refine blk_drew ?_ | refine blk_alloc ?_ _)); exact BK259.out) hb); have n1_ := Aside0.mk (below_step (by repeat (first | (with_reducible first | exact HB.out | apply below_alloc | apply pw_below_drewN | apply below_drew1 | refine below_set ?_ GE259.out) | exact HB.out)) hb); clear BK259; clear HB; have BK259 := n0_; have HB := n1_; clear n0_ n1_; (try clear hb); (try clear hb2); (try clear hk); (try clear hi)))
        go_meet
        case rel => exact ⟨_, (decide ((l4.length : Int) > 500)), (by first | rfl | (simp; done) | (simp [*]; done)), H', ⟨by first | omega | exact Nat.le_refl _⟩, ⟨by (with_reducible repeat (first | refine blk_drewN ?_ _ | refine blk_drew ?_ | refine blk_alloc ?_ _)); exact BK259.out⟩, ⟨by repeat (first | (with_reducible first | exact HB.out | apply below_alloc | apply pw_below_drewN | apply below_drew1 | refine below_set ?_ GE259.out) | exact HB.out)⟩⟩
      · replace c13 := Bool.eq_false_iff.mpr c13
        subst c13
        have H1 : (mizmazelaw10_MazeNames.j0 k a1 a2 a3 l4 true l0_0) = some r := by rw [if_neg (show ¬ (false = true) by decide)] at H; exact H
        clear H
        have H := H1
        clear H1
        have H' := Aside0.mk H
        clear H
        have hcz18_0 : w7.cell? ⟨gb259, 0, none⟩ = some (.slice A0_0 l0_0.length c0_0) := (blk_cell BK259.out 0).trans rfl
        have hfz18_0 := blk_frozen BK259.out 0
        go_wp2_with (first | ((with_reducible refine gate_callee (f := 20) rfl ?_); refine goesL_ (some 28) rfl rfl Try.func20 (by kernel_rfl) rfl #[.agg #[.slice A0_0 l0_0.length c0_0]] rfl (by (try simp only [List.map_toArray, List.map_cons, List.map_nil]); first | done | rfl | (simp only [List.length_drop, List.length_take]; rfl)) ?_; (with_reducible refine (mizmazelaw10_Wide.calls k _ _ l0_0 false _ ?side1 ?side2 A8.out).mono ?_); (case side1 => repeat (first | exact (Kd.C_below HR0_0.out HB.out) | (with_reducible refine Kd.C_alloc ?_ _) | (with_reducible refine Kd.C_drewN ?_ _) | (with_reducible refine Kd.C_drew ?_))); (case side2 => exact HC0_0.out); rintro e w19 ⟨rfl, hb⟩; refine ⟨_, rfl, ?_⟩; have n0_ := Aside0.mk (blk_below (g := gb259) (o := .cells #[.slice A0_0 l0_0.length c0_0] 38 (0, 0)) (by (with_reducible repeat (first | refine blk_drewN ?_ _ | refine blk_drew ?_ | refine blk_alloc ?_ _)); exact BK259.out) hb); have n1_ := Aside0.mk (below_step (by repeat (first | (with_reducible first | exact HB.out | apply below_alloc | apply pw_below_drewN | apply below_drew1 | refine below_set ?_ GE259.out) | exact HB.out)) hb); clear BK259; clear HB; have BK259 := n0_; have HB := n1_; clear n0_ n1_; (try clear hb); (try clear hb2); (try clear hk); (try clear hi); have hcz20_0 : w19.cell? ⟨gb259, 0, none⟩ = some (.slice A0_0 l0_0.length c0_0) := (blk_cell BK259.out 0).trans rfl; have hfz20_0 := blk_frozen BK259.out 0) | (go_at_call 21; (with_reducible refine (mizmazeref10_Valid.calls k _ _ l0_0 false _ ?side1 ?side2 A12.out).mono ?_); (case side1 => repeat (first | exact (Kd.C_below HR0_0.out HB.out) | (with_reducible refine Kd.C_alloc ?_ _) | (with_reducible refine Kd.C_drewN ?_ _) | (with_reducible refine Kd.C_drew ?_))); (case side2 => exact HC0_0.out); rintro e w21 ⟨rfl, hb⟩; have n0_ := Aside0.mk (blk_below (g := gb259) (o := .cells #[.slice A0_0 l0_0.length c0_0] 38 (0, 0)) (by (with_reducible repeat (first | refine blk_drewN ?_ _ | refine blk_drew ?_ | refine blk_alloc ?_ _)); exact BK259.out) hb); have n1_ := Aside0.mk (below_step (by repeat (first | (with_reducible first | exact HB.out | apply below_alloc | apply pw_below_drewN | apply below_drew1 | refine below_set ?_ GE259.out) | exact HB.out)) hb); clear BK259; clear HB; have BK259 := n0_; have HB := n1_; clear n0_ n1_; (try clear hb); (try clear hb2); (try clear hk); (try clear hi)))
        go_meet
        case rel => exact ⟨_, (true), (by first | rfl | (simp; done) | (simp [*]; done)), H', ⟨by first | omega | exact Nat.le_refl _⟩, ⟨by (with_reducible repeat (first | refine blk_drewN ?_ _ | refine blk_drew ?_ | refine blk_alloc ?_ _)); exact BK259.out⟩, ⟨by repeat (first | (with_reducible first | exact HB.out | apply below_alloc | apply pw_below_drewN | apply below_drew1 | refine below_set ?_ GE259.out) | exact HB.out)⟩⟩
  case rest =>
    clear HC6
    try clear c1
    try clear c2
    try clear p2
    try clear c4
    try clear c7
    try clear c9
    try clear c13
    try clear c20
    try clear hcz10_0
    try clear hcz14_0
    try clear hcz16_0
    try clear hcz18_0
    try clear hcz20_0
    try clear hfz10_0
    try clear hfz14_0
    try clear hfz16_0
    try clear hfz18_0
    try clear hfz20_0
    obtain ⟨kq, x38_5, rfl, HA, HJ5, BK259, HB⟩ := hcut
    cases kq with
    | zero => exact absurd HA.out (by simp [mizmazelaw10_MazeNames.j0])
    | succ kj5 =>
      have H := HA.out
      clear HA
      simp only [mizmazelaw10_MazeNames.j0] at H
      by_cases c22 : x38_5 = true
      · subst c22
        have H1 : ((mizmazelaw10_awake.f kj5).bind fun t262 => (some t262)) = some r := by rw [if_pos rfl] at H; exact H
        clear H
        have H := H1
        clear H1
        replace H := Option.bind_eq_some_iff.mp H
        obtain ⟨t262, A230, H⟩ := H
        replace H : (some t262) = some r := H
        have A23 := Aside0.mk A230
        clear A230
        obtain rfl := Option.some.inj H
        go_wp2_with (first | ((with_reducible refine gate_callee (f := 14) rfl ?_); refine goesL_ (some 39) rfl rfl Try.func14 (by kernel_rfl) rfl #[] rfl (by (try simp only [List.map_toArray, List.map_cons, List.map_nil]); first | done | rfl | (simp only [List.length_drop, List.length_take]; rfl)) ?_; (with_reducible refine (mizmazelaw10_awake.calls kj5  t262 _ A23.out).mono ?_); rintro e w24 ⟨rfl, hb⟩; refine ⟨_, rfl, ?_⟩; have n0_ := Aside0.mk (blk_below (g := gb259) (o := .cells #[.slice A0_0 l0_0.length c0_0] 38 (0, 0)) (by (with_reducible repeat (first | refine blk_drewN ?_ _ | refine blk_drew ?_ | refine blk_alloc ?_ _)); exact BK259.out) hb); have n1_ := Aside0.mk (below_step (by repeat (first | (with_reducible first | exact HB.out | apply below_alloc | apply pw_below_drewN | apply below_drew1 | refine below_set ?_ GE259.out) | exact HB.out)) hb); clear BK259; clear HB; have BK259 := n0_; have HB := n1_; clear n0_ n1_; (try clear hb); (try clear hb2); (try clear hk); (try clear hi)))
        go_ret
        exact ⟨by first | rfl | (simp [errW_none, errW_some] <;> rfl) | (simp [*, errW_none, errW_some] <;> rfl), by repeat (first | (with_reducible first | exact HB.out | apply below_alloc | apply pw_below_drewN | apply below_drew1 | refine below_set ?_ GE259.out) | exact HB.out)⟩
      · replace c22 := Bool.eq_false_iff.mpr c22
        subst c22
        have H1 : (if 0 ≤ (l0_0.length : Int) then (if ((l0_0.length : Int) : Int).toNat ≤ 35184372088832 then (mizmazelaw10_MazeNames.l0 kj5 a1 a2 a3 l4 (l0_0.length : Int) (List.replicate ((l0_0.length : Int) : Int).toNat 0) 0 l0_0) else (none)) else (none)) = some r := by rw [if_neg (show ¬ (false = true) by decide)] at H; exact H
        clear H
        have H := H1
        clear H1
        by_cases c25 : 0 ≤ (l0_0.length : Int)
        · rw [if_pos c25] at H
          have c25b0 := eq_true c25
          have c25b1 : decide (0 ≤ (l0_0.length : Int)) = true := decide_eq_true c25
          clear c25
          by_cases c26 : ((l0_0.length : Int) : Int).toNat ≤ 35184372088832
          · rw [if_pos c26] at H
            have c26b0 := eq_true c26
            have c26b1 : decide (((l0_0.length : Int) : Int).toNat ≤ 35184372088832) = true := decide_eq_true c26
            clear c26
            obtain ⟨y263, hy263⟩ : ∃ y_ : List Int, y_ = (List.replicate ((l0_0.length : Int) : Int).toNat 0) := ⟨_, rfl⟩
            replace H : (mizmazelaw10_MazeNames.l0 kj5 a1 a2 a3 l4 (l0_0.length : Int) y263 0 l0_0) = some r := by first | (rw [hy263]; with_reducible exact H) | (have H2_ := (Option.bind_some _ _).symm.trans H; rw [hy263]; with_reducible exact H2_) | (have H2_ := (Option.bind_some _ _).symm.trans H; with_reducible exact H2_) | with_reducible exact H | (rw [hy263]; exact H) | exact H
            have Ny263 := Aside0.mk hy263
            clear hy263
            have H' := Aside0.mk H
            clear H
            have hcz27_0 : wc.cell? ⟨gb259, 0, none⟩ = some (.slice A0_0 l0_0.length c0_0) := (blk_cell BK259.out 0).trans rfl
            have hfz27_0 := blk_frozen BK259.out 0
            go_wp2_with (first | ((with_reducible refine gate_dst (N := 44) rfl ?_); (try (refine gate_guard (by rfl) ?_; dsimp only)); refine Kd.R_make (Kd.int .i64) _ 3 rfl (N := 44) rfl 30 _ _ rfl (l0_0.length : Int) rfl rfl Try.underlying30 (.int .i64 0) 8 info3 rfl (by decide) (by omega) 0 (ok := fun _ => True) (okp := fun _ => True) rfl (fun _ hk => hk) trivial (of_decide_eq_true (by first | (with_reducible assumption) | assumption)) (Nat.le_trans (Nat.mul_le_mul_right _ (of_decide_eq_true (by first | (with_reducible assumption) | assumption) : (l0_0.length : Int).toNat ≤ 35184372088832)) (by omega)) (Below.refl _ _) (Nat.le_refl _) ?_; intro v264 w28 ho29 hb hg_ hnew_; clear hg_ hnew_; (first | rw [← Ny263.out] at ho29 | (simp only [Int.reduceToNat] at ho29; rw [← Ny263.out] at ho29)); have n0_ := Aside0.mk (Kd.R_lower ho29 (below_size (by repeat (first | (with_reducible first | exact HB.out | apply below_alloc | apply pw_below_drewN | apply below_drew1 | refine below_set ?_ GE259.out) | exact HB.out)))); have n1_ := Aside0.mk (blk_below (g := gb259) (o := .cells #[.slice A0_0 l0_0.length c0_0] 38 (0, 0)) (by (with_reducible repeat (first | refine blk_drewN ?_ _ | refine blk_drew ?_ | refine blk_alloc ?_ _)); exact BK259.out) hb); have n2_ := Aside0.mk (below_step (by repeat (first | (with_reducible first | exact HB.out | apply below_alloc | apply pw_below_drewN | apply below_drew1 | refine below_set ?_ GE259.out) | exact HB.out)) hb); clear BK259; clear HB; have HO265 := n0_; have BK259 := n1_; have HB := n2_; clear n0_ n1_ n2_; clear hb ho29))
            go_loopg [13] kj5 (fun kq v13 w' => ∃ (x12_2 : List Int) (x13_2 : Int), v13 = .int .i64 x13_2 ∧ Aside0 (mizmazelaw10_MazeNames.l0 kq a1 a2 a3 l4 (l0_0.length : Int) x12_2 x13_2 l0_0 = some r) ∧ Aside0 (kq ≤ kj5) ∧ Aside0 (Kd.R (Kd.int .i64) 3 w' w.heap.size (fun _ => True) v264 x12_2) ∧ Aside0 (w'.heap[gb259]? = some (.cells #[(.slice A0_0 l0_0.length c0_0)] 38 (0, 0))) ∧ Aside0 (Below w.heap.size w w'))
            case atStart => exact ⟨(y263), (0), (by first | rfl | (simp; done) | (simp [*]; done)), H', ⟨Nat.le_refl _⟩, ⟨by (with_reducible repeat (first | apply Kd.R_alloc | apply Kd.R_drewN | apply Kd.R_drew)); exact HO265.out⟩, ⟨by (with_reducible repeat (first | refine blk_drewN ?_ _ | refine blk_drew ?_ | refine blk_alloc ?_ _)); exact BK259.out⟩, ⟨by repeat (first | (with_reducible first | exact HB.out | apply below_alloc | apply pw_below_drewN | apply below_drew1 | refine below_set ?_ GE259.out) | exact HB.out)⟩⟩
            case round => as_aux_lemma =>
              clear H'
              try clear c1
              try clear c2
              try clear p2
              try clear c4
              try clear c7
              try clear c9
              try clear c13
              try clear c14
              try clear c20
              try clear c22
              try clear c25
              try clear c25b0
              try clear c25b1
              try clear c26
              try clear c26b0
              try clear c26b1
              try clear hcz10_0
              try clear hcz14_0
              try clear hcz16_0
              try clear hcz18_0
              try clear hcz20_0
              try clear hcz27_0
              try clear hfz10_0
              try clear hfz14_0
              try clear hfz16_0
              try clear hfz18_0
              try clear hfz20_0
              try clear hfz27_0
              try clear p2
              obtain ⟨x12_2, x13_2, rfl, HA, HK2, HO_12, BK259, HB⟩ := hrel
              cases gk with
              | zero => exact absurd HA.out (by simp [mizmazelaw10_MazeNames.l0])
              | succ k2 =>
                have H := HA.out
                clear HA
                simp only [mizmazelaw10_MazeNames.l0] at H
                by_cases c30 : x13_2 < (l0_0.length : Int)
                · rw [if_pos c30] at H
                  have c30b0 : decide (x13_2 < (l0_0.length : Int)) = true := decide_eq_true c30
                  clear c30
                  by_cases c31 : (l0_0.length : Int) = 0
                  · rw [if_pos c31] at H
                    exact absurd H (by simp)
                  · rw [if_neg c31] at H
                    have c31b0 : ((l0_0.length : Int) == 0) = false := beq_eq_false_iff_ne.mpr c31
                    have c31b1 : ((l0_0.length : Int) != 0) = true := bne_iff_ne.mpr c31
                    have c31b2 : ¬ (l0_0 = []) := fun h_ => c31 (by rw [h_]; rfl)
                    by_cases c32 : 0 ≤ x13_2
                    · rw [if_pos c32] at H
                      have c32b0 : decide (0 ≤ x13_2) = true := decide_eq_true c32
                      clear c32
                      by_cases c33 : x13_2 < (x12_2.length : Int)
                      · rw [if_pos c33] at H
                        have c33b0 : decide (x13_2 < (x12_2.length : Int)) = true := decide_eq_true c33
                        clear c33
                        obtain ⟨y266, hy266⟩ : ∃ y_ : List Int, y_ = (x12_2.set (x13_2 : Int).toNat (Int.tmod (wrap64 (x13_2 + (wrap64 (a1)))) (l0_0.length : Int))) := ⟨_, rfl⟩
                        replace H : (if a2 = true then (mizmazelaw10_MazeNames.l0 k2 a1 a2 a3 l4 (l0_0.length : Int) (y266.set (x13_2 : Int).toNat (wrap64 ((wrap64 ((l0_0.length : Int) - 1)) - (rd y266 x13_2)))) (wrap64 (x13_2 + 1)) l0_0) else (mizmazelaw10_MazeNames.l0 k2 a1 a2 a3 l4 (l0_0.length : Int) y266 (wrap64 (x13_2 + 1)) l0_0)) = some r := by first | (rw [hy266]; with_reducible exact H) | (have H2_ := (Option.bind_some _ _).symm.trans H; rw [hy266]; with_reducible exact H2_) | (have H2_ := (Option.bind_some _ _).symm.trans H; with_reducible exact H2_) | with_reducible exact H | (rw [hy266]; exact H) | exact H
                        have Ny266 := Aside0.mk hy266
                        clear hy266
                        by_cases c35 : a2 = true
                        · subst c35
                          have H1 : (mizmazelaw10_MazeNames.l0 k2 a1 true a3 l4 (l0_0.length : Int) (y266.set (x13_2 : Int).toNat (wrap64 ((wrap64 ((l0_0.length : Int) - 1)) - (rd y266 x13_2)))) (wrap64 (x13_2 + 1)) l0_0) = some r := by rw [if_pos rfl] at H; exact H
                          clear H
                          have H := H1
                          clear H1
                          obtain ⟨y268, hy268⟩ : ∃ y_ : List Int, y_ = (y266.set (x13_2 : Int).toNat (wrap64 ((wrap64 ((l0_0.length : Int) - 1)) - (rd y266 x13_2)))) := ⟨_, rfl⟩
                          replace H : (mizmazelaw10_MazeNames.l0 k2 a1 true a3 l4 (l0_0.length : Int) y268 (wrap64 (x13_2 + 1)) l0_0) = some r := by first | (rw [hy268]; with_reducible exact H) | (have H2_ := (Option.bind_some _ _).symm.trans H; rw [hy268]; with_reducible exact H2_) | (have H2_ := (Option.bind_some _ _).symm.trans H; with_reducible exact H2_) | with_reducible exact H | (rw [hy268]; exact H) | exact H
                          have Ny268 := Aside0.mk hy268
                          clear hy268
                          have H' := Aside0.mk H
                          clear H
                          have p34 : 0 ≤ (x13_2 : Int) := of_decide_eq_true (by first | (with_reducible assumption) | assumption)
                          have q34 : (x13_2 : Int) < ((x12_2.length : Int) : Int) := of_decide_eq_true (by first | (with_reducible assumption) | assumption)
                          obtain ⟨go34, co34, eo34, gb34, gl34, cl34, HG34⟩ := Kd.R_form HO_12.out (by omega)
                          (first | cases eo34 | (injection eo34 with ea_ en_ ec_; (first | subst ea_ | (injection ea_ with ea_; subst ea_)); subst ec_; clear en_))
                          have GB34 := Aside0.mk gb34
                          have GG34 := Aside0.mk HG34
                          clear gb34 gl34 HG34
                          obtain ⟨hx34_0, hf34_0⟩ := Kd.R_celln 0 HO_12.out (x13_2 : Int) p34 q34
                          replace p34 := eq_true p34
                          replace q34 := eq_true q34
                          have HP37 := Kd.R_putg HO_12.out (x13_2 : Int) (Int.tmod (wrap64 (x13_2 + (wrap64 (a1)))) (l0_0.length : Int))
                          go_wp2_with (first | ((with_reducible refine gate_store (t := 3) (p := 58) rfl ?_); refine store_event (t := 3) (p := 58) (v := ?vo_w38) (w1 := (wr.setCell ⟨go34, (x13_2 : Int).toNat, none⟩ (.int .i64 (Int.tmod (wrap64 (x13_2 + (wrap64 (a1)))) (l0_0.length : Int))))) ?hg ?ho ?hn ?hr ?_; (case ho => rfl); (case hg => rfl); (case hn => rfl); (case hr => first | (go_simp; done) | (go_simp; rfl)); intro w38 hw; have hg : wr.grownBy w38 (some go34) := (by rw [hw]; exact HP37.2); have hp_ : Kd.R (Kd.int .i64) 3 w38 w.heap.size (fun _ => True) (.slice (some ⟨go34, 0, none⟩) x12_2.length co34) y266 := (by rw [hw, Ny266.out]; exact HP37.1); clear HP37; have n0_ := Aside0.mk (hp_); have n1_ := Aside0.mk (blk_grown (g := gb259) (o := .cells #[.slice A0_0 l0_0.length c0_0] 38 (0, 0)) (by (with_reducible repeat (first | refine blk_drewN ?_ _ | refine blk_drew ?_ | refine blk_alloc ?_ _)); exact BK259.out) hg (Kd.R_ne HO_12.out BK259.out (by decide))); have n2_ := Aside0.mk ((by rw [hw]; exact below_set (HB.out) GB34.out : Below w.heap.size w w38)); clear HO_12; clear BK259; clear HB; have HO_12 := n0_; have BK259 := n1_; have HB := n2_; clear n0_ n1_ n2_; clear hg hw hp_; have p267 : 0 ≤ (x13_2 : Int) := of_decide_eq_true (by first | (with_reducible assumption) | assumption); have q267 : x13_2 < (y266.length : Int) := (by have h_ : (x13_2 : Int) < ((x12_2.length : Int) : Int) := of_decide_eq_true (by first | (with_reducible assumption) | assumption); first | (have e_ := (Kd.R_reads' HO_12.out).1; omega) | simpa only [Ny266.out, List.length_set] using h_); have ql267 : ((x13_2 : Int) < ((x12_2.length : Int) : Int)) = True := eq_true (of_decide_eq_true (by first | (with_reducible assumption) | assumption)); obtain ⟨ad267, e267, hx267_0⟩ := Kd.at_int (Kd.R_reads' HO_12.out).2.2 x13_2 p267 q267; obtain rfl : (⟨go34, 0, none⟩ : Addr) = ad267 := (by injection e267); (first | simp only [add_plain] at hx267_0 | simp only [add_at] at hx267_0 | simp only [Addr.add, Nat.zero_add] at hx267_0 | skip); replace p267 := eq_true p267; replace q267 := eq_true q267; have p36 : 0 ≤ (x13_2 : Int) := of_decide_eq_true (by first | (with_reducible assumption) | assumption); have q36 : (x13_2 : Int) < ((x12_2.length : Int) : Int) := of_decide_eq_true (by first | (with_reducible assumption) | assumption); obtain ⟨hx36_0, hf36_0⟩ := Kd.R_celln 0 HO_12.out (x13_2 : Int) p36 q36; replace p36 := eq_true p36; replace q36 := eq_true q36; obtain ⟨hy39_, hz39_⟩ := Kd.R_celln 0 HO_12.out (x13_2 : Int) (of_decide_eq_true (by first | (with_reducible assumption) | assumption)) (of_decide_eq_true (by first | (with_reducible assumption) | assumption)); have HP39 := Kd.R_putg HO_12.out (x13_2 : Int) (wrap64 ((wrap64 ((l0_0.length : Int) - 1)) - (rd y266 x13_2)))) | ((with_reducible refine gate_store (t := 3) (p := 69) rfl ?_); refine store_event (t := 3) (p := 69) (v := ?vo_w40) (w1 := (w38.setCell ⟨go34, (x13_2 : Int).toNat, none⟩ (.int .i64 (wrap64 ((wrap64 ((l0_0.length : Int) - 1)) - (rd y266 x13_2)))))) ?hg ?ho ?hn ?hr ?_; (case ho => rfl); (case hg => rfl); (case hn => rfl); (case hr => first | (go_simp; done) | (go_simp; rfl)); intro w40 hw; have hg : w38.grownBy w40 (some go34) := (by rw [hw]; exact HP39.2); have hp_ : Kd.R (Kd.int .i64) 3 w40 w.heap.size (fun _ => True) (.slice (some ⟨go34, 0, none⟩) x12_2.length co34) y268 := (by rw [hw, Ny268.out]; exact HP39.1); clear HP39; have n0_ := Aside0.mk (hp_); have n1_ := Aside0.mk (blk_grown (g := gb259) (o := .cells #[.slice A0_0 l0_0.length c0_0] 38 (0, 0)) (by (with_reducible repeat (first | refine blk_drewN ?_ _ | refine blk_drew ?_ | refine blk_alloc ?_ _)); exact BK259.out) hg (Kd.R_ne HO_12.out BK259.out (by decide))); have n2_ := Aside0.mk ((by rw [hw]; exact below_set (HB.out) GB34.out : Below w.heap.size w w40)); clear HO_12; clear BK259; clear HB; have HO_12 := n0_; have BK259 := n1_; have HB := n2_; clear n0_ n1_ n2_; clear hg hw hp_))
                          go_roundg k2
                          case measure => have := HJ5.out; have := HK2.out; omega
                          case rel => exact ⟨(y268), (wrap64 (x13_2 + 1)), (by first | rfl | (simp; done) | (simp [*]; done)), H', ⟨by have := HJ5.out; have := HK2.out; omega⟩, ⟨by (with_reducible repeat (first | apply Kd.R_alloc | apply Kd.R_drewN | apply Kd.R_drew)); exact HO_12.out⟩, ⟨by (with_reducible repeat (first | refine blk_drewN ?_ _ | refine blk_drew ?_ | refine blk_alloc ?_ _)); exact BK259.out⟩, ⟨by repeat (first | (with_reducible first | exact HB.out | apply below_alloc | apply pw_below_drewN | apply below_drew1 | refine below_set ?_ GE259.out) | exact HB.out)⟩⟩
                        · replace c35 := Bool.eq_false_iff.mpr c35
                          subst c35
                          have H1 : (mizmazelaw10_MazeNames.l0 k2 a1 false a3 l4 (l0_0.length : Int) y266 (wrap64 (x13_2 + 1)) l0_0) = some r := by rw [if_neg (show ¬ (false = true) by decide)] at H; exact H
                          clear H
                          have H := H1
                          clear H1
                          have H' := Aside0.mk H
                          clear H
                          have p34 : 0 ≤ (x13_2 : Int) := of_decide_eq_true (by first | (with_reducible assumption) | assumption)
                          have q34 : (x13_2 : Int) < ((x12_2.length : Int) : Int) := of_decide_eq_true (by first | (with_reducible assumption) | assumption)
                          obtain ⟨go34, co34, eo34, gb34, gl34, cl34, HG34⟩ := Kd.R_form HO_12.out (by omega)
                          (first | cases eo34 | (injection eo34 with ea_ en_ ec_; (first | subst ea_ | (injection ea_ with ea_; subst ea_)); subst ec_; clear en_))
                          have GB34 := Aside0.mk gb34
                          have GG34 := Aside0.mk HG34
                          clear gb34 gl34 HG34
                          obtain ⟨hx34_0, hf34_0⟩ := Kd.R_celln 0 HO_12.out (x13_2 : Int) p34 q34
                          replace p34 := eq_true p34
                          replace q34 := eq_true q34
                          have HP41 := Kd.R_putg HO_12.out (x13_2 : Int) (Int.tmod (wrap64 (x13_2 + (wrap64 (a1)))) (l0_0.length : Int))
                          go_wp2_with (first | ((with_reducible refine gate_store (t := 3) (p := 58) rfl ?_); refine store_event (t := 3) (p := 58) (v := ?vo_w42) (w1 := (wr.setCell ⟨go34, (x13_2 : Int).toNat, none⟩ (.int .i64 (Int.tmod (wrap64 (x13_2 + (wrap64 (a1)))) (l0_0.length : Int))))) ?hg ?ho ?hn ?hr ?_; (case ho => rfl); (case hg => rfl); (case hn => rfl); (case hr => first | (go_simp; done) | (go_simp; rfl)); intro w42 hw; have hg : wr.grownBy w42 (some go34) := (by rw [hw]; exact HP41.2); have hp_ : Kd.R (Kd.int .i64) 3 w42 w.heap.size (fun _ => True) (.slice (some ⟨go34, 0, none⟩) x12_2.length co34) y266 := (by rw [hw, Ny266.out]; exact HP41.1); clear HP41; have n0_ := Aside0.mk (hp_); have n1_ := Aside0.mk (blk_grown (g := gb259) (o := .cells #[.slice A0_0 l0_0.length c0_0] 38 (0, 0)) (by (with_reducible repeat (first | refine blk_drewN ?_ _ | refine blk_drew ?_ | refine blk_alloc ?_ _)); exact BK259.out) hg (Kd.R_ne HO_12.out BK259.out (by decide))); have n2_ := Aside0.mk ((by rw [hw]; exact below_set (HB.out) GB34.out : Below w.heap.size w w42)); clear HO_12; clear BK259; clear HB; have HO_12 := n0_; have BK259 := n1_; have HB := n2_; clear n0_ n1_ n2_; clear hg hw hp_))
                          go_roundg k2
                          case measure => have := HJ5.out; have := HK2.out; omega
                          case rel => exact ⟨(y266), (wrap64 (x13_2 + 1)), (by first | rfl | (simp; done) | (simp [*]; done)), H', ⟨by have := HJ5.out; have := HK2.out; omega⟩, ⟨by (with_reducible repeat (first | apply Kd.R_alloc | apply Kd.R_drewN | apply Kd.R_drew)); exact HO_12.out⟩, ⟨by (with_reducible repeat (first | refine blk_drewN ?_ _ | refine blk_drew ?_ | refine blk_alloc ?_ _)); exact BK259.out⟩, ⟨by repeat (first | (with_reducible first | exact HB.out | apply below_alloc | apply pw_below_drewN | apply below_drew1 | refine below_set ?_ GE259.out) | exact HB.out)⟩⟩
                      · rw [if_neg c33] at H
                        exact absurd H (by simp)
                    · rw [if_neg c32] at H
                      exact absurd H (by simp)
                · rw [if_neg c30] at H
                  have c30b0 : decide (x13_2 < (l0_0.length : Int)) = false := decide_eq_false c30
                  clear c30
                  by_cases c43 : 0 ≤ (l0_0.length : Int)
                  · rw [if_pos c43] at H
                    have c43b0 := eq_true c43
                    have c43b1 : decide (0 ≤ (l0_0.length : Int)) = true := decide_eq_true c43
                    clear c43
                    by_cases c44 : ((l0_0.length : Int) : Int).toNat ≤ 11728124029610
                    · rw [if_pos c44] at H
                      have c44b0 := eq_true c44
                      have c44b1 : decide (((l0_0.length : Int) : Int).toNat ≤ 11728124029610) = true := decide_eq_true c44
                      clear c44
                      obtain ⟨y269, hy269⟩ : ∃ y_ : List (List (S44)), y_ = (List.replicate ((l0_0.length : Int) : Int).toNat []) := ⟨_, rfl⟩
                      replace H : (mizmazelaw10_MazeNames.l1 k2 a3 l4 (l0_0.length : Int) x12_2 0 l0_0 y269) = some r := by first | (rw [hy269]; with_reducible exact H) | (have H2_ := (Option.bind_some _ _).symm.trans H; rw [hy269]; with_reducible exact H2_) | (have H2_ := (Option.bind_some _ _).symm.trans H; with_reducible exact H2_) | with_reducible exact H | (rw [hy269]; exact H) | exact H
                      have Ny269 := Aside0.mk hy269
                      clear hy269
                      have H' := Aside0.mk H
                      clear H
                      go_wp2_with (first | ((with_reducible refine gate_dst (N := 71) rfl ?_); (try (refine gate_guard (by rfl) ?_; dsimp only)); refine Kd.N_make (Kd.slice 44 k44) _ 40 rfl (N' := 71) rfl 36 _ _ rfl (l0_0.length : Int) rfl rfl Try.underlying36 (.slice none 0 0) 24 info40 rfl (by decide) (by omega) [] (ok := fun k_ => wr.heap.size ≤ k_) (okp := fun _ => False) (Kd.FK_slice_mk (Nat.le_refl _) (Kd.F_nil _ _ _)) (fun _ hk => hk.elim) (Nat.le_refl _) (of_decide_eq_true (by first | (with_reducible assumption) | assumption)) (Nat.le_trans (Nat.mul_le_mul_right _ (of_decide_eq_true (by first | (with_reducible assumption) | assumption) : (l0_0.length : Int).toNat ≤ 11728124029610)) (by omega)) (Below.refl _ _) (Nat.le_refl _) ?_; intro v270 w45 ho46 hb hg_ hnew_; clear hg_ hnew_; (first | rw [← Ny269.out] at ho46 | (simp only [Int.reduceToNat] at ho46; rw [← Ny269.out] at ho46)); have n0_ := Aside0.mk (Kd.R_below (by (with_reducible repeat (first | apply Kd.R_alloc | apply Kd.R_drewN | apply Kd.R_drew)); exact HO_12.out) hb); have n1_ := Aside0.mk (Kd.N_lower (Kd.N_mono (ok' := fun k_ => some k_ ≠ (v264 : Value).ownBlock ∧ k_ ≠ gb259) ho46 (fun k_ hk_ => ⟨(Kd.fresh' (Kd.R_lt (by (with_reducible repeat (first | apply Kd.R_alloc | apply Kd.R_drewN | apply Kd.R_drew)); exact HO_12.out)) k_ hk_), (Kd.freshB (g := gb259) (o := .cells #[.slice A0_0 l0_0.length c0_0] 38 (0, 0)) (by (with_reducible repeat (first | refine blk_drewN ?_ _ | refine blk_drew ?_ | refine blk_alloc ?_ _)); exact BK259.out) k_ hk_)⟩)) (below_size (by repeat (first | (with_reducible first | exact HB.out | apply below_alloc | apply pw_below_drewN | apply below_drew1 | refine below_set ?_ GE259.out) | exact HB.out)))); have n2_ := Aside0.mk (blk_below (g := gb259) (o := .cells #[.slice A0_0 l0_0.length c0_0] 38 (0, 0)) (by (with_reducible repeat (first | refine blk_drewN ?_ _ | refine blk_drew ?_ | refine blk_alloc ?_ _)); exact BK259.out) hb); have n3_ := Aside0.mk (below_step (by repeat (first | (with_reducible first | exact HB.out | apply below_alloc | apply pw_below_drewN | apply below_drew1 | refine below_set ?_ GE259.out) | exact HB.out)) hb); clear HO_12; clear BK259; clear HB; have HO_12 := n0_; have HO271 := n1_; have BK259 := n2_; have HB := n3_; clear n0_ n1_ n2_ n3_; clear hb ho46; obtain ⟨Ao47, co47, eo47⟩ := Kd.N_slice HO271.out; subst eo47) | ((with_reducible refine gate_dst (N := 14) rfl ?_); (try (refine gate_guard (by rfl) ?_; dsimp only)); refine box_event ?hg (N := 14) ?hd (cs := #[.slice none 0 0]) (t := 38) ?hr ?_; (case hd => rfl); (case hg => rfl); (case hr => first | (go_simp; done) | (go_simp; rfl)); intro gb272 hg w48 hbox hb; have n0_ := Aside0.mk (Kd.R_below (by (with_reducible repeat (first | apply Kd.R_alloc | apply Kd.R_drewN | apply Kd.R_drew)); exact HO_12.out) hb); have n1_ := Aside0.mk (Kd.N_below (Kd.N_elderB (by (with_reducible repeat (first | apply Kd.N_alloc | apply Kd.N_drewN | apply Kd.N_drew)); exact HO271.out) gb272 (Nat.le_of_eq hg.symm)) hb); have n2_ := Aside0.mk (blk_below (g := gb259) (o := .cells #[.slice A0_0 l0_0.length c0_0] 38 (0, 0)) (by (with_reducible repeat (first | refine blk_drewN ?_ _ | refine blk_drew ?_ | refine blk_alloc ?_ _)); exact BK259.out) hb); have n3_ := Aside0.mk (below_step (by repeat (first | (with_reducible first | exact HB.out | apply below_alloc | apply pw_below_drewN | apply below_drew1 | refine below_set ?_ GE259.out) | exact HB.out)) hb); have n4_ := Aside0.mk (hbox); have n5_ := Aside0.mk ((by rw [hg]; exact (below_size (by repeat (first | (with_reducible first | exact HB.out | apply below_alloc | apply pw_below_drewN | apply below_drew1 | refine below_set ?_ GE259.out) | exact HB.out))) : w.heap.size ≤ gb272)); have n6_ := Aside0.mk ((by rw [hg]; exact (below_size (by repeat (first | (with_reducible first | exact HB.out | apply below_alloc | apply pw_below_drewN | apply below_drew1 | refine below_set ?_ GE259.out) | exact HB.out))) : w.heap.size ≤ gb272)); have n7_ := Aside0.mk ((by rw [hg]; exact Nat.ne_of_lt (blk_lt (g := gb259) (o := .cells #[.slice A0_0 l0_0.length c0_0] 38 (0, 0)) (by (with_reducible repeat (first | refine blk_drewN ?_ _ | refine blk_drew ?_ | refine blk_alloc ?_ _)); exact BK259.out)) : gb259 ≠ gb272)); have n8_ := Aside0.mk ((by rw [hg]; exact Nat.ne_of_gt (blk_lt (g := gb259) (o := .cells #[.slice A0_0 l0_0.length c0_0] 38 (0, 0)) (by (with_reducible repeat (first | refine blk_drewN ?_ _ | refine blk_drew ?_ | refine blk_alloc ?_ _)); exact BK259.out)) : gb272 ≠ gb259)); clear HO_12; clear HO271; clear BK259; clear HB; have HO_12 := n0_; have HO271 := n1_; have BK259 := n2_; have HB := n3_; have BK272 := n4_; have GW272 := n5_; have GE272 := n6_; have NB259_272 := n7_; have NB272_259 := n8_; clear n0_ n1_ n2_ n3_ n4_ n5_ n6_ n7_ n8_; clear hb hbox hg; have hnb49 := NB272_259.out; have hnc49 := NB259_272.out; have hcz50_0 : w48.cell? ⟨gb272, 0, none⟩ = some (.slice none 0 0) := (blk_cell BK272.out 0).trans rfl; have hfz50_0 := blk_frozen BK272.out 0))
                      go_loopg [15] k2 (fun kq v15 w' => ∃ (x15_3 : Int) (x273000_3 : List (List (S44))) (u273000 : Value), v15 = .int .i64 x15_3 ∧ Aside0 (mizmazelaw10_MazeNames.l1 kq a3 l4 (l0_0.length : Int) x12_2 x15_3 l0_0 x273000_3 = some r) ∧ Aside0 (kq ≤ k2) ∧ Aside0 (Kd.R (Kd.int .i64) 3 w' w.heap.size (fun _ => True) v264 x12_2) ∧ Aside0 (Kd.N (Kd.slice 44 k44) 40 w' w.heap.size (fun k_ => some k_ ≠ (v264 : Value).ownBlock ∧ k_ ≠ gb259 ∧ k_ ≠ gb272) u273000 x273000_3) ∧ Aside0 (w'.heap[gb259]? = some (.cells #[(.slice A0_0 l0_0.length c0_0)] 38 (0, 0))) ∧ Aside0 (w'.heap[gb272]? = some (.cells #[u273000] 38 (0, 0))) ∧ Aside0 (Below w.heap.size w w'))
                      case atStart => exact ⟨(0), (y269), (.slice Ao47 y269.length co47), (by first | rfl | (simp; done) | (simp [*]; done)), H', ⟨Nat.le_refl _⟩, ⟨by (with_reducible repeat (first | apply Kd.R_alloc | apply Kd.R_drewN | apply Kd.R_drew)); exact Kd.R_mono (Kd.R_far (p := ⟨gb272, 0, none⟩) (Kd.R_types HO_12.out BK272.out (by decide)) (fun _ hk => hk.2) (.slice Ao47 y269.length co47)) (fun _ hk => trivial)⟩, ⟨by (with_reducible repeat (first | apply Kd.N_alloc | apply Kd.N_drewN | apply Kd.N_drew)); exact Kd.N_mono (Kd.N_far (p := ⟨gb272, 0, none⟩) (Kd.N_mono HO271.out (fun k_ hk => (⟨hk, hk.2⟩ : _ ∧ k_ ≠ gb272))) (fun _ hk => hk.2) (.slice Ao47 y269.length co47)) (fun _ hk => ⟨hk.1.1.1, ⟨hk.1.1.2, hk.1.2⟩⟩)⟩, ⟨by (with_reducible repeat (first | refine blk_drewN ?_ _ | refine blk_drew ?_ | refine blk_alloc ?_ _)); refine blk_far ?_ NB259_272.out _; (with_reducible repeat (first | refine blk_drewN ?_ _ | refine blk_drew ?_ | refine blk_alloc ?_ _)); exact BK259.out⟩, ⟨by (with_reducible repeat (first | refine blk_drewN ?_ _ | refine blk_drew ?_ | refine blk_alloc ?_ _)); refine blk_put (cs := #[.slice none 0 0]) ?_ 0 _ rfl; (with_reducible repeat (first | refine blk_drewN ?_ _ | refine blk_drew ?_ | refine blk_alloc ?_ _)); exact BK272.out⟩, ⟨by repeat (first | (with_reducible first | exact HB.out | apply below_alloc | apply pw_below_drewN | apply below_drew1 | refine below_set ?_ GE259.out | refine below_set ?_ GE272.out) | exact HB.out)⟩⟩
                      case round => as_aux_lemma =>
                        clear H'
                        try clear c1
                        try clear c2
                        try clear p2
                        try clear q2
                        try clear hx2
                        try clear c3
                        try clear p3
                        try clear q3
                        try clear hx3
                        try clear c4
                        try clear p6
                        try clear c7
                        try clear c9
                        try clear c13
                        try clear c14
                        try clear c20
                        try clear c22
                        try clear c25
                        try clear c25b0
                        try clear c25b1
                        try clear c26
                        try clear c26b0
                        try clear c26b1
                        try clear p26
                        try clear q26
                        try clear hx26
                        try clear c30
                        try clear c30b0
                        try clear c31
                        try clear c31b0
                        try clear c31b1
                        try clear c31b2
                        try clear c32
                        try clear c32b0
                        try clear c33
                        try clear c33b0
                        try clear p34
                        try clear q34
                        try clear hx34
                        try clear hf34
                        try clear c35
                        try clear p36
                        try clear q36
                        try clear hx36
                        try clear hf36
                        try clear c43
                        try clear c43b0
                        try clear c43b1
                        try clear c44
                        try clear c44b0
                        try clear c44b1
                        try clear c49
                        try clear hcz10_0
                        try clear hcz14_0
                        try clear hcz16_0
                        try clear hcz18_0
                        try clear hcz20_0
                        try clear hcz27_0
                        try clear hcz50_0
                        try clear hfz10_0
                        try clear hfz14_0
                        try clear hfz16_0
                        try clear hfz18_0
                        try clear hfz20_0
                        try clear hfz27_0
                        try clear hfz50_0
                        try clear hx267_0
                        try clear hx34_0
                        try clear hx36_0
                        try clear p2
                        try clear p267
                        try clear p34
                        try clear p36
                        try clear q267
                        try clear q34
                        try clear q36
                        obtain ⟨x15_3, x273000_3, u273000, rfl, HA, HK3, HO_12, HO_273000, BK259, BK272, HB⟩ := hrel
                        cases gk with
                        | zero => exact absurd HA.out (by simp [mizmazelaw10_MazeNames.l1])
                        | succ k3 =>
                          have H := HA.out
                          clear HA
                          simp only [mizmazelaw10_MazeNames.l1] at H
                          by_cases c51 : x15_3 < (l0_0.length : Int)
                          · rw [if_pos c51] at H
                            have c51b0 : decide (x15_3 < (l0_0.length : Int)) = true := decide_eq_true c51
                            clear c51
                            have H' := Aside0.mk H
                            clear H
                            go_wp2
                            go_loopg [16, 17] k3 (fun kq v16 v17 w' => ∃ (x16_4 : List (S44)) (x17_4 : Int), v17 = .int .i64 x17_4 ∧ Aside0 (mizmazelaw10_MazeNames.l2 kq a3 l4 (l0_0.length : Int) x12_2 x15_3 x16_4 x17_4 l0_0 x273000_3 = some r) ∧ Aside0 (kq ≤ k3) ∧ Aside0 (Kd.R (Kd.int .i64) 3 w' w.heap.size (fun _ => True) v264 x12_2) ∧ Aside0 (Kd.R k44 44 w' w.heap.size (fun _ => True) v16 x16_4) ∧ Aside0 (Kd.N (Kd.slice 44 k44) 40 w' w.heap.size (fun k_ => some k_ ≠ (v264 : Value).ownBlock ∧ some k_ ≠ (v16 : Value).ownBlock ∧ k_ ≠ gb259 ∧ k_ ≠ gb272) u273000 x273000_3) ∧ Aside0 (w'.heap[gb259]? = some (.cells #[(.slice A0_0 l0_0.length c0_0)] 38 (0, 0))) ∧ Aside0 (w'.heap[gb272]? = some (.cells #[u273000] 38 (0, 0))) ∧ Aside0 (Below w.heap.size w w'))
                            case atStart => exact ⟨(([] : List (S44))), (0), (by first | rfl | (simp; done) | (simp [*]; done)), H', ⟨Nat.le_refl _⟩, ⟨by (with_reducible repeat (first | apply Kd.R_alloc | apply Kd.R_drewN | apply Kd.R_drew)); exact HO_12.out⟩, ⟨by first | exact Kd.R_nil _ _ _ _ _ | exact Kd.N_nil _ _ _ _ _ | exact Kd.V_nil _ _ _ _ _ | exact Kd.Q_nil _ _ _ _ _ | exact Kd.S_nil _ _ _ _ _⟩, ⟨by (with_reducible repeat (first | apply Kd.N_alloc | apply Kd.N_drewN | apply Kd.N_drew)); exact Kd.N_mono HO_273000.out (fun _ hk => ⟨hk.1, ⟨(by simp [Value.ownBlock]), ⟨hk.2.1, hk.2.2⟩⟩⟩)⟩, ⟨by (with_reducible repeat (first | refine blk_drewN ?_ _ | refine blk_drew ?_ | refine blk_alloc ?_ _)); exact BK259.out⟩, ⟨by (with_reducible repeat (first | refine blk_drewN ?_ _ | refine blk_drew ?_ | refine blk_alloc ?_ _)); exact BK272.out⟩, ⟨by repeat (first | (with_reducible first | exact HB.out | apply below_alloc | apply pw_below_drewN | apply below_drew1 | refine below_set ?_ GE259.out | refine below_set ?_ GE272.out) | exact HB.out)⟩⟩
                            case round => as_aux_lemma =>
                              clear H'
                              try clear c1
                              try clear c2
                              try clear p2
                              try clear q2
                              try clear hx2
                              try clear c3
                              try clear p3
                              try clear q3
                              try clear hx3
                              try clear c4
                              try clear c5
                              try clear p6
                              try clear c7
                              try clear c9
                              try clear c13
                              try clear c14
                              try clear c20
                              try clear c22
                              try clear c25
                              try clear c25b0
                              try clear c25b1
                              try clear c26
                              try clear c26b0
                              try clear c26b1
                              try clear p26
                              try clear q26
                              try clear hx26
                              try clear c30
                              try clear c30b0
                              try clear c31
                              try clear c31b0
                              try clear c31b1
                              try clear c31b2
                              try clear c32
                              try clear c32b0
                              try clear c33
                              try clear c33b0
                              try clear p34
                              try clear q34
                              try clear hx34
                              try clear hf34
                              try clear c35
                              try clear p36
                              try clear q36
                              try clear hx36
                              try clear hf36
                              try clear c43
                              try clear c43b0
                              try clear c43b1
                              try clear c44
                              try clear c44b0
                              try clear c44b1
                              try clear c49
                              try clear c51
                              try clear c51b0
                              try clear hcz10_0
                              try clear hcz14_0
                              try clear hcz16_0
                              try clear hcz18_0
                              try clear hcz20_0
                              try clear hcz27_0
                              try clear hcz50_0
                              try clear hfz10_0
                              try clear hfz14_0
                              try clear hfz16_0
                              try clear hfz18_0
                              try clear hfz20_0
                              try clear hfz27_0
                              try clear hfz50_0
                              try clear hx267_0
                              try clear hx34_0
                              try clear hx36_0
                              try clear p2
                              try clear p26
                              try clear p267
                              try clear p3
                              try clear p34
                              try clear p36
                              try clear p6
                              try clear q2
                              try clear q26
                              try clear q267
                              try clear q3
                              try clear q34
                              try clear q36
                              obtain ⟨x16_4, x17_4, rfl, HA, HK4, HO_12, HO_16, HO_273000, BK259, BK272, HB⟩ := hrel
                              cases gk with
                              | zero => exact absurd HA.out (by simp [mizmazelaw10_MazeNames.l2])
                              | succ k4 =>
                                have H := HA.out
                                clear HA
                                simp only [mizmazelaw10_MazeNames.l2] at H
                                by_cases c52 : 0 ≤ x15_3
                                · rw [if_pos c52] at H
                                  have c52b0 : decide (0 ≤ x15_3) = true := decide_eq_true c52
                                  clear c52
                                  by_cases c53 : x15_3 < (l0_0.length : Int)
                                  · rw [if_pos c53] at H
                                    have c53b0 : decide (x15_3 < (l0_0.length : Int)) = true := decide_eq_true c53
                                    clear c53
                                    by_cases c54 : x17_4 < ((rd_L4 l0_0 x15_3).length : Int)
                                    · rw [if_pos c54] at H
                                      have c54b0 : decide (x17_4 < ((rd_L4 l0_0 x15_3).length : Int)) = true := decide_eq_true c54
                                      clear c54
                                      by_cases c55 : 0 ≤ x17_4
                                      · rw [if_pos c55] at H
                                        have c55b0 : decide (0 ≤ x17_4) = true := decide_eq_true c55
                                        clear c55
                                        by_cases c56 : 0 ≤ ((rd_T44 (rd_L4 l0_0 x15_3) x17_4).f0)
                                        · rw [if_pos c56] at H
                                          have c56b0 : decide (0 ≤ ((rd_T44 (rd_L4 l0_0 x15_3) x17_4).f0)) = true := decide_eq_true c56
                                          clear c56
                                          by_cases c57 : ((rd_T44 (rd_L4 l0_0 x15_3) x17_4).f0) < (x12_2.length : Int)
                                          · rw [if_pos c57] at H
                                            have c57b0 : decide (((rd_T44 (rd_L4 l0_0 x15_3) x17_4).f0) < (x12_2.length : Int)) = true := decide_eq_true c57
                                            clear c57
                                            by_cases c58 : x16_4.length < 8796093022208
                                            · rw [if_pos c58] at H
                                              have LMc58 := Aside0.mk c58
                                              clear c58
                                              obtain ⟨y279, hy279⟩ : ∃ y_ : List (S44), y_ = (x16_4 ++ [(⟨rd x12_2 ((rd_T44 (rd_L4 l0_0 x15_3) x17_4).f0), (rd_T44 (rd_L4 l0_0 x15_3) x17_4).f1⟩ : S44)]) := ⟨_, rfl⟩
                                              replace H : (mizmazelaw10_MazeNames.l2 k4 a3 l4 (l0_0.length : Int) x12_2 x15_3 y279 (wrap64 (x17_4 + 1)) l0_0 x273000_3) = some r := by first | (rw [hy279]; with_reducible exact H) | (have H2_ := (Option.bind_some _ _).symm.trans H; rw [hy279]; with_reducible exact H2_) | (have H2_ := (Option.bind_some _ _).symm.trans H; with_reducible exact H2_) | with_reducible exact H | (rw [hy279]; exact H) | exact H
                                              have Ny279 := Aside0.mk hy279
                                              clear hy279
                                              have H' := Aside0.mk H
                                              clear H
                                              have hnb59 := NB259_272.out
                                              have hnc59 := NB272_259.out
                                              have hcz60_0 : wr.cell? ⟨gb259, 0, none⟩ = some (.slice A0_0 l0_0.length c0_0) := (blk_cell BK259.out 0).trans rfl
                                              have hfz60_0 := blk_frozen BK259.out 0
                                              have p273 : 0 ≤ (x15_3 : Int) := of_decide_eq_true (by first | (with_reducible assumption) | assumption)
                                              have q273 : x15_3 < (l0_0.length : Int) := of_decide_eq_true (by first | (with_reducible assumption) | assumption)
                                              obtain ⟨ad273, A273_0, c273_0, e273, hx273_0, hl273_0, hi273_0⟩ := at_L4 HR0_0.out x15_3 p273 q273
                                              cases e273
                                              replace hx273_0 := (HB.out.cell (World.block_lt_of_cell? w _ hx273_0)).trans hx273_0
                                              have HR273_0 := Aside0.mk hi273_0
                                              have HC273_0 := Aside0.mk hl273_0
                                              clear hi273_0 hl273_0
                                              replace p273 := eq_true p273
                                              replace q273 := eq_true q273
                                              try go_wp2
                                              have n0_ := Aside0.mk (Kd.R_drew HO_12.out)
                                              have n1_ := Aside0.mk (Kd.R_drew HO_16.out)
                                              have n2_ := Aside0.mk (Kd.N_drew HO_273000.out)
                                              have n3_ := Aside0.mk (blk_drew BK259.out)
                                              have n4_ := Aside0.mk (blk_drew BK272.out)
                                              have n5_ := Aside0.mk (below_drew1 HB.out)
                                              clear HO_12
                                              clear HO_16
                                              clear HO_273000
                                              clear BK259
                                              clear BK272
                                              clear HB
                                              have HO_12 := n0_
                                              have HO_16 := n1_
                                              have HO_273000 := n2_
                                              have BK259 := n3_
                                              have BK272 := n4_
                                              have HB := n5_
                                              clear n0_ n1_ n2_ n3_ n4_ n5_
                                              have p274 : 0 ≤ (x15_3 : Int) := of_decide_eq_true (by first | (with_reducible assumption) | assumption)
                                              have q274 : x15_3 < (l0_0.length : Int) := of_decide_eq_true (by first | (with_reducible assumption) | assumption)
                                              obtain ⟨ad274, A274_0, c274_0, e274, hx274_0, hl274_0, hi274_0⟩ := at_L4 HR0_0.out x15_3 p274 q274
                                              have hw274_0 := hx274_0
                                              obtain rfl : ad273 = ad274 := (by injection e274)
                                              replace hx274_0 := (HB.out.cell (World.block_lt_of_cell? w _ hx274_0)).trans hx274_0
                                              have HR274_0 := Aside0.mk hi274_0
                                              have HC274_0 := Aside0.mk hl274_0
                                              clear hi274_0 hl274_0
                                              replace p274 := eq_true p274
                                              replace q274 := eq_true q274
                                              have p275 : 0 ≤ (x17_4 : Int) := of_decide_eq_true (by first | (with_reducible assumption) | assumption)
                                              have q275 : x17_4 < ((rd_L4 l0_0 x15_3).length : Int) := of_decide_eq_true (by first | (with_reducible assumption) | assumption)
                                              obtain ⟨ad275, e275, hx275_0, hx275_1⟩ := at_T44 HR274_0.out x17_4 p275 q275
                                              have hw275_1 := hx275_1
                                              have hw275_0 := hx275_0
                                              cases e275
                                              replace hx275_0 := (HB.out.cell (World.block_lt_of_cell? w _ hx275_0)).trans hx275_0
                                              replace hx275_1 := (HB.out.cell (World.block_lt_of_cell? w _ hx275_1)).trans hx275_1
                                              replace p275 := eq_true p275
                                              replace q275 := eq_true q275
                                              obtain ⟨Ao62, co62, eo62⟩ := Kd.R_slice HO_12.out
                                              (first | subst eo62 | (injection eo62 with f1_ f2_ f3_; have f4_ := f1_.symm; have f5_ := f3_.symm; clear f1_ f2_ f3_; subst f4_; subst f5_))
                                              have p276 : 0 ≤ (((rd_T44 (rd_L4 l0_0 x15_3) x17_4).f0) : Int) := of_decide_eq_true (by first | (with_reducible assumption) | assumption)
                                              have q276 : ((rd_T44 (rd_L4 l0_0 x15_3) x17_4).f0) < (x12_2.length : Int) := of_decide_eq_true (by first | (with_reducible assumption) | assumption)
                                              obtain ⟨ad276, e276, hx276_0⟩ := Kd.at_int (Kd.R_reads' HO_12.out).2.2 ((rd_T44 (rd_L4 l0_0 x15_3) x17_4).f0) p276 q276
                                              cases e276
                                              replace p276 := eq_true p276
                                              replace q276 := eq_true q276
                                              have p277 : 0 ≤ (x15_3 : Int) := of_decide_eq_true (by first | (with_reducible assumption) | assumption)
                                              have q277 : x15_3 < (l0_0.length : Int) := of_decide_eq_true (by first | (with_reducible assumption) | assumption)
                                              obtain ⟨ad277, A277_0, c277_0, e277, hx277_0, hl277_0, hi277_0⟩ := at_L4 HR0_0.out x15_3 p277 q277
                                              have hw277_0 := hx277_0
                                              obtain rfl : ad273 = ad277 := (by injection e277)
                                              replace hx277_0 := (HB.out.cell (World.block_lt_of_cell? w _ hx277_0)).trans hx277_0
                                              have HR277_0 := Aside0.mk hi277_0
                                              have HC277_0 := Aside0.mk hl277_0
                                              clear hi277_0 hl277_0
                                              replace p277 := eq_true p277
                                              replace q277 := eq_true q277
                                              have ea_ := Option.some.inj (hx274_0.symm.trans hx277_0)
                                              injection ea_ with ea_ en_ ec_
                                              subst ea_
                                              subst ec_
                                              clear en_
                                              have p278 : 0 ≤ (x17_4 : Int) := of_decide_eq_true (by first | (with_reducible assumption) | assumption)
                                              have q278 : x17_4 < ((rd_L4 l0_0 x15_3).length : Int) := of_decide_eq_true (by first | (with_reducible assumption) | assumption)
                                              obtain ⟨ad278, e278, hx278_0, hx278_1⟩ := at_T44 HR277_0.out x17_4 p278 q278
                                              have hw278_1 := hx278_1
                                              have hw278_0 := hx278_0
                                              cases e278
                                              replace hx278_0 := (HB.out.cell (World.block_lt_of_cell? w _ hx278_0)).trans hx278_0
                                              replace hx278_1 := (HB.out.cell (World.block_lt_of_cell? w _ hx278_1)).trans hx278_1
                                              replace p278 := eq_true p278
                                              replace q278 := eq_true q278
                                              refine start_ (n := 26) (S := fun w' => w'.cell? ⟨gb259, 0, none⟩ = some (.slice (some ad273) l0_0.length c0_0) ∧ w'.cell? (ad273.add (x15_3).toNat) = some (.slice (some ad275) (rd_L4 l0_0 x15_3).length c274_0) ∧ w'.cell? (ad275.add ((x17_4).toNat * 2)) = some (.int .i64 ((rd_T44 (rd_L4 l0_0 x15_3) x17_4).f0)) ∧ w'.cell? ⟨(ad275.add ((x17_4).toNat * 2)).block, (ad275.add ((x17_4).toNat * 2)).off + 1, none⟩ = some (.int .i64 ((rd_T44 (rd_L4 l0_0 x15_3) x17_4).f1)) ∧ w'.cell? (ad276.add (((rd_T44 (rd_L4 l0_0 x15_3) x17_4).f0)).toNat) = some (.int .i64 (rd x12_2 ((rd_T44 (rd_L4 l0_0 x15_3) x17_4).f0))) ∧ w'.cell? (ad273.add (x15_3).toNat) = some (.slice (some ad275) (rd_L4 l0_0 x15_3).length c274_0) ∧ w'.cell? (ad275.add ((x17_4).toNat * 2)) = some (.int .i64 ((rd_T44 (rd_L4 l0_0 x15_3) x17_4).f0)) ∧ w'.cell? ⟨(ad275.add ((x17_4).toNat * 2)).block, (ad275.add ((x17_4).toNat * 2)).off + 1, none⟩ = some (.int .i64 ((rd_T44 (rd_L4 l0_0 x15_3) x17_4).f1))) (ds := [23, 24]) #[false, false, false, false, false, false, false, false, false, false, false, false, false, false, false, false, false, false, false, false, false, false, false, false, false, false] (by kernel_rfl) rfl rfl ⟨(blk_cell BK259.out 0).trans rfl, ((HB.out.cell (World.block_lt_of_cell? w _ hw274_0)).trans hw274_0), ((HB.out.cell (World.block_lt_of_cell? w _ hw275_0)).trans hw275_0), ((HB.out.cell (World.block_lt_of_cell? w _ hw275_1)).trans hw275_1), hx276_0, ((HB.out.cell (World.block_lt_of_cell? w _ hw277_0)).trans hw277_0), ((HB.out.cell (World.block_lt_of_cell? w _ hw278_0)).trans hw278_0), ((HB.out.cell (World.block_lt_of_cell? w _ hw278_1)).trans hw278_1)⟩ (fun hHeld => ?_); refine with_tabW mizmazelaw10_MazeNames.tab19 mizmazelaw10_MazeNames.bits19 (fun HT_ HW_ => ?_)
                                              generalize wr.drew = w61 at HO_12 HO_16 HO_273000 BK259 BK272 HB HR274_0 HR277_0 hx274_0 hx275_0 hx275_1 hx276_0 hx277_0 hx278_0 hx278_1 hHeld ⊢
                                              refine pure_ (i := 0) (N := some 88) (v := ?_) (a' := ?_) #[true, false, false, false, false, false, false, false, false, false, false, false, false, false, false, false, false, false, false, false, false, false, false, false, false, false] rfl rfl (any_of HT_.out (by kernel_rfl)) (fun _ _ _ h => h) (Or.inl ⟨by rfl, ?_⟩) ?_ ?_
                                              rotate_left
                                              · intro w'
                                                go_simp
                                                with_reducible rfl
                                              rotate_left
                                              · simp only [Act.put, List.setIfInBounds_toArray, List.set_cons_zero, List.set_cons_succ, i64_w, i32_w]
                                                rfl
                                              refine pure_ (i := 1) (N := some 89) (v := ?_) (a' := ?_) #[true, true, false, false, false, false, false, false, false, false, false, false, false, false, false, false, false, false, false, false, false, false, false, false, false, false] rfl rfl (any_of HT_.out (by kernel_rfl)) (fun _ _ _ h => h) (Or.inl ⟨by rfl, ?_⟩) ?_ ?_
                                              rotate_left
                                              · intro w'
                                                go_simp
                                                with_reducible rfl
                                              rotate_left
                                              · simp only [Act.put, List.setIfInBounds_toArray, List.set_cons_zero, List.set_cons_succ, i64_w, i32_w]
                                                rfl
                                              refine pure_ (i := 2) (N := some 90) (v := ?_) (a' := ?_) #[true, true, true, false, false, false, false, false, false, false, false, false, false, false, false, false, false, false, false, false, false, false, false, false, false, false] rfl rfl (any_of HT_.out (by kernel_rfl)) (fun _ _ _ h => h) (Or.inl ⟨by rfl, ?_⟩) ?_ ?_
                                              rotate_left
                                              · intro w'
                                                go_simp
                                                with_reducible rfl
                                              rotate_left
                                              · simp only [Act.put, List.setIfInBounds_toArray, List.set_cons_zero, List.set_cons_succ, i64_w, i32_w]
                                                rfl
                                              refine pure_ (i := 4) (N := some 92) (v := ?_) (a' := ?_) #[true, true, true, false, true, false, false, false, false, false, false, false, false, false, false, false, false, false, false, false, false, false, false, false, false, false] rfl rfl (any_of HT_.out (by kernel_rfl)) (fun _ _ _ h => h) (Or.inl ⟨by rfl, ?_⟩) ?_ ?_
                                              rotate_left
                                              · intro w'
                                                go_simp
                                                with_reducible rfl
                                              rotate_left
                                              · simp only [Act.put, List.setIfInBounds_toArray, List.set_cons_zero, List.set_cons_succ, i64_w, i32_w]
                                                rfl
                                              refine pure_ (i := 7) (N := some 95) (v := ?_) (a' := ?_) #[true, true, true, false, true, false, false, true, false, false, false, false, false, false, false, false, false, false, false, false, false, false, false, false, false, false] rfl rfl (any_of HT_.out (by kernel_rfl)) (fun _ _ _ h => h) (Or.inl ⟨by rfl, ?_⟩) ?_ ?_
                                              rotate_left
                                              · intro w'
                                                go_simp
                                                with_reducible rfl
                                              rotate_left
                                              · simp only [Act.put, List.setIfInBounds_toArray, List.set_cons_zero, List.set_cons_succ, i64_w, i32_w]
                                                rfl
                                              refine pure_ (i := 13) (N := some 101) (v := ?_) (a' := ?_) #[true, true, true, false, true, false, false, true, false, false, false, false, false, true, false, false, false, false, false, false, false, false, false, false, false, false] rfl rfl (any_of HT_.out (by kernel_rfl)) (fun _ _ _ h => h) (Or.inl ⟨by rfl, ?_⟩) ?_ ?_
                                              rotate_left
                                              · intro w'
                                                go_simp
                                                with_reducible rfl
                                              rotate_left
                                              · simp only [Act.put, List.setIfInBounds_toArray, List.set_cons_zero, List.set_cons_succ, i64_w, i32_w]
                                                rfl
                                              refine pure_ (i := 15) (N := some 103) (v := ?_) (a' := ?_) #[true, true, true, false, true, false, false, true, false, false, false, false, false, true, false, true, false, false, false, false, false, false, false, false, false, false] rfl rfl (any_of HT_.out (by kernel_rfl)) (fun _ _ _ h => h) (Or.inl ⟨by rfl, ?_⟩) ?_ ?_
                                              rotate_left
                                              · intro w'
                                                go_simp
                                                with_reducible rfl
                                              rotate_left
                                              · simp only [Act.put, List.setIfInBounds_toArray, List.set_cons_zero, List.set_cons_succ, i64_w, i32_w]
                                                rfl
                                              refine pure_ (i := 18) (N := some 106) (v := ?_) (a' := ?_) #[true, true, true, false, true, false, false, true, false, false, false, false, false, true, false, true, false, false, true, false, false, false, false, false, false, false] rfl rfl (any_of HT_.out (by kernel_rfl)) (fun _ _ _ h => h) (Or.inl ⟨by rfl, ?_⟩) ?_ ?_
                                              rotate_left
                                              · intro w'
                                                go_simp
                                                with_reducible rfl
                                              rotate_left
                                              · simp only [Act.put, List.setIfInBounds_toArray, List.set_cons_zero, List.set_cons_succ, i64_w, i32_w]
                                                rfl
                                              refine take_ (i := 3) (N := some 91) (v := ?_) (a' := ?_) #[true, true, true, true, true, false, false, true, false, false, false, false, false, true, false, true, false, false, true, false, false, false, false, false, false, false] rfl rfl (take_ofW HT_.out HW_.out (by kernel_rfl)) (fun _ _ _ h => h) (Or.inl ⟨by rfl, ?_⟩) hHeld ?_ ?_
                                              rotate_left
                                              · rintro w' ⟨s0, s1, s2, s3, s4, s5, s6, s7⟩
                                                go_simp
                                                with_reducible rfl
                                              rotate_left
                                              · simp only [Act.put, List.setIfInBounds_toArray, List.set_cons_zero, List.set_cons_succ, i64_w, i32_w]
                                                rfl
                                              refine pure_ (i := 5) (N := some 93) (v := ?_) (a' := ?_) #[true, true, true, true, true, true, false, true, false, false, false, false, false, true, false, true, false, false, true, false, false, false, false, false, false, false] rfl rfl (any_of HT_.out (by kernel_rfl)) (fun _ _ _ h => h) (Or.inl ⟨by rfl, ?_⟩) ?_ ?_
                                              rotate_left
                                              · intro w'
                                                go_simp
                                                with_reducible rfl
                                              rotate_left
                                              · simp only [Act.put, List.setIfInBounds_toArray, List.set_cons_zero, List.set_cons_succ, i64_w, i32_w]
                                                rfl
                                              refine take_ (i := 6) (N := some 94) (v := ?_) (a' := ?_) #[true, true, true, true, true, true, true, true, false, false, false, false, false, true, false, true, false, false, true, false, false, false, false, false, false, false] rfl rfl (take_ofW HT_.out HW_.out (by kernel_rfl)) (fun _ _ _ h => h) (Or.inl ⟨by rfl, ?_⟩) hHeld ?_ ?_
                                              rotate_left
                                              · rintro w' ⟨s0, s1, s2, s3, s4, s5, s6, s7⟩
                                                go_simp
                                                with_reducible rfl
                                              rotate_left
                                              · simp only [Act.put, List.setIfInBounds_toArray, List.set_cons_zero, List.set_cons_succ, i64_w, i32_w]
                                                rfl
                                              refine pure_ (i := 8) (N := some 96) (v := ?_) (a' := ?_) #[true, true, true, true, true, true, true, true, true, false, false, false, false, true, false, true, false, false, true, false, false, false, false, false, false, false] rfl rfl (any_of HT_.out (by kernel_rfl)) (fun _ _ _ h => h) (Or.inl ⟨by rfl, ?_⟩) ?_ ?_
                                              rotate_left
                                              · intro w'
                                                go_simp
                                                with_reducible rfl
                                              rotate_left
                                              · simp only [Act.put, List.setIfInBounds_toArray, List.set_cons_zero, List.set_cons_succ, i64_w, i32_w]
                                                rfl
                                              refine pure_ (i := 9) (N := some 97) (v := ?_) (a' := ?_) #[true, true, true, true, true, true, true, true, true, true, false, false, false, true, false, true, false, false, true, false, false, false, false, false, false, false] rfl rfl (any_of HT_.out (by kernel_rfl)) (fun _ _ _ h => h) (Or.inl ⟨by rfl, ?_⟩) ?_ ?_
                                              rotate_left
                                              · intro w'
                                                go_simp
                                                with_reducible rfl
                                              rotate_left
                                              · simp only [Act.put, List.setIfInBounds_toArray, List.set_cons_zero, List.set_cons_succ, i64_w, i32_w]
                                                rfl
                                              refine take_ (i := 10) (N := some 98) (v := ?_) (a' := ?_) #[true, true, true, true, true, true, true, true, true, true, true, false, false, true, false, true, false, false, true, false, false, false, false, false, false, false] rfl rfl (take_ofW HT_.out HW_.out (by kernel_rfl)) (fun _ _ _ h => h) (Or.inl ⟨by rfl, ?_⟩) hHeld ?_ ?_
                                              rotate_left
                                              · rintro w' ⟨s0, s1, s2, s3, s4, s5, s6, s7⟩
                                                go_simp
                                                with_reducible rfl
                                              rotate_left
                                              · simp only [Act.put, List.setIfInBounds_toArray, List.set_cons_zero, List.set_cons_succ, i64_w, i32_w]
                                                rfl
                                              refine pure_ (i := 11) (N := some 99) (v := ?_) (a' := ?_) #[true, true, true, true, true, true, true, true, true, true, true, true, false, true, false, true, false, false, true, false, false, false, false, false, false, false] rfl rfl (any_of HT_.out (by kernel_rfl)) (fun _ _ _ h => h) (Or.inl ⟨by rfl, ?_⟩) ?_ ?_
                                              rotate_left
                                              · intro w'
                                                go_simp
                                                with_reducible rfl
                                              rotate_left
                                              · simp only [Act.put, List.setIfInBounds_toArray, List.set_cons_zero, List.set_cons_succ, i64_w, i32_w]
                                                rfl
                                              refine take_ (i := 12) (N := some 100) (v := ?_) (a' := ?_) #[true, true, true, true, true, true, true, true, true, true, true, true, true, true, false, true, false, false, true, false, false, false, false, false, false, false] rfl rfl (take_ofW HT_.out HW_.out (by kernel_rfl)) (fun _ _ _ h => h) (Or.inl ⟨by rfl, ?_⟩) hHeld ?_ ?_
                                              rotate_left
                                              · rintro w' ⟨s0, s1, s2, s3, s4, s5, s6, s7⟩
                                                go_simp
                                                with_reducible rfl
                                              rotate_left
                                              · simp only [Act.put, List.setIfInBounds_toArray, List.set_cons_zero, List.set_cons_succ, i64_w, i32_w]
                                                rfl
                                              refine take_ (i := 14) (N := some 102) (v := ?_) (a' := ?_) #[true, true, true, true, true, true, true, true, true, true, true, true, true, true, true, true, false, false, true, false, false, false, false, false, false, false] rfl rfl (take_ofW HT_.out HW_.out (by kernel_rfl)) (fun _ _ _ h => h) (Or.inl ⟨by rfl, ?_⟩) hHeld ?_ ?_
                                              rotate_left
                                              · rintro w' ⟨s0, s1, s2, s3, s4, s5, s6, s7⟩
                                                go_simp
                                                with_reducible rfl
                                              rotate_left
                                              · simp only [Act.put, List.setIfInBounds_toArray, List.set_cons_zero, List.set_cons_succ, i64_w, i32_w]
                                                rfl
                                              refine pure_ (i := 16) (N := some 104) (v := ?_) (a' := ?_) #[true, true, true, true, true, true, true, true, true, true, true, true, true, true, true, true, true, false, true, false, false, false, false, false, false, false] rfl rfl (any_of HT_.out (by kernel_rfl)) (fun _ _ _ h => h) (Or.inl ⟨by rfl, ?_⟩) ?_ ?_
                                              rotate_left
                                              · intro w'
                                                go_simp
                                                with_reducible rfl
                                              rotate_left
                                              · simp only [Act.put, List.setIfInBounds_toArray, List.set_cons_zero, List.set_cons_succ, i64_w, i32_w]
                                                rfl
                                              refine take_ (i := 17) (N := some 105) (v := ?_) (a' := ?_) #[true, true, true, true, true, true, true, true, true, true, true, true, true, true, true, true, true, true, true, false, false, false, false, false, false, false] rfl rfl (take_ofW HT_.out HW_.out (by kernel_rfl)) (fun _ _ _ h => h) (Or.inl ⟨by rfl, ?_⟩) hHeld ?_ ?_
                                              rotate_left
                                              · rintro w' ⟨s0, s1, s2, s3, s4, s5, s6, s7⟩
                                                go_simp
                                                with_reducible rfl
                                              rotate_left
                                              · simp only [Act.put, List.setIfInBounds_toArray, List.set_cons_zero, List.set_cons_succ, i64_w, i32_w]
                                                rfl
                                              refine pure_ (i := 19) (N := some 107) (v := ?_) (a' := ?_) #[true, true, true, true, true, true, true, true, true, true, true, true, true, true, true, true, true, true, true, true, false, false, false, false, false, false] rfl rfl (any_of HT_.out (by kernel_rfl)) (fun _ _ _ h => h) (Or.inl ⟨by rfl, ?_⟩) ?_ ?_
                                              rotate_left
                                              · intro w'
                                                go_simp
                                                with_reducible rfl
                                              rotate_left
                                              · simp only [Act.put, List.setIfInBounds_toArray, List.set_cons_zero, List.set_cons_succ, i64_w, i32_w]
                                                rfl
                                              refine pure_ (i := 20) (N := some 108) (v := ?_) (a' := ?_) #[true, true, true, true, true, true, true, true, true, true, true, true, true, true, true, true, true, true, true, true, true, false, false, false, false, false] rfl rfl (any_of HT_.out (by kernel_rfl)) (fun _ _ _ h => h) (Or.inl ⟨by rfl, ?_⟩) ?_ ?_
                                              rotate_left
                                              · intro w'
                                                go_simp
                                                with_reducible rfl
                                              rotate_left
                                              · simp only [Act.put, List.setIfInBounds_toArray, List.set_cons_zero, List.set_cons_succ, i64_w, i32_w]
                                                rfl
                                              refine take_ (i := 21) (N := some 109) (v := ?_) (a' := ?_) #[true, true, true, true, true, true, true, true, true, true, true, true, true, true, true, true, true, true, true, true, true, true, false, false, false, false] rfl rfl (take_ofW HT_.out HW_.out (by kernel_rfl)) (fun _ _ _ h => h) (Or.inl ⟨by rfl, ?_⟩) hHeld ?_ ?_
                                              rotate_left
                                              · rintro w' ⟨s0, s1, s2, s3, s4, s5, s6, s7⟩
                                                go_simp
                                                with_reducible rfl
                                              rotate_left
                                              · simp only [Act.put, List.setIfInBounds_toArray, List.set_cons_zero, List.set_cons_succ, i64_w, i32_w]
                                                rfl
                                              refine pure_ (i := 22) (N := some 110) (v := ?_) (a' := ?_) #[true, true, true, true, true, true, true, true, true, true, true, true, true, true, true, true, true, true, true, true, true, true, true, false, false, false] rfl rfl (any_of HT_.out (by kernel_rfl)) (fun _ _ _ h => h) (Or.inl ⟨by rfl, ?_⟩) ?_ ?_
                                              rotate_left
                                              · intro w'
                                                go_simp
                                                with_reducible rfl
                                              rotate_left
                                              · simp only [Act.put, List.setIfInBounds_toArray, List.set_cons_zero, List.set_cons_succ, i64_w, i32_w]
                                                rfl
                                              refine last_ (i := 23) (N := some 111) #[true, true, true, true, true, true, true, true, true, true, true, true, true, true, true, true, true, true, true, true, true, true, true, true, false, false] rfl rfl (one_of HT_.out (by kernel_rfl)) (by decide) (fun K hK => ?_)
                                              refine value_ (w1 := ?_) (v := ?_) (by rfl) rfl ?_ ?_
                                              rotate_left 2
                                              · go_simp
                                                constructor
                                                · rfl
                                                · rfl
                                              refine hK.out _ _ ?_
                                              clear hK K
                                              refine norm_ (a' := ?_) ?_ ?_
                                              rotate_left
                                              · show Act.put _ (some 111) _ = _
                                                simp only [Act.put, List.setIfInBounds_toArray, List.set_cons_zero, List.set_cons_succ, i64_w, i32_w]
                                                rfl
                                              refine last_ (i := 24) (N := some 112) #[true, true, true, true, true, true, true, true, true, true, true, true, true, true, true, true, true, true, true, true, true, true, true, true, true, false] rfl rfl (one_of HT_.out (by kernel_rfl)) (by decide) (fun K hK => ?_)
                                              refine Kd.R_append_step k44 (w0 := w) w.heap.size (by rfl) (.tmp 88) (.tmp 111) 40 44 (.agg #[(.int .i64 0), (.int .i64 0)]) 16 rfl Try.underlying40 info44 rfl (by decide) (by omega) u16 x16_4 (⟨rd x12_2 ((rd_T44 (rd_L4 l0_0 x15_3) x17_4).f0), (rd_T44 (rd_L4 l0_0 x15_3) x17_4).f1⟩ : S44) [.int .i64 (rd x12_2 ((rd_T44 (rd_L4 l0_0 x15_3) x17_4).f0)), .int .i64 ((rd_T44 (rd_L4 l0_0 x15_3) x17_4).f1)] (fun _ => True) (fun _ => False) rfl rfl ?aP (fun _ hk => hk.elim) ?aF ?aO ?aB ?aS ?aL ?_
                                              (case aP => exact k44_mkM _ _ _ (⟨rd x12_2 ((rd_T44 (rd_L4 l0_0 x15_3) x17_4).f0), (rd_T44 (rd_L4 l0_0 x15_3) x17_4).f1⟩ : S44))
                                              (case aB => exact (by repeat (first | (with_reducible first | exact HB.out | apply below_alloc | apply pw_below_drewN | apply below_drew1 | refine below_set ?_ GE259.out | refine below_set ?_ GE272.out) | exact HB.out)))
                                              (case aF => exact (fun _ _ => trivial))
                                              (case aO => exact (by (with_reducible repeat (first | apply Kd.R_alloc | apply Kd.R_drewN | apply Kd.R_drew)); exact HO_16.out))
                                              (case aS => exact (below_size (by repeat (first | (with_reducible first | exact HB.out | apply below_alloc | apply pw_below_drewN | apply below_drew1 | refine below_set ?_ GE259.out | refine below_set ?_ GE272.out) | exact HB.out))))
                                              (case aL => have := LMc58.out; omega)
                                              intro v280 w63 ho hb hg hat
                                              rw [← Ny279.out] at ho
                                              have n0_ := Aside0.mk (Kd.R_over' (by (with_reducible repeat (first | apply Kd.R_alloc | apply Kd.R_drewN | apply Kd.R_drew)); exact HO_12.out) (Kd.R_typed (by (with_reducible repeat (first | apply Kd.R_alloc | apply Kd.R_drewN | apply Kd.R_drew)); exact HO_16.out)) (by decide) hg)
                                              have n1_ := Aside0.mk (Kd.N_afterv (ok := (fun k_ => some k_ ≠ (.slice (some ad276) x12_2.length co62 : Value).ownBlock ∧ k_ ≠ gb259 ∧ k_ ≠ gb272)) (by (with_reducible repeat (first | apply Kd.N_alloc | apply Kd.N_drewN | apply Kd.N_drew)); exact Kd.N_mono HO_273000.out (fun _ hk => ⟨⟨hk.1, ⟨hk.2.2.1, hk.2.2.2⟩⟩, hk.2.1⟩)) hg hat)
                                              have n2_ := Aside0.mk (blk_grown (g := gb259) (o := .cells #[.slice (some ad273) l0_0.length c0_0] 38 (0, 0)) (by (with_reducible repeat (first | refine blk_drewN ?_ _ | refine blk_drew ?_ | refine blk_alloc ?_ _)); exact BK259.out) hg (Kd.R_ne HO_16.out BK259.out (by decide)))
                                              have n3_ := Aside0.mk (blk_grown (g := gb272) (o := .cells #[u273000] 38 (0, 0)) (by (with_reducible repeat (first | refine blk_drewN ?_ _ | refine blk_drew ?_ | refine blk_alloc ?_ _)); exact BK272.out) hg (Kd.R_ne HO_16.out BK272.out (by decide)))
                                              have n4_ := Aside0.mk (hb)
                                              have n5_ := Aside0.mk (ho)
                                              clear HO_12
                                              clear HO_273000
                                              clear BK259
                                              clear BK272
                                              clear HB
                                              clear HO_16
                                              have HO_12 := n0_
                                              have HO_273000 := n1_
                                              have BK259 := n2_
                                              have BK272 := n3_
                                              have HB := n4_
                                              have HO281 := n5_
                                              clear n0_ n1_ n2_ n3_ n4_ n5_
                                              clear ho hb hg hat
                                              refine hK.out _ _ ?_
                                              clear hK K
                                              refine norm_ (a' := ?_) ?_ ?_
                                              rotate_left
                                              · show Act.put _ (some 112) _ = _
                                                simp only [Act.put, List.setIfInBounds_toArray, List.set_cons_zero, List.set_cons_succ, i64_w, i32_w]
                                                rfl
                                              refine pure_ (i := 25) (N := some 16) (v := ?_) (a' := ?_) #[true, true, true, true, true, true, true, true, true, true, true, true, true, true, true, true, true, true, true, true, true, true, true, true, true, true] rfl rfl (any_of HT_.out (by kernel_rfl)) (fun _ _ _ h => h) (Or.inl ⟨by rfl, ?_⟩) ?_ ?_
                                              rotate_left
                                              · intro w'
                                                go_simp
                                                with_reducible rfl
                                              rotate_left
                                              · simp only [Act.put, List.setIfInBounds_toArray, List.set_cons_zero, List.set_cons_succ, i64_w, i32_w]
                                                rfl
                                              refine done_ (done_of HT_.out (by kernel_rfl)) ?_
                                              try go_wp2
                                              go_roundg k4
                                              case measure => have := HJ5.out; have := HK2.out; have := HK3.out; have := HK4.out; omega
                                              case rel => exact ⟨(y279), (wrap64 (x17_4 + 1)), (by first | rfl | (simp; done) | (simp [*]; done)), H', ⟨by have := HJ5.out; have := HK2.out; have := HK3.out; have := HK4.out; omega⟩, ⟨by (with_reducible repeat (first | apply Kd.R_alloc | apply Kd.R_drewN | apply Kd.R_drew)); exact HO_12.out⟩, ⟨by (with_reducible repeat (first | apply Kd.R_alloc | apply Kd.R_drewN | apply Kd.R_drew)); exact HO281.out⟩, ⟨by (with_reducible repeat (first | apply Kd.N_alloc | apply Kd.N_drewN | apply Kd.N_drew)); exact Kd.N_mono HO_273000.out (fun _ hk => ⟨hk.1.1, ⟨hk.2, ⟨hk.1.2.1, hk.1.2.2⟩⟩⟩)⟩, ⟨by (with_reducible repeat (first | refine blk_drewN ?_ _ | refine blk_drew ?_ | refine blk_alloc ?_ _)); exact BK259.out⟩, ⟨by (with_reducible repeat (first | refine blk_drewN ?_ _ | refine blk_drew ?_ | refine blk_alloc ?_ _)); exact BK272.out⟩, ⟨by repeat (first | (with_reducible first | exact HB.out | apply below_alloc | apply pw_below_drewN | apply below_drew1 | refine below_set ?_ GE259.out | refine below_set ?_ GE272.out) | exact HB.out)⟩⟩
                                            · rw [if_neg c58] at H
                                              exact absurd H (by simp)
                                          · rw [if_neg c57] at H
                                            exact absurd H (by simp)
                                        · rw [if_neg c56] at H
                                          exact absurd H (by simp)
                                      · rw [if_neg c55] at H
                                        exact absurd H (by simp)
                                    · rw [if_neg c54] at H
                                      have c54b0 : decide (x17_4 < ((rd_L4 l0_0 x15_3).length : Int)) = false := decide_eq_false c54
                                      clear c54
                                      by_cases c64 : x15_3 < (x12_2.length : Int)
                                      · rw [if_pos c64] at H
                                        have c64b0 : decide (x15_3 < (x12_2.length : Int)) = true := decide_eq_true c64
                                        clear c64
                                        by_cases c65 : 0 ≤ (rd x12_2 x15_3)
                                        · rw [if_pos c65] at H
                                          have c65b0 : decide (0 ≤ (rd x12_2 x15_3)) = true := decide_eq_true c65
                                          clear c65
                                          by_cases c66 : (rd x12_2 x15_3) < (x273000_3.length : Int)
                                          · rw [if_pos c66] at H
                                            have c66b0 : decide ((rd x12_2 x15_3) < (x273000_3.length : Int)) = true := decide_eq_true c66
                                            clear c66
                                            obtain ⟨y283, hy283⟩ : ∃ y_ : List (List (S44)), y_ = (x273000_3.set ((rd x12_2 x15_3) : Int).toNat x16_4) := ⟨_, rfl⟩
                                            replace H : (mizmazelaw10_MazeNames.l1 k4 a3 l4 (l0_0.length : Int) x12_2 (wrap64 (x15_3 + 1)) l0_0 y283) = some r := by first | (rw [hy283]; with_reducible exact H) | (have H2_ := (Option.bind_some _ _).symm.trans H; rw [hy283]; with_reducible exact H2_) | (have H2_ := (Option.bind_some _ _).symm.trans H; with_reducible exact H2_) | with_reducible exact H | (rw [hy283]; exact H) | exact H
                                            have Ny283 := Aside0.mk hy283
                                            clear hy283
                                            have H' := Aside0.mk H
                                            clear H
                                            have hnb68 := NB259_272.out
                                            have hnc68 := NB272_259.out
                                            have hcz69_0 : wr.cell? ⟨gb259, 0, none⟩ = some (.slice A0_0 l0_0.length c0_0) := (blk_cell BK259.out 0).trans rfl
                                            have hfz69_0 := blk_frozen BK259.out 0
                                            have p273 : 0 ≤ (x15_3 : Int) := of_decide_eq_true (by first | (with_reducible assumption) | assumption)
                                            have q273 : x15_3 < (l0_0.length : Int) := of_decide_eq_true (by first | (with_reducible assumption) | assumption)
                                            obtain ⟨ad273, A273_0, c273_0, e273, hx273_0, hl273_0, hi273_0⟩ := at_L4 HR0_0.out x15_3 p273 q273
                                            cases e273
                                            replace hx273_0 := (HB.out.cell (World.block_lt_of_cell? w _ hx273_0)).trans hx273_0
                                            have HR273_0 := Aside0.mk hi273_0
                                            have HC273_0 := Aside0.mk hl273_0
                                            clear hi273_0 hl273_0
                                            replace p273 := eq_true p273
                                            replace q273 := eq_true q273
                                            try go_wp2
                                            have n0_ := Aside0.mk (Kd.R_drew HO_12.out)
                                            have n1_ := Aside0.mk (Kd.R_drew HO_16.out)
                                            have n2_ := Aside0.mk (Kd.N_drew HO_273000.out)
                                            have n3_ := Aside0.mk (blk_drew BK259.out)
                                            have n4_ := Aside0.mk (blk_drew BK272.out)
                                            have n5_ := Aside0.mk (below_drew1 HB.out)
                                            clear HO_12
                                            clear HO_16
                                            clear HO_273000
                                            clear BK259
                                            clear BK272
                                            clear HB
                                            have HO_12 := n0_
                                            have HO_16 := n1_
                                            have HO_273000 := n2_
                                            have BK259 := n3_
                                            have BK272 := n4_
                                            have HB := n5_
                                            clear n0_ n1_ n2_ n3_ n4_ n5_
                                            obtain ⟨Ao71, co71, eo71⟩ := Kd.R_slice HO_12.out
                                            (first | subst eo71 | (injection eo71 with f1_ f2_ f3_; have f4_ := f1_.symm; have f5_ := f3_.symm; clear f1_ f2_ f3_; subst f4_; subst f5_))
                                            have p282 : 0 ≤ (x15_3 : Int) := of_decide_eq_true (by first | (with_reducible assumption) | assumption)
                                            have q282 : x15_3 < (x12_2.length : Int) := of_decide_eq_true (by first | (with_reducible assumption) | assumption)
                                            obtain ⟨ad282, e282, hx282_0⟩ := Kd.at_int (Kd.R_reads' HO_12.out).2.2 x15_3 p282 q282
                                            cases e282
                                            replace p282 := eq_true p282
                                            replace q282 := eq_true q282
                                            have p67 : 0 ≤ ((rd x12_2 x15_3) : Int) := of_decide_eq_true (by first | (with_reducible assumption) | assumption)
                                            have q67 : ((rd x12_2 x15_3) : Int) < ((x273000_3.length : Int) : Int) := of_decide_eq_true (by first | (with_reducible assumption) | assumption)
                                            obtain ⟨go67, co67, eo67, gb67, gl67, cl67, HG67⟩ := Kd.N_form HO_273000.out (by omega)
                                            (first | cases eo67 | (injection eo67 with ea_ en_ ec_; (first | subst ea_ | (injection ea_ with ea_; subst ea_)); subst ec_; clear en_))
                                            have GB67 := Aside0.mk gb67
                                            have GG67 := Aside0.mk HG67
                                            clear gb67 gl67 HG67
                                            obtain ⟨ce67, hcl67, hM67, hcc67, hfr67⟩ := Kd.N_elem HO_273000.out [] ((rd x12_2 x15_3) : Int) p67 q67
                                            obtain ⟨ua67_0, uc67_0, rfl, ul67_0, ge67_0⟩ := Kd.FK_slice_open hM67
                                            have hx67_0 := hcc67 0 _ rfl
                                            have hf67_0 := hfr67 0
                                            (try simp only [show ((Kd.slice 44 k44)).sz = 1 from rfl, Nat.mul_one, Nat.add_zero] at hx67_0)
                                            (try simp only [show ((Kd.slice 44 k44)).sz = 1 from rfl, Nat.mul_one, Nat.add_zero] at hf67_0)
                                            clear hcl67 hcc67 hfr67 hM67
                                            replace p67 := eq_true p67
                                            replace q67 := eq_true q67
                                            obtain ⟨Ao16x, co16x, eo16x⟩ := Kd.R_slice HO_16.out
                                            subst eo16x
                                            have HX72 := Aside0.mk (show Kd.N (Kd.slice 44 k44) 40 _ w.heap.size (fun k_ => some k_ ≠ (.slice (some ad282) x12_2.length co71 : Value).ownBlock ∧ some k_ ≠ (.slice Ao16x x16_4.length co16x : Value).ownBlock ∧ k_ ≠ gb259 ∧ k_ ≠ gb272) (.slice (some ⟨go67, 0, none⟩) x273000_3.length co67) x273000_3 from (Kd.N_mono (HO_273000.out) (fun k_ hk => ⟨hk.1, ⟨hk.2.1, ⟨hk.2.2.1, hk.2.2.2⟩⟩⟩)))
                                            replace HX72 := Aside0.mk (show Kd.N (Kd.slice 44 k44) 40 _ w.heap.size (fun k_ => some k_ ≠ (.slice (some ad282) x12_2.length co71 : Value).ownBlock ∧ k_ ≠ gb259 ∧ k_ ≠ gb272) (.slice (some ⟨go67, 0, none⟩) x273000_3.length co67) x273000_3 from Kd.N_mono HX72.out (fun k_ hk => ⟨hk.1, ⟨hk.2.2.1, hk.2.2.2⟩⟩))
                                            obtain ⟨ce72, hcl72, hM72, hcc72, hfr72⟩ := Kd.N_elem HX72.out [] ((rd x12_2 x15_3) : Int) (of_decide_eq_true (by first | (with_reducible assumption) | assumption)) (by have h_ : ((rd x12_2 x15_3) : Int) < ((x273000_3.length : Int) : Int) := of_decide_eq_true (by first | (with_reducible assumption) | assumption); first | exact h_ | (have e_ := (Kd.N_reads' HO_273000.out).1; omega) | simpa using h_)
                                            obtain ⟨ua72_0, uc72_0, rfl, ul72_0, ge72_0⟩ := Kd.FK_slice_open hM72
                                            have HP72 := (Kd.N_seg HX72.out ((rd x12_2 x15_3) : Int) (of_decide_eq_true (by first | (with_reducible assumption) | assumption)) (by have h_ : ((rd x12_2 x15_3) : Int) < ((x273000_3.length : Int) : Int) := of_decide_eq_true (by first | (with_reducible assumption) | assumption); first | exact h_ | (have e_ := (Kd.N_reads' HO_273000.out).1; omega) | simpa using h_) (seg := [.slice Ao16x x16_4.length co16x]) (j := 0) hcl72 hcc72 (show 1 ≤ 1 from by decide) (x' := x16_4) (Kd.FK_slice_mk (Kd.R_reads' (Kd.R_mono (ok' := (fun k_ => ((fun k_ => some k_ ≠ (.slice (some ad282) x12_2.length co71 : Value).ownBlock ∧ k_ ≠ gb259 ∧ k_ ≠ gb272)) k_ ∧ k_ ≠ go67)) (Kd.R_types (Kd.R_types (Kd.R_apart' (Kd.R_apart' (HO_16.out) (Kd.R_typed HO_12.out) (by decide)) (Kd.N_typed HO_273000.out) (by decide)) BK259.out (by decide)) BK272.out (by decide)) (by intro k_ hk; exact ⟨⟨hk.1.1.1.2, ⟨hk.1.2, hk.2⟩⟩, fun e_ => (hk.1.1.2) (by rw [e_]; rfl)⟩))).2.1 (Kd.R_F (Kd.R_mono (ok' := (fun k_ => ((fun k_ => some k_ ≠ (.slice (some ad282) x12_2.length co71 : Value).ownBlock ∧ k_ ≠ gb259 ∧ k_ ≠ gb272)) k_ ∧ k_ ≠ go67)) (Kd.R_types (Kd.R_types (Kd.R_apart' (Kd.R_apart' (HO_16.out) (Kd.R_typed HO_12.out) (by decide)) (Kd.N_typed HO_273000.out) (by decide)) BK259.out (by decide)) BK272.out (by decide)) (by intro k_ hk; exact ⟨⟨hk.1.1.1.2, ⟨hk.1.2, hk.2⟩⟩, fun e_ => (hk.1.1.2) (by rw [e_]; rfl)⟩)))) (fun _ hk => hk)).1
                                            (try simp only [show ((Kd.slice 44 k44)).sz = 1 from rfl, Nat.mul_one, Nat.add_zero] at HP72)
                                            rw [← Ny283.out] at HP72
                                            have HQ72 := Aside0.mk HP72
                                            clear hcl72 hcc72 hfr72 hM72 HP72
                                            refine start_ (n := 9) (S := fun w' => w'.cell? ⟨gb272, 0, none⟩ = some (.slice (some ⟨go67, 0, none⟩) x273000_3.length co67) ∧ w'.cell? (ad282.add (x15_3).toNat) = some (.int .i64 (rd x12_2 x15_3))) (ds := [8]) #[false, false, false, false, false, false, false, false, false] (by kernel_rfl) rfl rfl ⟨(blk_cell BK272.out 0).trans rfl, hx282_0⟩ (fun hHeld => ?_); refine with_tabW mizmazelaw10_MazeNames.tab20 mizmazelaw10_MazeNames.bits20 (fun HT_ HW_ => ?_)
                                            generalize wr.drew = w70 at HO_12 HO_16 HO_273000 BK259 BK272 HB GG67 HQ72 hf67_0 hx282_0 hx67_0 hHeld ⊢
                                            refine pure_ (i := 0) (N := some 113) (v := ?_) (a' := ?_) #[true, false, false, false, false, false, false, false, false] rfl rfl (any_of HT_.out (by kernel_rfl)) (fun _ _ _ h => h) (Or.inl ⟨by rfl, ?_⟩) ?_ ?_
                                            rotate_left
                                            · intro w'
                                              go_simp
                                              with_reducible rfl
                                            rotate_left
                                            · simp only [Act.put, List.setIfInBounds_toArray, List.set_cons_zero, List.set_cons_succ, i64_w, i32_w]
                                              rfl
                                            refine pure_ (i := 2) (N := some 115) (v := ?_) (a' := ?_) #[true, false, true, false, false, false, false, false, false] rfl rfl (any_of HT_.out (by kernel_rfl)) (fun _ _ _ h => h) (Or.inl ⟨by rfl, ?_⟩) ?_ ?_
                                            rotate_left
                                            · intro w'
                                              go_simp
                                              with_reducible rfl
                                            rotate_left
                                            · simp only [Act.put, List.setIfInBounds_toArray, List.set_cons_zero, List.set_cons_succ, i64_w, i32_w]
                                              rfl
                                            refine pure_ (i := 3) (N := some 116) (v := ?_) (a' := ?_) #[true, false, true, true, false, false, false, false, false] rfl rfl (any_of HT_.out (by kernel_rfl)) (fun _ _ _ h => h) (Or.inl ⟨by rfl, ?_⟩) ?_ ?_
                                            rotate_left
                                            · intro w'
                                              go_simp
                                              with_reducible rfl
                                            rotate_left
                                            · simp only [Act.put, List.setIfInBounds_toArray, List.set_cons_zero, List.set_cons_succ, i64_w, i32_w]
                                              rfl
                                            refine pure_ (i := 4) (N := some 117) (v := ?_) (a' := ?_) #[true, false, true, true, true, false, false, false, false] rfl rfl (any_of HT_.out (by kernel_rfl)) (fun _ _ _ h => h) (Or.inl ⟨by rfl, ?_⟩) ?_ ?_
                                            rotate_left
                                            · intro w'
                                              go_simp
                                              with_reducible rfl
                                            rotate_left
                                            · simp only [Act.put, List.setIfInBounds_toArray, List.set_cons_zero, List.set_cons_succ, i64_w, i32_w]
                                              rfl
                                            refine pure_ (i := 6) (N := some 119) (v := ?_) (a' := ?_) #[true, false, true, true, true, false, true, false, false] rfl rfl (any_of HT_.out (by kernel_rfl)) (fun _ _ _ h => h) (Or.inl ⟨by rfl, ?_⟩) ?_ ?_
                                            rotate_left
                                            · intro w'
                                              go_simp
                                              with_reducible rfl
                                            rotate_left
                                            · simp only [Act.put, List.setIfInBounds_toArray, List.set_cons_zero, List.set_cons_succ, i64_w, i32_w]
                                              rfl
                                            refine take_ (i := 1) (N := some 114) (v := ?_) (a' := ?_) #[true, true, true, true, true, false, true, false, false] rfl rfl (take_ofW HT_.out HW_.out (by kernel_rfl)) (fun _ _ _ h => h) (Or.inl ⟨by rfl, ?_⟩) hHeld ?_ ?_
                                            rotate_left
                                            · rintro w' ⟨s0, s1⟩
                                              go_simp
                                              with_reducible rfl
                                            rotate_left
                                            · simp only [Act.put, List.setIfInBounds_toArray, List.set_cons_zero, List.set_cons_succ, i64_w, i32_w]
                                              rfl
                                            refine take_ (i := 5) (N := some 118) (v := ?_) (a' := ?_) #[true, true, true, true, true, true, true, false, false] rfl rfl (take_ofW HT_.out HW_.out (by kernel_rfl)) (fun _ _ _ h => h) (Or.inl ⟨by rfl, ?_⟩) hHeld ?_ ?_
                                            rotate_left
                                            · rintro w' ⟨s0, s1⟩
                                              go_simp
                                              with_reducible rfl
                                            rotate_left
                                            · simp only [Act.put, List.setIfInBounds_toArray, List.set_cons_zero, List.set_cons_succ, i64_w, i32_w]
                                              rfl
                                            refine pure_ (i := 7) (N := some 120) (v := ?_) (a' := ?_) #[true, true, true, true, true, true, true, true, false] rfl rfl (any_of HT_.out (by kernel_rfl)) (fun _ _ _ h => h) (Or.inl ⟨by rfl, ?_⟩) ?_ ?_
                                            rotate_left
                                            · intro w'
                                              go_simp
                                              with_reducible rfl
                                            rotate_left
                                            · simp only [Act.put, List.setIfInBounds_toArray, List.set_cons_zero, List.set_cons_succ, i64_w, i32_w]
                                              rfl
                                            refine last_ (i := 8) (N := none) #[true, true, true, true, true, true, true, true, true] rfl rfl (one_of HT_.out (by kernel_rfl)) (by decide) (fun K hK => ?_)
                                            refine skip_ (w1 := ?_) (by rfl) rfl ?_ ?_
                                            rotate_left
                                            · go_simp
                                              rfl
                                            refine hK.out _ _ ?_
                                            clear hK K
                                            refine done_ (done_of HT_.out (by kernel_rfl)) ?_
                                            try go_wp2
                                            go_roundg k4
                                            case measure => have := HJ5.out; have := HK2.out; have := HK3.out; have := HK4.out; omega
                                            case rel => exact ⟨(wrap64 (x15_3 + 1)), (y283), (.slice (some ⟨go67, 0, none⟩) x273000_3.length co67), (by first | rfl | (simp; done) | (simp [*]; done)), H', ⟨by have := HJ5.out; have := HK2.out; have := HK3.out; have := HK4.out; omega⟩, ⟨by (with_reducible repeat (first | apply Kd.R_alloc | apply Kd.R_drewN | apply Kd.R_drew)); exact Kd.R_mono (Kd.R_far (p := ⟨go67, ((rd x12_2 x15_3) : Int).toNat, none⟩) (Kd.R_types HO_12.out GG67.out (by decide)) (fun _ hk => hk.2) (.slice Ao16x x16_4.length co16x)) (fun _ hk => trivial)⟩, ⟨by (with_reducible repeat (first | apply Kd.N_alloc | apply Kd.N_drewN | apply Kd.N_drew)); exact HQ72.out⟩, ⟨by (with_reducible repeat (first | refine blk_drewN ?_ _ | refine blk_drew ?_ | refine blk_alloc ?_ _)); refine blk_far ?_ (by have h_ := Kd.N_away HO_273000.out (fun _ hk => hk.2.2.1); intro e_; exact h_ (by rw [e_]; rfl)) _; (with_reducible repeat (first | refine blk_drewN ?_ _ | refine blk_drew ?_ | refine blk_alloc ?_ _)); exact BK259.out⟩, ⟨by (with_reducible repeat (first | refine blk_drewN ?_ _ | refine blk_drew ?_ | refine blk_alloc ?_ _)); refine blk_far ?_ (by have h_ := Kd.N_away HO_273000.out (fun _ hk => hk.2.2.2); intro e_; exact h_ (by rw [e_]; rfl)) _; (with_reducible repeat (first | refine blk_drewN ?_ _ | refine blk_drew ?_ | refine blk_alloc ?_ _)); exact BK272.out⟩, ⟨by repeat (first | (with_reducible first | exact HB.out | apply below_alloc | apply pw_below_drewN | apply below_drew1 | refine below_set ?_ GB67.out | refine below_set ?_ GE259.out | refine below_set ?_ GE272.out) | exact HB.out)⟩⟩
                                          · rw [if_neg c66] at H
                                            exact absurd H (by simp)
                                        · rw [if_neg c65] at H
                                          exact absurd H (by simp)
                                      · rw [if_neg c64] at H
                                        exact absurd H (by simp)
                                  · rw [if_neg c53] at H
                                    exact absurd H (by simp)
                                · rw [if_neg c52] at H
                                  exact absurd H (by simp)
                          · rw [if_neg c51] at H
                            have c51b0 : decide (x15_3 < (l0_0.length : Int)) = false := decide_eq_false c51
                            clear c51
                            replace H := Option.bind_eq_some_iff.mp H
                            obtain ⟨⟨t284, t285⟩, A730, H⟩ := H
                            replace H : ((maze_Connected.f k3 x273000_3).bind fun bt286 => (if t285 = 0 then (if bt286.2 = 0 then (if (t284 != bt286.1) = true then (mizmazelaw10_MazeNames.j4 k3 a3 l4 (l0_0.length : Int) x12_2 true l0_0 x273000_3) else ((maze_Valid.f x273000_3).bind fun t288 => (mizmazelaw10_MazeNames.j4 k3 a3 l4 (l0_0.length : Int) x12_2 (!t288) l0_0 x273000_3))) else (mizmazelaw10_MazeNames.j4 k3 a3 l4 (l0_0.length : Int) x12_2 true l0_0 x273000_3)) else (mizmazelaw10_MazeNames.j4 k3 a3 l4 (l0_0.length : Int) x12_2 true l0_0 x273000_3))) = some r := H
                            have A73 := Aside0.mk A730
                            clear A730
                            replace H := Option.bind_eq_some_iff.mp H
                            obtain ⟨⟨t286, t287⟩, A740, H⟩ := H
                            replace H : (if t285 = 0 then (if t287 = 0 then (if (t284 != t286) = true then (mizmazelaw10_MazeNames.j4 k3 a3 l4 (l0_0.length : Int) x12_2 true l0_0 x273000_3) else ((maze_Valid.f x273000_3).bind fun t288 => (mizmazelaw10_MazeNames.j4 k3 a3 l4 (l0_0.length : Int) x12_2 (!t288) l0_0 x273000_3))) else (mizmazelaw10_MazeNames.j4 k3 a3 l4 (l0_0.length : Int) x12_2 true l0_0 x273000_3)) else (mizmazelaw10_MazeNames.j4 k3 a3 l4 (l0_0.length : Int) x12_2 true l0_0 x273000_3)) = some r := H
                            have A74 := Aside0.mk A740
                            clear A740
                            have HC75 := Aside0.mk H
                            clear H
                            have hnb76 := NB259_272.out
                            have hnc76 := NB272_259.out
                            have hcz77_0 : wr.cell? ⟨gb259, 0, none⟩ = some (.slice A0_0 l0_0.length c0_0) := (blk_cell BK259.out 0).trans rfl
                            have hfz77_0 := blk_frozen BK259.out 0
                            go_upto_region 23 with (first | ((with_reducible refine gate_callee (f := 23) rfl ?_); refine goesL_ (some 123) rfl rfl Try.func23 (by kernel_rfl) rfl #[.agg #[.slice A0_0 l0_0.length c0_0]] rfl (by (try simp only [List.map_toArray, List.map_cons, List.map_nil]); first | done | rfl | (simp only [List.length_drop, List.length_take]; rfl)) ?_; (with_reducible refine (maze_Connected.calls k3 _ _ l0_0 t284 t285 _ ?side1 ?side2 A73.out).mono ?_); (case side1 => repeat (first | exact (Kd.C_below HR0_0.out HB.out) | (with_reducible refine Kd.C_alloc ?_ _) | (with_reducible refine Kd.C_drewN ?_ _) | (with_reducible refine Kd.C_drew ?_))); (case side2 => exact HC0_0.out); rintro e w78 ⟨rfl, hb⟩; refine ⟨_, rfl, ?_⟩; have n0_ := Aside0.mk (Kd.R_below (by (with_reducible repeat (first | apply Kd.R_alloc | apply Kd.R_drewN | apply Kd.R_drew)); exact HO_12.out) hb); have n1_ := Aside0.mk (Kd.N_below (by (with_reducible repeat (first | apply Kd.N_alloc | apply Kd.N_drewN | apply Kd.N_drew)); exact HO_273000.out) hb); have n2_ := Aside0.mk (blk_below (g := gb259) (o := .cells #[.slice A0_0 l0_0.length c0_0] 38 (0, 0)) (by (with_reducible repeat (first | refine blk_drewN ?_ _ | refine blk_drew ?_ | refine blk_alloc ?_ _)); exact BK259.out) hb); have n3_ := Aside0.mk (blk_below (g := gb272) (o := .cells #[u273000] 38 (0, 0)) (by (with_reducible repeat (first | refine blk_drewN ?_ _ | refine blk_drew ?_ | refine blk_alloc ?_ _)); exact BK272.out) hb); have n4_ := Aside0.mk (below_step (by repeat (first | (with_reducible first | exact HB.out | apply below_alloc | apply pw_below_drewN | apply below_drew1 | refine below_set ?_ GE259.out | refine below_set ?_ GE272.out) | exact HB.out)) hb); clear HO_12; clear HO_273000; clear BK259; clear BK272; clear HB; have HO_12 := n0_; have HO_273000 := n1_; have BK259 := n2_; have BK272 := n3_; have HB := n4_; clear n0_ n1_ n2_ n3_ n4_; (try clear hb); (try clear hb2); (try clear hk); (try clear hi); have hcz79_0 : w78.cell? ⟨gb272, 0, none⟩ = some (u273000) := (blk_cell BK272.out 0).trans rfl; have hfz79_0 := blk_frozen BK272.out 0; obtain ⟨Ao80, co80, eo80⟩ := Kd.N_slice HO_273000.out; subst eo80) | ((with_reducible refine gate_callee (f := 23) rfl ?_); refine goesL_ (some 128) rfl rfl Try.func23 (by kernel_rfl) rfl #[.agg #[.slice Ao80 x273000_3.length co80]] rfl (by (try simp only [List.map_toArray, List.map_cons, List.map_nil]); first | done | rfl | (simp only [List.length_drop, List.length_take]; rfl)) ?_; (with_reducible refine (maze_Connected.calls k3 _ _ x273000_3 t286 t287 _ ?side1 ?side2 A74.out).mono ?_); (case side1 => repeat (first | exact (Kd.N_reads' HO_273000.out).2.2 | (with_reducible refine Kd.C_alloc ?_ _) | (with_reducible refine Kd.C_drewN ?_ _) | (with_reducible refine Kd.C_drew ?_))); (case side2 => exact (Kd.N_reads' HO_273000.out).2.1); rintro e w81 ⟨rfl, hb⟩; refine ⟨_, rfl, ?_⟩; have n0_ := Aside0.mk (Kd.R_below (by (with_reducible repeat (first | apply Kd.R_alloc | apply Kd.R_drewN | apply Kd.R_drew)); exact HO_12.out) hb); have n1_ := Aside0.mk (Kd.N_below (by (with_reducible repeat (first | apply Kd.N_alloc | apply Kd.N_drewN | apply Kd.N_drew)); exact HO_273000.out) hb); have n2_ := Aside0.mk (blk_below (g := gb259) (o := .cells #[.slice A0_0 l0_0.length c0_0] 38 (0, 0)) (by (with_reducible repeat (first | refine blk_drewN ?_ _ | refine blk_drew ?_ | refine blk_alloc ?_ _)); exact BK259.out) hb); have n3_ := Aside0.mk (blk_below (g := gb272) (o := .cells #[.slice Ao80 x273000_3.length co80] 38 (0, 0)) (by (with_reducible repeat (first | refine blk_drewN ?_ _ | refine blk_drew ?_ | refine blk_alloc ?_ _)); exact BK272.out) hb); have n4_ := Aside0.mk (below_step (by repeat (first | (with_reducible first | exact HB.out | apply below_alloc | apply pw_below_drewN | apply below_drew1 | refine below_set ?_ GE259.out | refine below_set ?_ GE272.out) | exact HB.out)) hb); clear HO_12; clear HO_273000; clear BK259; clear BK272; clear HB; have HO_12 := n0_; have HO_273000 := n1_; have BK259 := n2_; have BK272 := n3_; have HB := n4_; clear n0_ n1_ n2_ n3_ n4_; (try clear hb); (try clear hb2); (try clear hk); (try clear hi)))
                            (try simp only [Act.put, List.setIfInBounds_toArray, List.set_cons_zero, List.set_cons_succ])
                            go_cut [146] (fun v146 wc => ∃ (kq : Nat) (x146_74 : Bool), v146 = .bool x146_74 ∧ Aside0 (mizmazelaw10_MazeNames.j4 kq a3 l4 (l0_0.length : Int) x12_2 x146_74 l0_0 x273000_3 = some r) ∧ Aside0 (kq ≤ k3) ∧ Aside0 (Kd.R (Kd.int .i64) 3 wc w.heap.size (fun _ => True) v264 x12_2) ∧ Aside0 (Kd.N (Kd.slice 44 k44) 40 wc w.heap.size (fun k_ => some k_ ≠ (v264 : Value).ownBlock ∧ k_ ≠ gb259 ∧ k_ ≠ gb272) (.slice Ao80 x273000_3.length co80) x273000_3) ∧ Aside0 (wc.heap[gb259]? = some (.cells #[(.slice A0_0 l0_0.length c0_0)] 38 (0, 0))) ∧ Aside0 (wc.heap[gb272]? = some (.cells #[(.slice Ao80 x273000_3.length co80)] 38 (0, 0))) ∧ Aside0 (Below w.heap.size w wc))
                            case first =>
                              have H := HC75.out
                              clear HC75
                              by_cases c82 : t285 = 0
                              · rw [if_pos c82] at H
                                have c82b0 : (t285 == 0) = true := beq_iff_eq.mpr c82
                                have c82b1 : (t285 != 0) = false := bne_eq_false_iff_eq.mpr c82
                                clear c82
                                (first | rw [c82b0] | (simp only [i64_w, i32_w]; rw [c82b0]) | skip)
                                by_cases c83 : t287 = 0
                                · rw [if_pos c83] at H
                                  have c83b0 : (t287 == 0) = true := beq_iff_eq.mpr c83
                                  have c83b1 : (t287 != 0) = false := bne_eq_false_iff_eq.mpr c83
                                  clear c83
                                  by_cases c84 : (t284 != t286) = true
                                  · rw [if_pos c84] at H
                                    have c84b0 : (t284 != t286) = true := c84
                                    (try (have c84b1 : decide (t284 = t286) = false := by simpa using c84))
                                    (try (have c84b2 : (t284 == t286) = false := by simpa using c84))
                                    (try (have c84b3 : ¬ (t284 = t286) := by simpa using c84))
                                    clear c84
                                    have H' := Aside0.mk H
                                    clear H
                                    go_wp2
                                    go_meet
                                    case rel => exact ⟨_, (true), (by first | rfl | (simp; done) | (simp [*]; done)), H', ⟨by have := HJ5.out; have := HK2.out; have := HK3.out; first | omega | exact Nat.le_refl _⟩, ⟨by (with_reducible repeat (first | apply Kd.R_alloc | apply Kd.R_drewN | apply Kd.R_drew)); exact HO_12.out⟩, ⟨by (with_reducible repeat (first | apply Kd.N_alloc | apply Kd.N_drewN | apply Kd.N_drew)); exact HO_273000.out⟩, ⟨by (with_reducible repeat (first | refine blk_drewN ?_ _ | refine blk_drew ?_ | refine blk_alloc ?_ _)); exact BK259.out⟩, ⟨by (with_reducible repeat (first | refine blk_drewN ?_ _ | refine blk_drew ?_ | refine blk_alloc ?_ _)); exact BK272.out⟩, ⟨by repeat (first | (with_reducible first | exact HB.out | apply below_alloc | apply pw_below_drewN | apply below_drew1 | refine below_set ?_ GE259.out | refine below_set ?_ GE272.out) | exact HB.out)⟩⟩
                                  · rw [if_neg c84] at H
                                    have c84b0 : (t284 != t286) = false := by simpa using c84
                                    (try (have c84b1 : decide (t284 = t286) = true := by simpa using c84))
                                    (try (have c84b2 : (t284 == t286) = true := by simpa using c84))
                                    clear c84
                                    replace H := Option.bind_eq_some_iff.mp H
                                    obtain ⟨t288, A850, H⟩ := H
                                    replace H : (mizmazelaw10_MazeNames.j4 k3 a3 l4 (l0_0.length : Int) x12_2 (!t288) l0_0 x273000_3) = some r := H
                                    have A85 := Aside0.mk A850
                                    clear A850
                                    have H' := Aside0.mk H
                                    clear H
                                    have hnb86 := NB272_259.out
                                    have hnc86 := NB259_272.out
                                    have hcz87_0 : w81.cell? ⟨gb272, 0, none⟩ = some (.slice Ao80 x273000_3.length co80) := (blk_cell BK272.out 0).trans rfl
                                    have hfz87_0 := blk_frozen BK272.out 0
                                    go_wp2_with (first | (go_at_call 24; (with_reducible refine (maze_Valid.calls _ _ x273000_3 t288 _ ?side1 ?side2 A85.out).mono ?_); (case side1 => repeat (first | exact (Kd.N_reads' HO_273000.out).2.2 | (with_reducible refine Kd.C_alloc ?_ _) | (with_reducible refine Kd.C_drewN ?_ _) | (with_reducible refine Kd.C_drew ?_))); (case side2 => exact (Kd.N_reads' HO_273000.out).2.1); rintro e w88 ⟨rfl, hb⟩; have n0_ := Aside0.mk (Kd.R_below (by (with_reducible repeat (first | apply Kd.R_alloc | apply Kd.R_drewN | apply Kd.R_drew)); exact HO_12.out) hb); have n1_ := Aside0.mk (Kd.N_below (by (with_reducible repeat (first | apply Kd.N_alloc | apply Kd.N_drewN | apply Kd.N_drew)); exact HO_273000.out) hb); have n2_ := Aside0.mk (blk_below (g := gb259) (o := .cells #[.slice A0_0 l0_0.length c0_0] 38 (0, 0)) (by (with_reducible repeat (first | refine blk_drewN ?_ _ | refine blk_drew ?_ | refine blk_alloc ?_ _)); exact BK259.out) hb); have n3_ := Aside0.mk (blk_below (g := gb272) (o := .cells #[.slice Ao80 x273000_3.length co80] 38 (0, 0)) (by (with_reducible repeat (first | refine blk_drewN ?_ _ | refine blk_drew ?_ | refine blk_alloc ?_ _)); exact BK272.out) hb); have n4_ := Aside0.mk (below_step (by repeat (first | (with_reducible first | exact HB.out | apply below_alloc | apply pw_below_drewN | apply below_drew1 | refine below_set ?_ GE259.out | refine below_set ?_ GE272.out) | exact HB.out)) hb); clear HO_12; clear HO_273000; clear BK259; clear BK272; clear HB; have HO_12 := n0_; have HO_273000 := n1_; have BK259 := n2_; have BK272 := n3_; have HB := n4_; clear n0_ n1_ n2_ n3_ n4_; (try clear hb); (try clear hb2); (try clear hk); (try clear hi)))
                                    go_meet
                                    case rel => exact ⟨_, (!t288), (by first | rfl | (simp; done) | (simp [*]; done)), H', ⟨by have := HJ5.out; have := HK2.out; have := HK3.out; first | omega | exact Nat.le_refl _⟩, ⟨by (with_reducible repeat (first | apply Kd.R_alloc | apply Kd.R_drewN | apply Kd.R_drew)); exact HO_12.out⟩, ⟨by (with_reducible repeat (first | apply Kd.N_alloc | apply Kd.N_drewN | apply Kd.N_drew)); exact HO_273000.out⟩, ⟨by (with_reducible repeat (first | refine blk_drewN ?_ _ | refine blk_drew ?_ | refine blk_alloc ?_ _)); exact BK259.out⟩, ⟨by (with_reducible repeat (first | refine blk_drewN ?_ _ | refine blk_drew ?_ | refine blk_alloc ?_ _)); exact BK272.out⟩, ⟨by repeat (first | (with_reducible first | exact HB.out | apply below_alloc | apply pw_below_drewN | apply below_drew1 | refine below_set ?_ GE259.out | refine below_set ?_ GE272.out) | exact HB.out)⟩⟩
                                · rw [if_neg c83] at H
                                  have c83b0 : (t287 == 0) = false := beq_eq_false_iff_ne.mpr c83
                                  have c83b1 : (t287 != 0) = true := bne_iff_ne.mpr c83
                                  have H' := Aside0.mk H
                                  clear H
                                  go_wp2
                                  go_meet
                                  case rel => exact ⟨_, (true), (by first | rfl | (simp; done) | (simp [*]; done)), H', ⟨by have := HJ5.out; have := HK2.out; have := HK3.out; first | omega | exact Nat.le_refl _⟩, ⟨by (with_reducible repeat (first | apply Kd.R_alloc | apply Kd.R_drewN | apply Kd.R_drew)); exact HO_12.out⟩, ⟨by (with_reducible repeat (first | apply Kd.N_alloc | apply Kd.N_drewN | apply Kd.N_drew)); exact HO_273000.out⟩, ⟨by (with_reducible repeat (first | refine blk_drewN ?_ _ | refine blk_drew ?_ | refine blk_alloc ?_ _)); exact BK259.out⟩, ⟨by (with_reducible repeat (first | refine blk_drewN ?_ _ | refine blk_drew ?_ | refine blk_alloc ?_ _)); exact BK272.out⟩, ⟨by repeat (first | (with_reducible first | exact HB.out | apply below_alloc | apply pw_below_drewN | apply below_drew1 | refine below_set ?_ GE259.out | refine below_set ?_ GE272.out) | exact HB.out)⟩⟩
                              · rw [if_neg c82] at H
                                have c82b0 : (t285 == 0) = false := beq_eq_false_iff_ne.mpr c82
                                have c82b1 : (t285 != 0) = true := bne_iff_ne.mpr c82
                                (first | rw [c82b0] | (simp only [i64_w, i32_w]; rw [c82b0]) | skip)
                                have H' := Aside0.mk H
                                clear H
                                go_wp2
                                go_meet
                                case rel => exact ⟨_, (true), (by first | rfl | (simp; done) | (simp [*]; done)), H', ⟨by have := HJ5.out; have := HK2.out; have := HK3.out; first | omega | exact Nat.le_refl _⟩, ⟨by (with_reducible repeat (first | apply Kd.R_alloc | apply Kd.R_drewN | apply Kd.R_drew)); exact HO_12.out⟩, ⟨by (with_reducible repeat (first | apply Kd.N_alloc | apply Kd.N_drewN | apply Kd.N_drew)); exact HO_273000.out⟩, ⟨by (with_reducible repeat (first | refine blk_drewN ?_ _ | refine blk_drew ?_ | refine blk_alloc ?_ _)); exact BK259.out⟩, ⟨by (with_reducible repeat (first | refine blk_drewN ?_ _ | refine blk_drew ?_ | refine blk_alloc ?_ _)); exact BK272.out⟩, ⟨by repeat (first | (with_reducible first | exact HB.out | apply below_alloc | apply pw_below_drewN | apply below_drew1 | refine below_set ?_ GE259.out | refine below_set ?_ GE272.out) | exact HB.out)⟩⟩
                            case rest =>
                              clear HC75
                              try clear c2
                              try clear p2
                              try clear q2
                              try clear hx2
                              try clear c5
                              try clear c6
                              try clear p6
                              try clear q6
                              try clear hx6
                              try clear hf6
                              try clear c7
                              try clear c8
                              try clear c23
                              try clear c27
                              try clear p27
                              try clear q27
                              try clear hx27
                              try clear p28
                              try clear q28
                              try clear hx28
                              try clear c51
                              try clear c51b0
                              try clear c52
                              try clear c53
                              try clear c54
                              try clear c54b0
                              try clear c55
                              try clear c56
                              try clear c57
                              try clear c58
                              try clear c64
                              try clear c64b0
                              try clear p64
                              try clear c65
                              try clear c65b0
                              try clear c66
                              try clear c66b0
                              try clear c67
                              try clear p67
                              try clear q67
                              try clear hx67
                              try clear hf67
                              try clear c68
                              try clear c72
                              try clear c76
                              try clear c82
                              try clear c82b0
                              try clear c82b1
                              try clear c83
                              try clear c83b0
                              try clear c83b1
                              try clear c84
                              try clear c84b0
                              try clear c84b1
                              try clear c84b2
                              try clear c86
                              try clear hcz69_0
                              try clear hcz77_0
                              try clear hcz79_0
                              try clear hcz87_0
                              try clear hfz69_0
                              try clear hfz77_0
                              try clear hfz79_0
                              try clear hfz87_0
                              try clear hx273_0
                              try clear hx274_0
                              try clear hx275_0
                              try clear hx275_1
                              try clear hx276_0
                              try clear hx277_0
                              try clear hx278_0
                              try clear hx278_1
                              try clear hx282_0
                              try clear hx67_0
                              try clear p273
                              try clear p274
                              try clear p275
                              try clear p276
                              try clear p277
                              try clear p278
                              try clear p282
                              try clear p67
                              try clear q273
                              try clear q274
                              try clear q275
                              try clear q276
                              try clear q277
                              try clear q278
                              try clear q282
                              try clear q67
                              obtain ⟨kq, x146_74, rfl, HA, HJ74, HO_12, HO_273000, BK259, BK272, HB⟩ := hcut
                              cases kq with
                              | zero => exact absurd HA.out (by simp [mizmazelaw10_MazeNames.j4])
                              | succ kj74 =>
                                have H := HA.out
                                clear HA
                                simp only [mizmazelaw10_MazeNames.j4] at H
                                by_cases c89 : x146_74 = true
                                · subst c89
                                  have H1 : (some false) = some r := by rw [if_pos rfl] at H; exact H
                                  clear H
                                  have H := H1
                                  clear H1
                                  obtain rfl := Option.some.inj H
                                  go_wp2
                                  go_ret
                                  exact ⟨by first | rfl | (simp [errW_none, errW_some] <;> rfl) | (simp [*, errW_none, errW_some] <;> rfl), by repeat (first | (with_reducible first | exact HB.out | apply below_alloc | apply pw_below_drewN | apply below_drew1 | refine below_set ?_ GE259.out | refine below_set ?_ GE272.out) | exact HB.out)⟩
                                · replace c89 := Bool.eq_false_iff.mpr c89
                                  subst c89
                                  have H1 : ((maze_Walk.f kj74 l0_0 a3 l4).bind fun bt289 => (if bt289.2 = 0 then (if a3 < 0 then (mizmazelaw10_MazeNames.j5 kj74 a3 l4 (l0_0.length : Int) x12_2 bt289.1 bt289.2 true x273000_3) else (mizmazelaw10_MazeNames.j5 kj74 a3 l4 (l0_0.length : Int) x12_2 bt289.1 bt289.2 (decide (a3 ≥ (l0_0.length : Int))) x273000_3)) else (mizmazelaw10_MazeNames.j5 kj74 a3 l4 (l0_0.length : Int) x12_2 bt289.1 bt289.2 true x273000_3))) = some r := by rw [if_neg (show ¬ (false = true) by decide)] at H; exact H
                                  clear H
                                  have H := H1
                                  clear H1
                                  replace H := Option.bind_eq_some_iff.mp H
                                  obtain ⟨⟨t289, t292⟩, A900, H⟩ := H
                                  replace H : (if t292 = 0 then (if a3 < 0 then (mizmazelaw10_MazeNames.j5 kj74 a3 l4 (l0_0.length : Int) x12_2 t289 t292 true x273000_3) else (mizmazelaw10_MazeNames.j5 kj74 a3 l4 (l0_0.length : Int) x12_2 t289 t292 (decide (a3 ≥ (l0_0.length : Int))) x273000_3)) else (mizmazelaw10_MazeNames.j5 kj74 a3 l4 (l0_0.length : Int) x12_2 t289 t292 true x273000_3)) = some r := H
                                  have A90 := Aside0.mk A900
                                  clear A900
                                  have HC91 := Aside0.mk H
                                  clear H
                                  have hnb92 := NB259_272.out
                                  have hnc92 := NB272_259.out
                                  have hcz93_0 : wc.cell? ⟨gb259, 0, none⟩ = some (.slice A0_0 l0_0.length c0_0) := (blk_cell BK259.out 0).trans rfl
                                  have hfz93_0 := blk_frozen BK259.out 0
                                  go_upto_region 26 with (first | ((with_reducible refine gate_callee (f := 22) rfl ?_); refine goesL_ (some 151) rfl rfl Try.func22 (by kernel_rfl) rfl #[.agg #[.slice A0_0 l0_0.length c0_0], .int .i64 a3, .slice A4 l4.length c4] rfl (by (try simp only [List.map_toArray, List.map_cons, List.map_nil]); first | done | rfl | (simp only [List.length_drop, List.length_take]; rfl)) ?_; (with_reducible refine (maze_Walk.calls kj74 _ _ l0_0 a3 _ _ l4 t289 t292 _ ?side1 ?side2 ?side3 ?side4 A90.out).mono ?_); (case side1 => repeat (first | exact (Kd.C_below HR0_0.out HB.out) | (with_reducible refine Kd.C_alloc ?_ _) | (with_reducible refine Kd.C_drewN ?_ _) | (with_reducible refine Kd.C_drew ?_))); (case side2 => exact HC0_0.out); (case side3 => repeat (first | exact (Kd.C_below HR4.out HB.out) | (with_reducible refine Kd.C_alloc ?_ _) | (with_reducible refine Kd.C_drewN ?_ _) | (with_reducible refine Kd.C_drew ?_))); (case side4 => exact HC4.out); rintro e w94 ⟨v290, rfl, ho0, hb⟩; refine ⟨_, rfl, ?_⟩; have n0_ := Aside0.mk (Kd.R_elder' (by (with_reducible repeat (first | apply Kd.R_alloc | apply Kd.R_drewN | apply Kd.R_drew)); exact HO_12.out) (Kd.R_base ho0) hb); have n1_ := Aside0.mk (Kd.N_elder' (by (with_reducible repeat (first | apply Kd.N_alloc | apply Kd.N_drewN | apply Kd.N_drew)); exact HO_273000.out) (Kd.R_base ho0) hb); have n2_ := Aside0.mk (Kd.R_lower (Kd.R_new' ho0 (Kd.R_lt (by (with_reducible repeat (first | apply Kd.R_alloc | apply Kd.R_drewN | apply Kd.R_drew)); exact HO_12.out))) (below_size (by repeat (first | (with_reducible first | exact HB.out | apply below_alloc | apply pw_below_drewN | apply below_drew1 | refine below_set ?_ GE259.out | refine below_set ?_ GE272.out) | exact HB.out)))); have n3_ := Aside0.mk (blk_below (g := gb259) (o := .cells #[.slice A0_0 l0_0.length c0_0] 38 (0, 0)) (by (with_reducible repeat (first | refine blk_drewN ?_ _ | refine blk_drew ?_ | refine blk_alloc ?_ _)); exact BK259.out) hb); have n4_ := Aside0.mk (blk_below (g := gb272) (o := .cells #[.slice Ao80 x273000_3.length co80] 38 (0, 0)) (by (with_reducible repeat (first | refine blk_drewN ?_ _ | refine blk_drew ?_ | refine blk_alloc ?_ _)); exact BK272.out) hb); have n5_ := Aside0.mk (below_step (by repeat (first | (with_reducible first | exact HB.out | apply below_alloc | apply pw_below_drewN | apply below_drew1 | refine below_set ?_ GE259.out | refine below_set ?_ GE272.out) | exact HB.out)) hb); clear HO_12; clear HO_273000; clear BK259; clear BK272; clear HB; have HO_12 := n0_; have HO_273000 := n1_; have HO291 := n2_; have BK259 := n3_; have BK272 := n4_; have HB := n5_; clear n0_ n1_ n2_ n3_ n4_ n5_; (try clear hb); (try clear hb2); (try clear hk); (try clear hi); (try clear ho0)))
                                  (try simp only [Act.put, List.setIfInBounds_toArray, List.set_cons_zero, List.set_cons_succ])
                                  go_cut [164] (fun v164 wc => ∃ (kq : Nat) (x164_90 : Bool), v164 = .bool x164_90 ∧ Aside0 (mizmazelaw10_MazeNames.j5 kq a3 l4 (l0_0.length : Int) x12_2 t289 t292 x164_90 x273000_3 = some r) ∧ Aside0 (kq ≤ kj74) ∧ Aside0 (Kd.R (Kd.int .i64) 3 wc w.heap.size (fun k_ => some k_ ≠ (v290 : Value).ownBlock) v264 x12_2) ∧ Aside0 (Kd.R (Kd.int .i64) 3 wc w.heap.size (fun k_ => some k_ ≠ (v264 : Value).ownBlock) v290 t289) ∧ Aside0 (Kd.N (Kd.slice 44 k44) 40 wc w.heap.size (fun k_ => some k_ ≠ (v264 : Value).ownBlock ∧ some k_ ≠ (v290 : Value).ownBlock ∧ k_ ≠ gb259 ∧ k_ ≠ gb272) (.slice Ao80 x273000_3.length co80) x273000_3) ∧ Aside0 (wc.heap[gb259]? = some (.cells #[(.slice A0_0 l0_0.length c0_0)] 38 (0, 0))) ∧ Aside0 (wc.heap[gb272]? = some (.cells #[(.slice Ao80 x273000_3.length co80)] 38 (0, 0))) ∧ Aside0 (Below w.heap.size w wc))
                                  case first =>
                                    have H := HC91.out
                                    clear HC91
                                    by_cases c95 : t292 = 0
                                    · rw [if_pos c95] at H
                                      have c95b0 : (t292 == 0) = true := beq_iff_eq.mpr c95
                                      have c95b1 : (t292 != 0) = false := bne_eq_false_iff_eq.mpr c95
                                      clear c95
                                      (first | rw [c95b0] | (simp only [i64_w, i32_w]; rw [c95b0]) | skip)
                                      by_cases c96 : a3 < 0
                                      · rw [if_pos c96] at H
                                        have c96b0 : decide (a3 < 0) = true := decide_eq_true c96
                                        clear c96
                                        have H' := Aside0.mk H
                                        clear H
                                        go_wp2
                                        go_meet
                                        case rel => exact ⟨_, (true), (by first | rfl | (simp; done) | (simp [*]; done)), H', ⟨by have := HJ5.out; have := HK2.out; have := HK3.out; have := HJ74.out; first | omega | exact Nat.le_refl _⟩, ⟨by (with_reducible repeat (first | apply Kd.R_alloc | apply Kd.R_drewN | apply Kd.R_drew)); exact Kd.R_mono HO_12.out (fun _ hk => hk.2)⟩, ⟨by (with_reducible repeat (first | apply Kd.R_alloc | apply Kd.R_drewN | apply Kd.R_drew)); exact Kd.R_mono HO291.out (fun _ hk => hk.2)⟩, ⟨by (with_reducible repeat (first | apply Kd.N_alloc | apply Kd.N_drewN | apply Kd.N_drew)); exact Kd.N_mono HO_273000.out (fun _ hk => ⟨hk.1.1, ⟨hk.2, ⟨hk.1.2.1, hk.1.2.2⟩⟩⟩)⟩, ⟨by (with_reducible repeat (first | refine blk_drewN ?_ _ | refine blk_drew ?_ | refine blk_alloc ?_ _)); exact BK259.out⟩, ⟨by (with_reducible repeat (first | refine blk_drewN ?_ _ | refine blk_drew ?_ | refine blk_alloc ?_ _)); exact BK272.out⟩, ⟨by repeat (first | (with_reducible first | exact HB.out | apply below_alloc | apply pw_below_drewN | apply below_drew1 | refine below_set ?_ GE259.out | refine below_set ?_ GE272.out) | exact HB.out)⟩⟩
                                      · rw [if_neg c96] at H
                                        have c96b0 : decide (a3 < 0) = false := decide_eq_false c96
                                        clear c96
                                        have H' := Aside0.mk H
                                        clear H
                                        go_wp2
                                        go_meet
                                        case rel => exact ⟨_, (decide (a3 ≥ (l0_0.length : Int))), (by first | rfl | (simp; done) | (simp [*]; done)), H', ⟨by have := HJ5.out; have := HK2.out; have := HK3.out; have := HJ74.out; first | omega | exact Nat.le_refl _⟩, ⟨by (with_reducible repeat (first | apply Kd.R_alloc | apply Kd.R_drewN | apply Kd.R_drew)); exact Kd.R_mono HO_12.out (fun _ hk => hk.2)⟩, ⟨by (with_reducible repeat (first | apply Kd.R_alloc | apply Kd.R_drewN | apply Kd.R_drew)); exact Kd.R_mono HO291.out (fun _ hk => hk.2)⟩, ⟨by (with_reducible repeat (first | apply Kd.N_alloc | apply Kd.N_drewN | apply Kd.N_drew)); exact Kd.N_mono HO_273000.out (fun _ hk => ⟨hk.1.1, ⟨hk.2, ⟨hk.1.2.1, hk.1.2.2⟩⟩⟩)⟩, ⟨by (with_reducible repeat (first | refine blk_drewN ?_ _ | refine blk_drew ?_ | refine blk_alloc ?_ _)); exact BK259.out⟩, ⟨by (with_reducible repeat (first | refine blk_drewN ?_ _ | refine blk_drew ?_ | refine blk_alloc ?_ _)); exact BK272.out⟩, ⟨by repeat (first | (with_reducible first | exact HB.out | apply below_alloc | apply pw_below_drewN | apply below_drew1 | refine below_set ?_ GE259.out | refine below_set ?_ GE272.out) | exact HB.out)⟩⟩
                                    · rw [if_neg c95] at H
                                      have c95b0 : (t292 == 0) = false := beq_eq_false_iff_ne.mpr c95
                                      have c95b1 : (t292 != 0) = true := bne_iff_ne.mpr c95
                                      (first | rw [c95b0] | (simp only [i64_w, i32_w]; rw [c95b0]) | skip)
                                      have H' := Aside0.mk H
                                      clear H
                                      go_wp2
                                      go_meet
                                      case rel => exact ⟨_, (true), (by first | rfl | (simp; done) | (simp [*]; done)), H', ⟨by have := HJ5.out; have := HK2.out; have := HK3.out; have := HJ74.out; first | omega | exact Nat.le_refl _⟩, ⟨by (with_reducible repeat (first | apply Kd.R_alloc | apply Kd.R_drewN | apply Kd.R_drew)); exact Kd.R_mono HO_12.out (fun _ hk => hk.2)⟩, ⟨by (with_reducible repeat (first | apply Kd.R_alloc | apply Kd.R_drewN | apply Kd.R_drew)); exact Kd.R_mono HO291.out (fun _ hk => hk.2)⟩, ⟨by (with_reducible repeat (first | apply Kd.N_alloc | apply Kd.N_drewN | apply Kd.N_drew)); exact Kd.N_mono HO_273000.out (fun _ hk => ⟨hk.1.1, ⟨hk.2, ⟨hk.1.2.1, hk.1.2.2⟩⟩⟩)⟩, ⟨by (with_reducible repeat (first | refine blk_drewN ?_ _ | refine blk_drew ?_ | refine blk_alloc ?_ _)); exact BK259.out⟩, ⟨by (with_reducible repeat (first | refine blk_drewN ?_ _ | refine blk_drew ?_ | refine blk_alloc ?_ _)); exact BK272.out⟩, ⟨by repeat (first | (with_reducible first | exact HB.out | apply below_alloc | apply pw_below_drewN | apply below_drew1 | refine below_set ?_ GE259.out | refine below_set ?_ GE272.out) | exact HB.out)⟩⟩
                                  case rest =>
                                    clear HC91
                                    try clear c2
                                    try clear p2
                                    try clear q2
                                    try clear hx2
                                    try clear c4
                                    try clear c5
                                    try clear c6
                                    try clear p6
                                    try clear q6
                                    try clear hx6
                                    try clear hf6
                                    try clear c7
                                    try clear c8
                                    try clear c9
                                    try clear c22
                                    try clear c23
                                    try clear c27
                                    try clear p27
                                    try clear q27
                                    try clear hx27
                                    try clear p28
                                    try clear q28
                                    try clear hx28
                                    try clear c51
                                    try clear c51b0
                                    try clear c52
                                    try clear c53
                                    try clear c54
                                    try clear c54b0
                                    try clear c55
                                    try clear c56
                                    try clear c57
                                    try clear c58
                                    try clear c64
                                    try clear c64b0
                                    try clear p64
                                    try clear c65
                                    try clear c65b0
                                    try clear c66
                                    try clear c66b0
                                    try clear c67
                                    try clear p67
                                    try clear q67
                                    try clear hx67
                                    try clear hf67
                                    try clear c68
                                    try clear c72
                                    try clear c76
                                    try clear c82
                                    try clear c82b0
                                    try clear c82b1
                                    try clear c83
                                    try clear c83b0
                                    try clear c83b1
                                    try clear c84
                                    try clear c84b0
                                    try clear c84b1
                                    try clear c84b2
                                    try clear c86
                                    try clear c89
                                    try clear c92
                                    try clear c95
                                    try clear c95b0
                                    try clear c95b1
                                    try clear c96
                                    try clear c96b0
                                    try clear hcz69_0
                                    try clear hcz77_0
                                    try clear hcz79_0
                                    try clear hcz87_0
                                    try clear hcz93_0
                                    try clear hfz69_0
                                    try clear hfz77_0
                                    try clear hfz79_0
                                    try clear hfz87_0
                                    try clear hfz93_0
                                    try clear hx273_0
                                    try clear hx274_0
                                    try clear hx275_0
                                    try clear hx275_1
                                    try clear hx276_0
                                    try clear hx277_0
                                    try clear hx278_0
                                    try clear hx278_1
                                    try clear hx282_0
                                    try clear hx67_0
                                    try clear p2
                                    try clear p27
                                    try clear p273
                                    try clear p274
                                    try clear p275
                                    try clear p276
                                    try clear p277
                                    try clear p278
                                    try clear p28
                                    try clear p282
                                    try clear p6
                                    try clear p64
                                    try clear p67
                                    try clear q2
                                    try clear q27
                                    try clear q273
                                    try clear q274
                                    try clear q275
                                    try clear q276
                                    try clear q277
                                    try clear q278
                                    try clear q28
                                    try clear q282
                                    try clear q6
                                    try clear q67
                                    obtain ⟨kq, x164_90, rfl, HA, HJ90, HO_12, HO_22, HO_273000, BK259, BK272, HB⟩ := hcut
                                    cases kq with
                                    | zero => exact absurd HA.out (by simp [mizmazelaw10_MazeNames.j5])
                                    | succ kj90 =>
                                      have H := HA.out
                                      clear HA
                                      simp only [mizmazelaw10_MazeNames.j5] at H
                                      by_cases c97 : x164_90 = true
                                      · subst c97
                                        have H1 : (if t292 = 0 then (some false) else ((mizmazelaw10_awake.f kj90).bind fun t293 => (some t293))) = some r := by rw [if_pos rfl] at H; exact H
                                        clear H
                                        have H := H1
                                        clear H1
                                        by_cases c98 : t292 = 0
                                        · rw [if_pos c98] at H
                                          have c98b0 : (t292 == 0) = true := beq_iff_eq.mpr c98
                                          have c98b1 : (t292 != 0) = false := bne_eq_false_iff_eq.mpr c98
                                          clear c98
                                          obtain rfl := Option.some.inj H
                                          go_wp2
                                          go_ret
                                          exact ⟨by first | rfl | (simp [errW_none, errW_some] <;> rfl) | (simp [*, errW_none, errW_some] <;> rfl), by repeat (first | (with_reducible first | exact HB.out | apply below_alloc | apply pw_below_drewN | apply below_drew1 | refine below_set ?_ GE259.out | refine below_set ?_ GE272.out) | exact HB.out)⟩
                                        · rw [if_neg c98] at H
                                          have c98b0 : (t292 == 0) = false := beq_eq_false_iff_ne.mpr c98
                                          have c98b1 : (t292 != 0) = true := bne_iff_ne.mpr c98
                                          replace H := Option.bind_eq_some_iff.mp H
                                          obtain ⟨t293, A990, H⟩ := H
                                          replace H : (some t293) = some r := H
                                          have A99 := Aside0.mk A990
                                          clear A990
                                          obtain rfl := Option.some.inj H
                                          go_wp2_with (first | (go_at_call 14; (with_reducible refine (mizmazelaw10_awake.calls kj90  t293 _ A99.out).mono ?_); rintro e w100 ⟨rfl, hb⟩; have n0_ := Aside0.mk (Kd.R_below (by (with_reducible repeat (first | apply Kd.R_alloc | apply Kd.R_drewN | apply Kd.R_drew)); exact HO_12.out) hb); have n1_ := Aside0.mk (Kd.R_below (by (with_reducible repeat (first | apply Kd.R_alloc | apply Kd.R_drewN | apply Kd.R_drew)); exact HO_22.out) hb); have n2_ := Aside0.mk (Kd.N_below (by (with_reducible repeat (first | apply Kd.N_alloc | apply Kd.N_drewN | apply Kd.N_drew)); exact HO_273000.out) hb); have n3_ := Aside0.mk (blk_below (g := gb259) (o := .cells #[.slice A0_0 l0_0.length c0_0] 38 (0, 0)) (by (with_reducible repeat (first | refine blk_drewN ?_ _ | refine blk_drew ?_ | refine blk_alloc ?_ _)); exact BK259.out) hb); have n4_ := Aside0.mk (blk_below (g := gb272) (o := .cells #[.slice Ao80 x273000_3.length co80] 38 (0, 0)) (by (with_reducible repeat (first | refine blk_drewN ?_ _ | refine blk_drew ?_ | refine blk_alloc ?_ _)); exact BK272.out) hb); have n5_ := Aside0.mk (below_step (by repeat (first | (with_reducible first | exact HB.out | apply below_alloc | apply pw_below_drewN | apply below_drew1 | refine below_set ?_ GE259.out | refine below_set ?_ GE272.out) | exact HB.out)) hb); clear HO_12; clear HO_22; clear HO_273000; clear BK259; clear BK272; clear HB; have HO_12 := n0_; have HO_22 := n1_; have HO_273000 := n2_; have BK259 := n3_; have BK272 := n4_; have HB := n5_; clear n0_ n1_ n2_ n3_ n4_ n5_; (try clear hb); (try clear hb2); (try clear hk); (try clear hi)))
                                          go_ret
                                          exact ⟨by first | rfl | (simp [errW_none, errW_some] <;> rfl) | (simp [*, errW_none, errW_some] <;> rfl), by repeat (first | (with_reducible first | exact HB.out | apply below_alloc | apply pw_below_drewN | apply below_drew1 | refine below_set ?_ GE259.out | refine below_set ?_ GE272.out) | exact HB.out)⟩
                                      · replace c97 := Bool.eq_false_iff.mpr c97
                                        subst c97
                                        have H1 : (if 0 ≤ a3 then (if a3 < (x12_2.length : Int) then ((maze_Walk.f kj90 x273000_3 (rd x12_2 a3) l4).bind fun bt295 => (mizmazelaw10_MazeNames.l3 kj90 (l0_0.length : Int) x12_2 t289 bt295.1 bt295.2 0)) else (none)) else (none)) = some r := by rw [if_neg (show ¬ (false = true) by decide)] at H; exact H
                                        clear H
                                        have H := H1
                                        clear H1
                                        by_cases c101 : 0 ≤ a3
                                        · rw [if_pos c101] at H
                                          have c101b0 : decide (0 ≤ a3) = true := decide_eq_true c101
                                          clear c101
                                          by_cases c102 : a3 < (x12_2.length : Int)
                                          · rw [if_pos c102] at H
                                            have c102b0 : decide (a3 < (x12_2.length : Int)) = true := decide_eq_true c102
                                            clear c102
                                            replace H := Option.bind_eq_some_iff.mp H
                                            obtain ⟨⟨t295, t298⟩, A1030, H⟩ := H
                                            replace H : (mizmazelaw10_MazeNames.l3 kj90 (l0_0.length : Int) x12_2 t289 t295 t298 0) = some r := H
                                            have A103 := Aside0.mk A1030
                                            clear A1030
                                            have H' := Aside0.mk H
                                            clear H
                                            try go_wp2
                                            have n0_ := Aside0.mk (Kd.R_drew HO_12.out)
                                            have n1_ := Aside0.mk (Kd.R_drew HO_22.out)
                                            have n2_ := Aside0.mk (Kd.N_drew HO_273000.out)
                                            have n3_ := Aside0.mk (blk_drew BK259.out)
                                            have n4_ := Aside0.mk (blk_drew BK272.out)
                                            have n5_ := Aside0.mk (below_drew1 HB.out)
                                            clear HO_12
                                            clear HO_22
                                            clear HO_273000
                                            clear BK259
                                            clear BK272
                                            clear HB
                                            have HO_12 := n0_
                                            have HO_22 := n1_
                                            have HO_273000 := n2_
                                            have BK259 := n3_
                                            have BK272 := n4_
                                            have HB := n5_
                                            clear n0_ n1_ n2_ n3_ n4_ n5_
                                            obtain ⟨Ao105, co105, eo105⟩ := Kd.R_slice HO_12.out
                                            (first | subst eo105 | (injection eo105 with f1_ f2_ f3_; have f4_ := f1_.symm; have f5_ := f3_.symm; clear f1_ f2_ f3_; subst f4_; subst f5_))
                                            have p294 : 0 ≤ (a3 : Int) := of_decide_eq_true (by first | (with_reducible assumption) | assumption)
                                            have q294 : a3 < (x12_2.length : Int) := of_decide_eq_true (by first | (with_reducible assumption) | assumption)
                                            obtain ⟨ad294, e294, hx294_0⟩ := Kd.at_int (Kd.R_reads' HO_12.out).2.2 a3 p294 q294
                                            cases e294
                                            replace p294 := eq_true p294
                                            replace q294 := eq_true q294
                                            refine start_ (n := 12) (S := fun w' => w'.cell? ⟨gb272, 0, none⟩ = some (.slice Ao80 x273000_3.length co80) ∧ w'.cell? (ad294.add (a3).toNat) = some (.int .i64 (rd x12_2 a3))) (ds := []) #[false, false, false, false, false, false, false, false, false, false, false, false] (by kernel_rfl) rfl rfl ⟨(blk_cell BK272.out 0).trans rfl, hx294_0⟩ (fun hHeld => ?_); refine with_tabW mizmazelaw10_MazeNames.tab28 mizmazelaw10_MazeNames.bits28 (fun HT_ HW_ => ?_)
                                            generalize wc.drew = w104 at HO_12 HO_22 HO_273000 BK259 BK272 HB hx294_0 hHeld ⊢
                                            refine pure_ (i := 1) (N := some 172) (v := ?_) (a' := ?_) #[false, true, false, false, false, false, false, false, false, false, false, false] rfl rfl (any_of HT_.out (by kernel_rfl)) (fun _ _ _ h => h) (Or.inl ⟨by rfl, ?_⟩) ?_ ?_
                                            rotate_left
                                            · intro w'
                                              go_simp
                                              with_reducible rfl
                                            rotate_left
                                            · simp only [Act.put, List.setIfInBounds_toArray, List.set_cons_zero, List.set_cons_succ, i64_w, i32_w]
                                              rfl
                                            refine pure_ (i := 2) (N := some 173) (v := ?_) (a' := ?_) #[false, true, true, false, false, false, false, false, false, false, false, false] rfl rfl (any_of HT_.out (by kernel_rfl)) (fun _ _ _ h => h) (Or.inl ⟨by rfl, ?_⟩) ?_ ?_
                                            rotate_left
                                            · intro w'
                                              go_simp
                                              with_reducible rfl
                                            rotate_left
                                            · simp only [Act.put, List.setIfInBounds_toArray, List.set_cons_zero, List.set_cons_succ, i64_w, i32_w]
                                              rfl
                                            refine pure_ (i := 3) (N := some 174) (v := ?_) (a' := ?_) #[false, true, true, true, false, false, false, false, false, false, false, false] rfl rfl (any_of HT_.out (by kernel_rfl)) (fun _ _ _ h => h) (Or.inl ⟨by rfl, ?_⟩) ?_ ?_
                                            rotate_left
                                            · intro w'
                                              go_simp
                                              with_reducible rfl
                                            rotate_left
                                            · simp only [Act.put, List.setIfInBounds_toArray, List.set_cons_zero, List.set_cons_succ, i64_w, i32_w]
                                              rfl
                                            refine pure_ (i := 5) (N := some 176) (v := ?_) (a' := ?_) #[false, true, true, true, false, true, false, false, false, false, false, false] rfl rfl (any_of HT_.out (by kernel_rfl)) (fun _ _ _ h => h) (Or.inl ⟨by rfl, ?_⟩) ?_ ?_
                                            rotate_left
                                            · intro w'
                                              go_simp
                                              with_reducible rfl
                                            rotate_left
                                            · simp only [Act.put, List.setIfInBounds_toArray, List.set_cons_zero, List.set_cons_succ, i64_w, i32_w]
                                              rfl
                                            refine take_ (i := 0) (N := some 171) (v := ?_) (a' := ?_) #[true, true, true, true, false, true, false, false, false, false, false, false] rfl rfl (take_ofW HT_.out HW_.out (by kernel_rfl)) (fun _ _ _ h => h) (Or.inl ⟨by rfl, ?_⟩) hHeld ?_ ?_
                                            rotate_left
                                            · rintro w' ⟨s0, s1⟩
                                              go_simp
                                              with_reducible rfl
                                            rotate_left
                                            · simp only [Act.put, List.setIfInBounds_toArray, List.set_cons_zero, List.set_cons_succ, i64_w, i32_w]
                                              rfl
                                            refine take_ (i := 4) (N := some 175) (v := ?_) (a' := ?_) #[true, true, true, true, true, true, false, false, false, false, false, false] rfl rfl (take_ofW HT_.out HW_.out (by kernel_rfl)) (fun _ _ _ h => h) (Or.inl ⟨by rfl, ?_⟩) hHeld ?_ ?_
                                            rotate_left
                                            · rintro w' ⟨s0, s1⟩
                                              go_simp
                                              with_reducible rfl
                                            rotate_left
                                            · simp only [Act.put, List.setIfInBounds_toArray, List.set_cons_zero, List.set_cons_succ, i64_w, i32_w]
                                              rfl
                                            refine one_ (i := 6) (N := some 177) #[true, true, true, true, true, true, true, false, false, false, false, false] rfl rfl (one_of HT_.out (by kernel_rfl)) (by decide) (fun K hK => ?_)
                                            refine goes_ Try.func22 (by kernel_rfl) rfl #[.agg #[.slice Ao80 x273000_3.length co80], .int .i64 (rd x12_2 a3), .slice A4 l4.length c4] (by rfl) rfl rfl (by (try simp only [List.map_toArray, List.map_cons, List.map_nil]); first | done | rfl | (simp only [List.length_drop, List.length_take]; rfl)) ?_
                                            with_reducible refine (maze_Walk.calls kj90 _ _ x273000_3 (rd x12_2 a3) _ _ l4 t295 t298 _ ?side1 ?side2 ?side3 ?side4 A103.out).mono ?_
                                            (case side1 => repeat (first | exact (Kd.N_reads' HO_273000.out).2.2 | (with_reducible refine Kd.C_alloc ?_ _) | (with_reducible refine Kd.C_drewN ?_ _) | (with_reducible refine Kd.C_drew ?_)))
                                            (case side2 => exact (Kd.N_reads' HO_273000.out).2.1)
                                            (case side3 => repeat (first | exact (Kd.C_below HR4.out HB.out) | (with_reducible refine Kd.C_alloc ?_ _) | (with_reducible refine Kd.C_drewN ?_ _) | (with_reducible refine Kd.C_drew ?_)))
                                            (case side4 => exact HC4.out)
                                            rintro e w106 ⟨v296, rfl, ho0, hb⟩
                                            have HS1_ := (hb.cell (World.block_lt_of_cell? _ _ (hHeld.2))).trans (hHeld.2)
                                            refine ⟨_, rfl, ?_⟩
                                            have n0_ := Aside0.mk (Kd.R_elder' (by (with_reducible repeat (first | apply Kd.R_alloc | apply Kd.R_drewN | apply Kd.R_drew)); exact HO_12.out) (Kd.R_base ho0) hb)
                                            have n1_ := Aside0.mk (Kd.R_elder' (by (with_reducible repeat (first | apply Kd.R_alloc | apply Kd.R_drewN | apply Kd.R_drew)); exact HO_22.out) (Kd.R_base ho0) hb)
                                            have n2_ := Aside0.mk (Kd.N_elder' (by (with_reducible repeat (first | apply Kd.N_alloc | apply Kd.N_drewN | apply Kd.N_drew)); exact HO_273000.out) (Kd.R_base ho0) hb)
                                            have n3_ := Aside0.mk (Kd.R_lower (Kd.R_new' (Kd.R_new' ho0 (Kd.R_lt (by (with_reducible repeat (first | apply Kd.R_alloc | apply Kd.R_drewN | apply Kd.R_drew)); exact HO_12.out))) (Kd.R_lt (by (with_reducible repeat (first | apply Kd.R_alloc | apply Kd.R_drewN | apply Kd.R_drew)); exact HO_22.out))) (below_size (by repeat (first | (with_reducible first | exact HB.out | apply below_alloc | apply pw_below_drewN | apply below_drew1 | refine below_set ?_ GE259.out | refine below_set ?_ GE272.out) | exact HB.out))))
                                            have n4_ := Aside0.mk (blk_below (g := gb259) (o := .cells #[.slice A0_0 l0_0.length c0_0] 38 (0, 0)) (by (with_reducible repeat (first | refine blk_drewN ?_ _ | refine blk_drew ?_ | refine blk_alloc ?_ _)); exact BK259.out) hb)
                                            have n5_ := Aside0.mk (blk_below (g := gb272) (o := .cells #[.slice Ao80 x273000_3.length co80] 38 (0, 0)) (by (with_reducible repeat (first | refine blk_drewN ?_ _ | refine blk_drew ?_ | refine blk_alloc ?_ _)); exact BK272.out) hb)
                                            have n6_ := Aside0.mk (below_step (by repeat (first | (with_reducible first | exact HB.out | apply below_alloc | apply pw_below_drewN | apply below_drew1 | refine below_set ?_ GE259.out | refine below_set ?_ GE272.out) | exact HB.out)) hb)
                                            clear HO_12
                                            clear HO_22
                                            clear HO_273000
                                            clear BK259
                                            clear BK272
                                            clear HB
                                            have HO_12 := n0_
                                            have HO_22 := n1_
                                            have HO_273000 := n2_
                                            have HO297 := n3_
                                            have BK259 := n4_
                                            have BK272 := n5_
                                            have HB := n6_
                                            clear n0_ n1_ n2_ n3_ n4_ n5_ n6_
                                            (try clear hb)
                                            (try clear hb2)
                                            (try clear hk)
                                            (try clear hi)
                                            (try clear ho0)
                                            refine hK.out _ _ ⟨(blk_cell BK272.out 0).trans rfl, HS1_⟩ (fun hHeld => ?_)
                                            clear hK K
                                            refine norm_ (a' := ?_) ?_ ?_
                                            rotate_left
                                            · show Act.put _ (some 177) _ = _
                                              simp only [Act.put, List.setIfInBounds_toArray, List.set_cons_zero, List.set_cons_succ, i64_w, i32_w]
                                              rfl
                                            refine pure_ (i := 7) (N := some 170) (v := ?_) (a' := ?_) #[true, true, true, true, true, true, true, true, false, false, false, false] rfl rfl (any_of HT_.out (by kernel_rfl)) (fun _ _ _ h => h) (Or.inl ⟨by rfl, ?_⟩) ?_ ?_
                                            rotate_left
                                            · intro w'
                                              go_simp
                                              with_reducible rfl
                                            rotate_left
                                            · simp only [Act.put, List.setIfInBounds_toArray, List.set_cons_zero, List.set_cons_succ, i64_w, i32_w]
                                              rfl
                                            refine pure_ (i := 8) (N := some 178) (v := ?_) (a' := ?_) #[true, true, true, true, true, true, true, true, true, false, false, false] rfl rfl (any_of HT_.out (by kernel_rfl)) (fun _ _ _ h => h) (Or.inl ⟨by rfl, ?_⟩) ?_ ?_
                                            rotate_left
                                            · intro w'
                                              go_simp
                                              with_reducible rfl
                                            rotate_left
                                            · simp only [Act.put, List.setIfInBounds_toArray, List.set_cons_zero, List.set_cons_succ, i64_w, i32_w]
                                              rfl
                                            refine pure_ (i := 9) (N := some 179) (v := ?_) (a' := ?_) #[true, true, true, true, true, true, true, true, true, true, false, false] rfl rfl (any_of HT_.out (by kernel_rfl)) (fun _ _ _ h => h) (Or.inl ⟨by rfl, ?_⟩) ?_ ?_
                                            rotate_left
                                            · intro w'
                                              go_simp
                                              with_reducible rfl
                                            rotate_left
                                            · simp only [Act.put, List.setIfInBounds_toArray, List.set_cons_zero, List.set_cons_succ, i64_w, i32_w]
                                              rfl
                                            refine pure_ (i := 10) (N := some 24) (v := ?_) (a' := ?_) #[true, true, true, true, true, true, true, true, true, true, true, false] rfl rfl (any_of HT_.out (by kernel_rfl)) (fun _ _ _ h => h) (Or.inl ⟨by rfl, ?_⟩) ?_ ?_
                                            rotate_left
                                            · intro w'
                                              go_simp
                                              with_reducible rfl
                                            rotate_left
                                            · simp only [Act.put, List.setIfInBounds_toArray, List.set_cons_zero, List.set_cons_succ, i64_w, i32_w]
                                              rfl
                                            refine pure_ (i := 11) (N := some 25) (v := ?_) (a' := ?_) #[true, true, true, true, true, true, true, true, true, true, true, true] rfl rfl (any_of HT_.out (by kernel_rfl)) (fun _ _ _ h => h) (Or.inl ⟨by rfl, ?_⟩) ?_ ?_
                                            rotate_left
                                            · intro w'
                                              go_simp
                                              with_reducible rfl
                                            rotate_left
                                            · simp only [Act.put, List.setIfInBounds_toArray, List.set_cons_zero, List.set_cons_succ, i64_w, i32_w]
                                              rfl
                                            refine done_ (done_of HT_.out (by kernel_rfl)) ?_
                                            try go_wp2
                                            go_loopg [26] kj90 (fun kq v26 w' => ∃ (x22_6 : List Int) (x26_6 : Int), v26 = .int .i64 x26_6 ∧ Aside0 (mizmazelaw10_MazeNames.l3 kq (l0_0.length : Int) x12_2 x22_6 t295 t298 x26_6 = some r) ∧ Aside0 (kq ≤ kj90) ∧ Aside0 (Kd.R (Kd.int .i64) 3 w' w.heap.size (fun k_ => some k_ ≠ (v290 : Value).ownBlock ∧ some k_ ≠ (v296 : Value).ownBlock) (.slice (some ad294) x12_2.length co105) x12_2) ∧ Aside0 (Kd.R (Kd.int .i64) 3 w' w.heap.size (fun k_ => some k_ ≠ ((.slice (some ad294) x12_2.length co105) : Value).ownBlock ∧ some k_ ≠ (v296 : Value).ownBlock) v290 x22_6) ∧ Aside0 (Kd.R (Kd.int .i64) 3 w' w.heap.size (fun k_ => some k_ ≠ ((.slice (some ad294) x12_2.length co105) : Value).ownBlock ∧ some k_ ≠ (v290 : Value).ownBlock) v296 t295) ∧ Aside0 (Kd.N (Kd.slice 44 k44) 40 w' w.heap.size (fun k_ => some k_ ≠ ((.slice (some ad294) x12_2.length co105) : Value).ownBlock ∧ some k_ ≠ (v290 : Value).ownBlock ∧ some k_ ≠ (v296 : Value).ownBlock ∧ k_ ≠ gb259 ∧ k_ ≠ gb272) (.slice Ao80 x273000_3.length co80) x273000_3) ∧ Aside0 (w'.heap[gb259]? = some (.cells #[(.slice A0_0 l0_0.length c0_0)] 38 (0, 0))) ∧ Aside0 (w'.heap[gb272]? = some (.cells #[(.slice Ao80 x273000_3.length co80)] 38 (0, 0))) ∧ Aside0 (Below w.heap.size w w'))
                                            case atStart => exact ⟨(t289), (0), (by first | rfl | (simp; done) | (simp [*]; done)), H', ⟨Nat.le_refl _⟩, ⟨by (with_reducible repeat (first | apply Kd.R_alloc | apply Kd.R_drewN | apply Kd.R_drew)); exact HO_12.out⟩, ⟨by (with_reducible repeat (first | apply Kd.R_alloc | apply Kd.R_drewN | apply Kd.R_drew)); exact HO_22.out⟩, ⟨by (with_reducible repeat (first | apply Kd.R_alloc | apply Kd.R_drewN | apply Kd.R_drew)); exact Kd.R_mono HO297.out (fun _ hk => ⟨hk.1.2, hk.2⟩)⟩, ⟨by (with_reducible repeat (first | apply Kd.N_alloc | apply Kd.N_drewN | apply Kd.N_drew)); exact Kd.N_mono HO_273000.out (fun _ hk => ⟨hk.1.1, ⟨hk.1.2.1, ⟨hk.2, ⟨hk.1.2.2.1, hk.1.2.2.2⟩⟩⟩⟩)⟩, ⟨by (with_reducible repeat (first | refine blk_drewN ?_ _ | refine blk_drew ?_ | refine blk_alloc ?_ _)); exact BK259.out⟩, ⟨by (with_reducible repeat (first | refine blk_drewN ?_ _ | refine blk_drew ?_ | refine blk_alloc ?_ _)); exact BK272.out⟩, ⟨by repeat (first | (with_reducible first | exact HB.out | apply below_alloc | apply pw_below_drewN | apply below_drew1 | refine below_set ?_ GE259.out | refine below_set ?_ GE272.out) | exact HB.out)⟩⟩
                                            case round => as_aux_lemma =>
                                              clear H'
                                              try clear c1
                                              try clear c2
                                              try clear p2
                                              try clear q2
                                              try clear hx2
                                              try clear c4
                                              try clear c5
                                              try clear c6
                                              try clear p6
                                              try clear q6
                                              try clear hx6
                                              try clear hf6
                                              try clear c7
                                              try clear c8
                                              try clear c9
                                              try clear c10
                                              try clear c22
                                              try clear c23
                                              try clear c27
                                              try clear p27
                                              try clear q27
                                              try clear hx27
                                              try clear p28
                                              try clear q28
                                              try clear hx28
                                              try clear p29
                                              try clear q29
                                              try clear hx29
                                              try clear c51
                                              try clear c51b0
                                              try clear c52
                                              try clear c53
                                              try clear c54
                                              try clear c54b0
                                              try clear c55
                                              try clear c56
                                              try clear c57
                                              try clear c58
                                              try clear c64
                                              try clear c64b0
                                              try clear p64
                                              try clear c65
                                              try clear c65b0
                                              try clear c66
                                              try clear c66b0
                                              try clear c67
                                              try clear p67
                                              try clear q67
                                              try clear hx67
                                              try clear hf67
                                              try clear c68
                                              try clear c72
                                              try clear c76
                                              try clear c82
                                              try clear c82b0
                                              try clear c82b1
                                              try clear c83
                                              try clear c83b0
                                              try clear c83b1
                                              try clear c84
                                              try clear c84b0
                                              try clear c84b1
                                              try clear c84b2
                                              try clear c86
                                              try clear c89
                                              try clear c92
                                              try clear c95
                                              try clear c95b0
                                              try clear c95b1
                                              try clear c96
                                              try clear c96b0
                                              try clear c97
                                              try clear c98
                                              try clear c98b0
                                              try clear c98b1
                                              try clear c101
                                              try clear c101b0
                                              try clear c102
                                              try clear c102b0
                                              try clear hcz69_0
                                              try clear hcz77_0
                                              try clear hcz79_0
                                              try clear hcz87_0
                                              try clear hcz93_0
                                              try clear hfz69_0
                                              try clear hfz77_0
                                              try clear hfz79_0
                                              try clear hfz87_0
                                              try clear hfz93_0
                                              try clear hx273_0
                                              try clear hx274_0
                                              try clear hx275_0
                                              try clear hx275_1
                                              try clear hx276_0
                                              try clear hx277_0
                                              try clear hx278_0
                                              try clear hx278_1
                                              try clear hx282_0
                                              try clear hx294_0
                                              try clear hx67_0
                                              try clear p2
                                              try clear p27
                                              try clear p273
                                              try clear p274
                                              try clear p275
                                              try clear p276
                                              try clear p277
                                              try clear p278
                                              try clear p28
                                              try clear p282
                                              try clear p294
                                              try clear p6
                                              try clear p64
                                              try clear p67
                                              try clear q2
                                              try clear q27
                                              try clear q273
                                              try clear q274
                                              try clear q275
                                              try clear q276
                                              try clear q277
                                              try clear q278
                                              try clear q28
                                              try clear q282
                                              try clear q294
                                              try clear q6
                                              try clear q67
                                              obtain ⟨x22_6, x26_6, rfl, HA, HK6, HO_12, HO_22, HO_24, HO_273000, BK259, BK272, HB⟩ := hrel
                                              cases gk with
                                              | zero => exact absurd HA.out (by simp [mizmazelaw10_MazeNames.l3])
                                              | succ k6 =>
                                                have H := HA.out
                                                clear HA
                                                simp only [mizmazelaw10_MazeNames.l3] at H
                                                by_cases c107 : x26_6 < (x22_6.length : Int)
                                                · rw [if_pos c107] at H
                                                  have c107b0 : decide (x26_6 < (x22_6.length : Int)) = true := decide_eq_true c107
                                                  clear c107
                                                  by_cases c108 : 0 ≤ x26_6
                                                  · rw [if_pos c108] at H
                                                    have c108b0 : decide (0 ≤ x26_6) = true := decide_eq_true c108
                                                    clear c108
                                                    by_cases c109 : (rd x22_6 x26_6) < 0
                                                    · rw [if_pos c109] at H
                                                      have c109b0 : decide ((rd x22_6 x26_6) < 0) = true := decide_eq_true c109
                                                      clear c109
                                                      obtain rfl := Option.some.inj H
                                                      obtain ⟨Ao110, co110, eo110⟩ := Kd.R_slice HO_22.out
                                                      subst eo110
                                                      have p299 : 0 ≤ (x26_6 : Int) := of_decide_eq_true (by first | (with_reducible assumption) | assumption)
                                                      have q299 : x26_6 < (x22_6.length : Int) := of_decide_eq_true (by first | (with_reducible assumption) | assumption)
                                                      obtain ⟨ad299, e299, hx299_0⟩ := Kd.at_int (Kd.R_reads' HO_22.out).2.2 x26_6 p299 q299
                                                      cases e299
                                                      replace p299 := eq_true p299
                                                      replace q299 := eq_true q299
                                                      go_wp2
                                                      go_ret
                                                      exact ⟨by first | rfl | (simp [errW_none, errW_some] <;> rfl) | (simp [*, errW_none, errW_some] <;> rfl), by repeat (first | (with_reducible first | exact HB.out | apply below_alloc | apply pw_below_drewN | apply below_drew1 | refine below_set ?_ GE259.out | refine below_set ?_ GE272.out) | exact HB.out)⟩
                                                    · rw [if_neg c109] at H
                                                      have c109b0 : decide ((rd x22_6 x26_6) < 0) = false := decide_eq_false c109
                                                      clear c109
                                                      by_cases c111 : (rd x22_6 x26_6) ≥ (l0_0.length : Int)
                                                      · rw [if_pos c111] at H
                                                        have c111b0 : decide ((l0_0.length : Int) ≤ (rd x22_6 x26_6)) = true := decide_eq_true c111
                                                        clear c111
                                                        obtain rfl := Option.some.inj H
                                                        obtain ⟨Ao112, co112, eo112⟩ := Kd.R_slice HO_22.out
                                                        subst eo112
                                                        have p299 : 0 ≤ (x26_6 : Int) := of_decide_eq_true (by first | (with_reducible assumption) | assumption)
                                                        have q299 : x26_6 < (x22_6.length : Int) := of_decide_eq_true (by first | (with_reducible assumption) | assumption)
                                                        obtain ⟨ad299, e299, hx299_0⟩ := Kd.at_int (Kd.R_reads' HO_22.out).2.2 x26_6 p299 q299
                                                        cases e299
                                                        replace p299 := eq_true p299
                                                        replace q299 := eq_true q299
                                                        have p300 : 0 ≤ (x26_6 : Int) := of_decide_eq_true (by first | (with_reducible assumption) | assumption)
                                                        have q300 : x26_6 < (x22_6.length : Int) := of_decide_eq_true (by first | (with_reducible assumption) | assumption)
                                                        obtain ⟨ad300, e300, hx300_0⟩ := Kd.at_int (Kd.R_reads' HO_22.out).2.2 x26_6 p300 q300
                                                        obtain rfl : ad299 = ad300 := (by injection e300)
                                                        replace p300 := eq_true p300
                                                        replace q300 := eq_true q300
                                                        go_wp2
                                                        go_ret
                                                        exact ⟨by first | rfl | (simp [errW_none, errW_some] <;> rfl) | (simp [*, errW_none, errW_some] <;> rfl), by repeat (first | (with_reducible first | exact HB.out | apply below_alloc | apply pw_below_drewN | apply below_drew1 | refine below_set ?_ GE259.out | refine below_set ?_ GE272.out) | exact HB.out)⟩
                                                      · rw [if_neg c111] at H
                                                        have c111b0 : decide ((l0_0.length : Int) ≤ (rd x22_6 x26_6)) = false := decide_eq_false c111
                                                        clear c111
                                                        by_cases c113 : 0 ≤ (rd x22_6 x26_6)
                                                        · rw [if_pos c113] at H
                                                          have c113b0 : decide (0 ≤ (rd x22_6 x26_6)) = true := decide_eq_true c113
                                                          clear c113
                                                          by_cases c114 : (rd x22_6 x26_6) < (x12_2.length : Int)
                                                          · rw [if_pos c114] at H
                                                            have c114b0 : decide ((rd x22_6 x26_6) < (x12_2.length : Int)) = true := decide_eq_true c114
                                                            clear c114
                                                            obtain ⟨y303, hy303⟩ : ∃ y_ : List Int, y_ = (x22_6.set (x26_6 : Int).toNat (rd x12_2 (rd x22_6 x26_6))) := ⟨_, rfl⟩
                                                            replace H : (mizmazelaw10_MazeNames.l3 k6 (l0_0.length : Int) x12_2 y303 t295 t298 (wrap64 (x26_6 + 1))) = some r := by first | (rw [hy303]; with_reducible exact H) | (have H2_ := (Option.bind_some _ _).symm.trans H; rw [hy303]; with_reducible exact H2_) | (have H2_ := (Option.bind_some _ _).symm.trans H; with_reducible exact H2_) | with_reducible exact H | (rw [hy303]; exact H) | exact H
                                                            have Ny303 := Aside0.mk hy303
                                                            clear hy303
                                                            have H' := Aside0.mk H
                                                            clear H
                                                            obtain ⟨Ao116, co116, eo116⟩ := Kd.R_slice HO_22.out
                                                            subst eo116
                                                            have p299 : 0 ≤ (x26_6 : Int) := of_decide_eq_true (by first | (with_reducible assumption) | assumption)
                                                            have q299 : x26_6 < (x22_6.length : Int) := of_decide_eq_true (by first | (with_reducible assumption) | assumption)
                                                            obtain ⟨ad299, e299, hx299_0⟩ := Kd.at_int (Kd.R_reads' HO_22.out).2.2 x26_6 p299 q299
                                                            cases e299
                                                            replace p299 := eq_true p299
                                                            replace q299 := eq_true q299
                                                            have p300 : 0 ≤ (x26_6 : Int) := of_decide_eq_true (by first | (with_reducible assumption) | assumption)
                                                            have q300 : x26_6 < (x22_6.length : Int) := of_decide_eq_true (by first | (with_reducible assumption) | assumption)
                                                            obtain ⟨ad300, e300, hx300_0⟩ := Kd.at_int (Kd.R_reads' HO_22.out).2.2 x26_6 p300 q300
                                                            obtain rfl : ad299 = ad300 := (by injection e300)
                                                            replace p300 := eq_true p300
                                                            replace q300 := eq_true q300
                                                            have p301 : 0 ≤ (x26_6 : Int) := of_decide_eq_true (by first | (with_reducible assumption) | assumption)
                                                            have q301 : x26_6 < (x22_6.length : Int) := of_decide_eq_true (by first | (with_reducible assumption) | assumption)
                                                            obtain ⟨ad301, e301, hx301_0⟩ := Kd.at_int (Kd.R_reads' HO_22.out).2.2 x26_6 p301 q301
                                                            obtain rfl : ad299 = ad301 := (by injection e301)
                                                            replace p301 := eq_true p301
                                                            replace q301 := eq_true q301
                                                            have p302 : 0 ≤ ((rd x22_6 x26_6) : Int) := of_decide_eq_true (by first | (with_reducible assumption) | assumption)
                                                            have q302 : (rd x22_6 x26_6) < (x12_2.length : Int) := of_decide_eq_true (by first | (with_reducible assumption) | assumption)
                                                            obtain ⟨ad302, e302, hx302_0⟩ := Kd.at_int (Kd.R_reads' HO_12.out).2.2 (rd x22_6 x26_6) p302 q302
                                                            obtain rfl : ad294 = ad302 := (by injection e302)
                                                            replace p302 := eq_true p302
                                                            replace q302 := eq_true q302
                                                            have p115 : 0 ≤ (x26_6 : Int) := of_decide_eq_true (by first | (with_reducible assumption) | assumption)
                                                            have q115 : (x26_6 : Int) < ((x22_6.length : Int) : Int) := of_decide_eq_true (by first | (with_reducible assumption) | assumption)
                                                            obtain ⟨go115, co115, eo115, gb115, gl115, cl115, HG115⟩ := Kd.R_form HO_22.out (by omega)
                                                            (first | cases eo115 | (injection eo115 with ea_ en_ ec_; (first | subst ea_ | (injection ea_ with ea_; subst ea_)); subst ec_; clear en_))
                                                            have GB115 := Aside0.mk gb115
                                                            have GG115 := Aside0.mk HG115
                                                            clear gb115 gl115 HG115
                                                            (first | simp only [add_plain] at hx299_0 | skip)
                                                            (first | simp only [add_plain] at hx300_0 | skip)
                                                            (first | simp only [add_plain] at hx301_0 | skip)
                                                            obtain ⟨hx115_0, hf115_0⟩ := Kd.R_celln 0 HO_22.out (x26_6 : Int) p115 q115
                                                            replace p115 := eq_true p115
                                                            replace q115 := eq_true q115
                                                            have HP117 := Kd.R_putg HO_22.out (x26_6 : Int) (rd x12_2 (rd x22_6 x26_6))
                                                            go_wp2_with (first | ((with_reducible refine gate_store (t := 3) (p := 208) rfl ?_); refine store_event (t := 3) (p := 208) (v := ?vo_w118) (w1 := (wr.setCell ⟨go115, (x26_6 : Int).toNat, none⟩ (.int .i64 (rd x12_2 (rd x22_6 x26_6))))) ?hg ?ho ?hn ?hr ?_; (case ho => rfl); (case hg => rfl); (case hn => rfl); (case hr => first | (go_simp; done) | (go_simp; rfl)); intro w118 hw; have hg : wr.grownBy w118 (some go115) := (by rw [hw]; exact HP117.2); have hp_ : Kd.R (Kd.int .i64) 3 w118 w.heap.size (fun k_ => some k_ ≠ (.slice (some ad294) x12_2.length co105 : Value).ownBlock ∧ some k_ ≠ (v296 : Value).ownBlock) (.slice (some ⟨go115, 0, none⟩) x22_6.length co116) y303 := (by rw [hw, Ny303.out]; exact HP117.1); clear HP117; have n0_ := Aside0.mk (Kd.R_after (v := (.slice (some ⟨go115, 0, none⟩) x22_6.length co116)) (v1 := (.slice (some ⟨go115, 0, none⟩) x22_6.length co116)) (ok := (fun k_ => some k_ ≠ (v296 : Value).ownBlock)) (by (with_reducible repeat (first | apply Kd.R_alloc | apply Kd.R_drewN | apply Kd.R_drew)); exact Kd.R_mono HO_12.out (fun _ hk => ⟨hk.2, hk.1⟩)) hg (.inl rfl)); have n1_ := Aside0.mk (hp_); have n2_ := Aside0.mk (Kd.R_after (v := (.slice (some ⟨go115, 0, none⟩) x22_6.length co116)) (v1 := (.slice (some ⟨go115, 0, none⟩) x22_6.length co116)) (ok := (fun k_ => some k_ ≠ (.slice (some ad294) x12_2.length co105 : Value).ownBlock)) (by (with_reducible repeat (first | apply Kd.R_alloc | apply Kd.R_drewN | apply Kd.R_drew)); exact HO_24.out) hg (.inl rfl)); have n3_ := Aside0.mk (Kd.N_afterv (v := (.slice (some ⟨go115, 0, none⟩) x22_6.length co116)) (v1 := (.slice (some ⟨go115, 0, none⟩) x22_6.length co116)) (ok := (fun k_ => some k_ ≠ (.slice (some ad294) x12_2.length co105 : Value).ownBlock ∧ some k_ ≠ (v296 : Value).ownBlock ∧ k_ ≠ gb259 ∧ k_ ≠ gb272)) (by (with_reducible repeat (first | apply Kd.N_alloc | apply Kd.N_drewN | apply Kd.N_drew)); exact Kd.N_mono HO_273000.out (fun _ hk => ⟨⟨hk.1, ⟨hk.2.2.1, ⟨hk.2.2.2.1, hk.2.2.2.2⟩⟩⟩, hk.2.1⟩)) hg (.inl rfl)); have n4_ := Aside0.mk (blk_grown (g := gb259) (o := .cells #[.slice A0_0 l0_0.length c0_0] 38 (0, 0)) (by (with_reducible repeat (first | refine blk_drewN ?_ _ | refine blk_drew ?_ | refine blk_alloc ?_ _)); exact BK259.out) hg (Kd.R_ne HO_22.out BK259.out (by decide))); have n5_ := Aside0.mk (blk_grown (g := gb272) (o := .cells #[.slice Ao80 x273000_3.length co80] 38 (0, 0)) (by (with_reducible repeat (first | refine blk_drewN ?_ _ | refine blk_drew ?_ | refine blk_alloc ?_ _)); exact BK272.out) hg (Kd.R_ne HO_22.out BK272.out (by decide))); have n6_ := Aside0.mk ((by rw [hw]; exact below_set (HB.out) GB115.out : Below w.heap.size w w118)); clear HO_12; clear HO_22; clear HO_24; clear HO_273000; clear BK259; clear BK272; clear HB; have HO_12 := n0_; have HO_22 := n1_; have HO_24 := n2_; have HO_273000 := n3_; have BK259 := n4_; have BK272 := n5_; have HB := n6_; clear n0_ n1_ n2_ n3_ n4_ n5_ n6_; clear hg hw hp_))
                                                            go_roundg k6
                                                            case measure => have := HJ5.out; have := HK2.out; have := HK3.out; have := HJ74.out; have := HJ90.out; have := HK6.out; omega
                                                            case rel => exact ⟨(y303), (wrap64 (x26_6 + 1)), (by first | rfl | (simp; done) | (simp [*]; done)), H', ⟨by have := HJ5.out; have := HK2.out; have := HK3.out; have := HJ74.out; have := HJ90.out; have := HK6.out; omega⟩, ⟨by (with_reducible repeat (first | apply Kd.R_alloc | apply Kd.R_drewN | apply Kd.R_drew)); exact Kd.R_mono HO_12.out (fun _ hk => ⟨hk.2, hk.1⟩)⟩, ⟨by (with_reducible repeat (first | apply Kd.R_alloc | apply Kd.R_drewN | apply Kd.R_drew)); exact HO_22.out⟩, ⟨by (with_reducible repeat (first | apply Kd.R_alloc | apply Kd.R_drewN | apply Kd.R_drew)); exact HO_24.out⟩, ⟨by (with_reducible repeat (first | apply Kd.N_alloc | apply Kd.N_drewN | apply Kd.N_drew)); exact Kd.N_mono HO_273000.out (fun _ hk => ⟨hk.1.1, ⟨hk.2, ⟨hk.1.2.1, ⟨hk.1.2.2.1, hk.1.2.2.2⟩⟩⟩⟩)⟩, ⟨by (with_reducible repeat (first | refine blk_drewN ?_ _ | refine blk_drew ?_ | refine blk_alloc ?_ _)); exact BK259.out⟩, ⟨by (with_reducible repeat (first | refine blk_drewN ?_ _ | refine blk_drew ?_ | refine blk_alloc ?_ _)); exact BK272.out⟩, ⟨by repeat (first | (with_reducible first | exact HB.out | apply below_alloc | apply pw_below_drewN | apply below_drew1 | refine below_set ?_ GE259.out | refine below_set ?_ GE272.out) | exact HB.out)⟩⟩
                                                          · rw [if_neg c114] at H
                                                            exact absurd H (by simp)
                                                        · rw [if_neg c113] at H
                                                          exact absurd H (by simp)
                                                  · rw [if_neg c108] at H
                                                    exact absurd H (by simp)
                                                · rw [if_neg c107] at H
                                                  have c107b0 : decide (x26_6 < (x22_6.length : Int)) = false := decide_eq_false c107
                                                  clear c107
                                                  by_cases c119 : t298 = 0
                                                  · rw [if_pos c119] at H
                                                    have c119b0 : (t298 == 0) = true := beq_iff_eq.mpr c119
                                                    have c119b1 : (t298 != 0) = false := bne_eq_false_iff_eq.mpr c119
                                                    clear c119
                                                    replace H := Option.bind_eq_some_iff.mp H
                                                    obtain ⟨t304, A1200, H⟩ := H
                                                    replace H : (if t304 = true then ((mizmazelaw10_awake.f k6).bind fun t305 => (some t305)) else (some false)) = some r := H
                                                    have A120 := Aside0.mk A1200
                                                    clear A1200
                                                    by_cases c121 : t304 = true
                                                    · subst c121
                                                      have H1 : ((mizmazelaw10_awake.f k6).bind fun t305 => (some t305)) = some r := by rw [if_pos rfl] at H; exact H
                                                      clear H
                                                      have H := H1
                                                      clear H1
                                                      replace H := Option.bind_eq_some_iff.mp H
                                                      obtain ⟨t305, A1220, H⟩ := H
                                                      replace H : (some t305) = some r := H
                                                      have A122 := Aside0.mk A1220
                                                      clear A1220
                                                      obtain rfl := Option.some.inj H
                                                      obtain ⟨Ao123, co123, eo123⟩ := Kd.R_slice HO_22.out
                                                      subst eo123
                                                      obtain ⟨Ao124, co124, eo124⟩ := Kd.R_slice HO_24.out
                                                      subst eo124
                                                      go_wp2_with (first | (go_at_call 25; (with_reducible refine (mizmazeref07_Same.calls k6 _ _ x22_6 _ _ t295 true _ ?side1 ?side2 ?side3 ?side4 A120.out).mono ?_); (case side1 => repeat (first | exact (Kd.R_reads' HO_22.out).2.2 | (with_reducible refine Kd.C_alloc ?_ _) | (with_reducible refine Kd.C_drewN ?_ _) | (with_reducible refine Kd.C_drew ?_))); (case side2 => exact (Kd.R_reads' HO_22.out).2.1); (case side3 => repeat (first | exact (Kd.R_reads' HO_24.out).2.2 | (with_reducible refine Kd.C_alloc ?_ _) | (with_reducible refine Kd.C_drewN ?_ _) | (with_reducible refine Kd.C_drew ?_))); (case side4 => exact (Kd.R_reads' HO_24.out).2.1); rintro e w' ⟨rfl, ⟨nd, rfl⟩⟩) | (go_at_call 14; (with_reducible refine (mizmazelaw10_awake.calls k6  t305 _ A122.out).mono ?_); rintro e w125 ⟨rfl, hb⟩; have n0_ := Aside0.mk (Kd.R_below (by (with_reducible repeat (first | apply Kd.R_alloc | apply Kd.R_drewN | apply Kd.R_drew)); exact HO_12.out) hb); have n1_ := Aside0.mk (Kd.R_below (by (with_reducible repeat (first | apply Kd.R_alloc | apply Kd.R_drewN | apply Kd.R_drew)); exact HO_22.out) hb); have n2_ := Aside0.mk (Kd.R_below (by (with_reducible repeat (first | apply Kd.R_alloc | apply Kd.R_drewN | apply Kd.R_drew)); exact HO_24.out) hb); have n3_ := Aside0.mk (Kd.N_below (by (with_reducible repeat (first | apply Kd.N_alloc | apply Kd.N_drewN | apply Kd.N_drew)); exact HO_273000.out) hb); have n4_ := Aside0.mk (blk_below (g := gb259) (o := .cells #[.slice A0_0 l0_0.length c0_0] 38 (0, 0)) (by (with_reducible repeat (first | refine blk_drewN ?_ _ | refine blk_drew ?_ | refine blk_alloc ?_ _)); exact BK259.out) hb); have n5_ := Aside0.mk (blk_below (g := gb272) (o := .cells #[.slice Ao80 x273000_3.length co80] 38 (0, 0)) (by (with_reducible repeat (first | refine blk_drewN ?_ _ | refine blk_drew ?_ | refine blk_alloc ?_ _)); exact BK272.out) hb); have n6_ := Aside0.mk (below_step (by repeat (first | (with_reducible first | exact HB.out | apply below_alloc | apply pw_below_drewN | apply below_drew1 | refine below_set ?_ GE259.out | refine below_set ?_ GE272.out) | exact HB.out)) hb); clear HO_12; clear HO_22; clear HO_24; clear HO_273000; clear BK259; clear BK272; clear HB; have HO_12 := n0_; have HO_22 := n1_; have HO_24 := n2_; have HO_273000 := n3_; have BK259 := n4_; have BK272 := n5_; have HB := n6_; clear n0_ n1_ n2_ n3_ n4_ n5_ n6_; (try clear hb); (try clear hb2); (try clear hk); (try clear hi)))
                                                      go_ret
                                                      exact ⟨by first | rfl | (simp [errW_none, errW_some] <;> rfl) | (simp [*, errW_none, errW_some] <;> rfl), by repeat (first | (with_reducible first | exact HB.out | apply below_alloc | apply pw_below_drewN | apply below_drew1 | refine below_set ?_ GE259.out | refine below_set ?_ GE272.out) | exact HB.out)⟩
                                                    · replace c121 := Bool.eq_false_iff.mpr c121
                                                      subst c121
                                                      have H1 : (some false) = some r := by rw [if_neg (show ¬ (false = true) by decide)] at H; exact H
                                                      clear H
                                                      have H := H1
                                                      clear H1
                                                      obtain rfl := Option.some.inj H
                                                      obtain ⟨Ao126, co126, eo126⟩ := Kd.R_slice HO_22.out
                                                      subst eo126
                                                      obtain ⟨Ao127, co127, eo127⟩ := Kd.R_slice HO_24.out
                                                      subst eo127
                                                      go_wp2_with (first | (go_at_call 25; (with_reducible refine (mizmazeref07_Same.calls k6 _ _ x22_6 _ _ t295 false _ ?side1 ?side2 ?side3 ?side4 A120.out).mono ?_); (case side1 => repeat (first | exact (Kd.R_reads' HO_22.out).2.2 | (with_reducible refine Kd.C_alloc ?_ _) | (with_reducible refine Kd.C_drewN ?_ _) | (with_reducible refine Kd.C_drew ?_))); (case side2 => exact (Kd.R_reads' HO_22.out).2.1); (case side3 => repeat (first | exact (Kd.R_reads' HO_24.out).2.2 | (with_reducible refine Kd.C_alloc ?_ _) | (with_reducible refine Kd.C_drewN ?_ _) | (with_reducible refine Kd.C_drew ?_))); (case side4 => exact (Kd.R_reads' HO_24.out).2.1); rintro e w' ⟨rfl, ⟨nd, rfl⟩⟩))
                                                      go_ret
                                                      exact ⟨by first | rfl | (simp [errW_none, errW_some] <;> rfl) | (simp [*, errW_none, errW_some] <;> rfl), by repeat (first | (with_reducible first | exact HB.out | apply below_alloc | apply pw_below_drewN | apply below_drew1 | refine below_set ?_ GE259.out | refine below_set ?_ GE272.out) | exact HB.out)⟩
                                                  · rw [if_neg c119] at H
                                                    have c119b0 : (t298 == 0) = false := beq_eq_false_iff_ne.mpr c119
                                                    have c119b1 : (t298 != 0) = true := bne_iff_ne.mpr c119
                                                    obtain rfl := Option.some.inj H
                                                    obtain ⟨Ao128, co128, eo128⟩ := Kd.R_slice HO_22.out
                                                    subst eo128
                                                    go_wp2
                                                    go_ret
                                                    exact ⟨by first | rfl | (simp [errW_none, errW_some] <;> rfl) | (simp [*, errW_none, errW_some] <;> rfl), by repeat (first | (with_reducible first | exact HB.out | apply below_alloc | apply pw_below_drewN | apply below_drew1 | refine below_set ?_ GE259.out | refine below_set ?_ GE272.out) | exact HB.out)⟩
                                          · rw [if_neg c102] at H
                                            exact absurd H (by simp)
                                        · rw [if_neg c101] at H
                                          exact absurd H (by simp)
                    · rw [if_neg c44] at H
                      exact absurd H (by simp)
                  · rw [if_neg c43] at H
                    exact absurd H (by simp)
          · rw [if_neg c26] at H
            exact absurd H (by simp)
        · rw [if_neg c25] at H
          exact absurd H (by simp)

end Go.Proofs.Ytgbjbgdnldklpaa.Q
end
