/- One word for all mazes: the word that is found for some numbers of rooms and doors visits all rooms of whatever connected maze with at most this number of rooms, also with doors before it and after it; it is proved for every input, without conditions. (text 25 of 31) -/
import Derived.Test.YtgbjbgdnldklpaaZTopMazeg
import Derived.Test.YtgbjbgdnldklpaaZTopMazeo
import Derived.Test.YtgbjbgdnldklpaaZTopMazex
import Derived.Test.YtgbjbgdnldklpaaZTopMazen
/-! Part QTopTopMaze -/
section
-- Written by xprint.py, a program of this session's, over the kit's print. Lean checks it.
namespace Go.Proofs.Ytgbjbgdnldklpaa.Q
open Go.RowKit Go.Proofs.YtgbjbgdnldklpaaW.PrintWords Go.Proofs.YtgbjbgdnldklpaaW.PrintLast Go.Proofs.YtgbjbgdnldklpaaW.PrintMore
attribute [local go_sem] max2_int min2_int max_two min_two max_three min_three max_four min_four
set_option linter.unusedVariables false
set_option linter.unusedSimpArgs false

/-! ### mizmazetop_TopMaze: function 9 -/
mutual
def mizmazetop_TopMaze.j0 : Nat → List Int → Int → Int → List Int → Bool → Int → Int → Int → Int → List Int → List Int → Option (Bool)
 | 0, _, _, _, _, _, _, _, _, _, _, _ => none
 | k + 1, x1, x7, x8, x9, x46, x603000, x603001, x603002, x604000, x604001, x604002 => if x46 = true then (some false) else (mizmazetop_TopMaze.l0 k x1 x7 x8 x9 0 x603000 x603001 x603002 x604000 x604001 x604002)
def mizmazetop_TopMaze.l0 : Nat → List Int → Int → Int → List Int → Int → Int → Int → Int → Int → List Int → List Int → Option (Bool)
 | 0, _, _, _, _, _, _, _, _, _, _, _ => none
 | k + 1, x1, x7, x8, x9, x11, x603000, x603001, x603002, x604000, x604001, x604002 => if x11 < (x9.length : Int) then (if 0 ≤ x11 then (if (rd x9 x11) < 0 then (some false) else (if (rd x9 x11) ≥ x7 then (some false) else (mizmazetop_TopMaze.l0 k x1 x7 x8 x9 (wrap64 (x11 + 1)) x603000 x603001 x603002 x604000 x604001 x604002))) else (none)) else ((mizmazetop_cycle.f x603002 x8).bind fun t616 => ((mizmazetop_built.f k (wrap64 (1 + t616)) x7 x1).bind fun t617 => ((mizmazetop_connects.f k t617).bind fun t621 => (if t621 = true then ((mizmazetop_cycle.f x604000 (t617.length : Int)).bind fun t623 => (mizmazetop_TopMaze.l1 k x7 x9 t623 x604001 x604002 ([] : List Int) 0 t617)) else ((mizmazetop_walks.f k).bind fun t622 => (some t622))))))
def mizmazetop_TopMaze.j3 : Nat → Int → List Int → Int → List Int → List Int → List Int → List (List (S44)) → Option (Bool)
 | 0, _, _, _, _, _, _, _ => none
 | k + 1, x7, x9, x13, x15, x16, x17, x621000 => mizmazetop_TopMaze.l2 k x7 x9 x13 x15 x16 x17 0 x621000
def mizmazetop_TopMaze.j5 : Nat → List Int → Int → List Int → List Int → List (List (S44)) → Option (Bool)
 | 0, _, _, _, _, _ => none
 | k + 1, x9, x13, x16, x17, x621000 => (maze_Visits.f k x621000 x13 x9).bind fun bt634 => (if bt634.2 = 0 then (if bt634.1 = true then ((mizmazetop_visited.f k x621000 x13 x9).bind fun t636 => (if t636 = (x621000.length : Int) then ((mizmazetop_joined.f k (([x16, x9, x17] : List (List Int)))).bind fun t640 => ((mizmazetop_visited.f k x621000 x13 t640).bind fun t643 => (if t643 = (x621000.length : Int) then ((mizmazetop_walks.f k).bind fun t644 => (some t644)) else (some false)))) else (some false))) else (some false)) else (some false))
def mizmazetop_TopMaze.l2 : Nat → Int → List Int → Int → List Int → List Int → List Int → Int → List (List (S44)) → Option (Bool)
 | 0, _, _, _, _, _, _, _, _ => none
 | k + 1, x7, x9, x13, x15, x16, x17, x19, x621000 => if x19 < (x15.length : Int) then (if x19 < 1000 then (if 0 ≤ x19 then ((mizmazetop_cycle.f (rd x15 x19) x7).bind fun t630 => (if x17.length < 17592186044416 then (mizmazetop_TopMaze.l2 k x7 x9 x13 x15 x16 (x17 ++ [t630]) (wrap64 (x19 + 1)) x621000) else (none))) else (none)) else (mizmazetop_TopMaze.j5 k x9 x13 x16 x17 x621000)) else (mizmazetop_TopMaze.j5 k x9 x13 x16 x17 x621000)
def mizmazetop_TopMaze.l1 : Nat → Int → List Int → Int → List Int → List Int → List Int → Int → List (List (S44)) → Option (Bool)
 | 0, _, _, _, _, _, _, _, _ => none
 | k + 1, x7, x9, x13, x14, x15, x16, x18, x621000 => if x18 < (x14.length : Int) then (if x18 < 1000 then (if 0 ≤ x18 then ((mizmazetop_cycle.f (rd x14 x18) x7).bind fun t625 => (if x16.length < 17592186044416 then (mizmazetop_TopMaze.l1 k x7 x9 x13 x14 x15 (x16 ++ [t625]) (wrap64 (x18 + 1)) x621000) else (none))) else (none)) else (mizmazetop_TopMaze.j3 k x7 x9 x13 x15 x16 ([] : List Int) x621000)) else (mizmazetop_TopMaze.j3 k x7 x9 x13 x15 x16 ([] : List Int) x621000)
end
def mizmazetop_TopMaze.f (k : Nat) (a0_0 : Int) (a0_1 : Int) (a0_2 : Int) (l1 : List Int) (a2_0 : Int) (l2_1 : List Int) (l2_2 : List Int) : Option (Bool) := (mizmazetop_cycle.f a0_1 4).bind fun t604 => ((some (([4, 4, 3, 2] : List Int) : List Int)).bind fun y605 => (if 0 ≤ (wrap64 ((wrap64 (1 + t604)) - 1)) then (if (wrap64 ((wrap64 (1 + t604)) - 1)) < (y605.length : Int) then ((mizmazetop_cycle.f a0_0 (rd y605 (wrap64 ((wrap64 (1 + t604)) - 1)))).bind fun t609 => ((maze_Universal.f k (wrap64 (1 + t609)) (wrap64 (1 + t604))).bind fun bt610 => (if bt610.2 = 0 then (mizmazetop_TopMaze.j0 k l1 (wrap64 (1 + t604)) (wrap64 (1 + t609)) bt610.1 (decide ((bt610.1.length : Int) > 40000)) a0_0 a0_1 a0_2 a2_0 l2_1 l2_2) else (mizmazetop_TopMaze.j0 k l1 (wrap64 (1 + t604)) (wrap64 (1 + t609)) bt610.1 true a0_0 a0_1 a0_2 a2_0 l2_1 l2_2)))) else (none)) else (none)))
theorem mizmazetop_TopMaze.mono_l : ∀ k, (∀ y0 y1 y2 y3 y4 y5 y6 y7 y8 y9 y10, LeO (mizmazetop_TopMaze.j0 k y0 y1 y2 y3 y4 y5 y6 y7 y8 y9 y10) (mizmazetop_TopMaze.j0 (k + 1) y0 y1 y2 y3 y4 y5 y6 y7 y8 y9 y10)) ∧ (∀ y0 y1 y2 y3 y4 y5 y6 y7 y8 y9 y10, LeO (mizmazetop_TopMaze.l0 k y0 y1 y2 y3 y4 y5 y6 y7 y8 y9 y10) (mizmazetop_TopMaze.l0 (k + 1) y0 y1 y2 y3 y4 y5 y6 y7 y8 y9 y10)) ∧ (∀ y0 y1 y2 y3 y4 y5 y6, LeO (mizmazetop_TopMaze.j3 k y0 y1 y2 y3 y4 y5 y6) (mizmazetop_TopMaze.j3 (k + 1) y0 y1 y2 y3 y4 y5 y6)) ∧ (∀ y0 y1 y2 y3 y4, LeO (mizmazetop_TopMaze.j5 k y0 y1 y2 y3 y4) (mizmazetop_TopMaze.j5 (k + 1) y0 y1 y2 y3 y4)) ∧ (∀ y0 y1 y2 y3 y4 y5 y6 y7, LeO (mizmazetop_TopMaze.l2 k y0 y1 y2 y3 y4 y5 y6 y7) (mizmazetop_TopMaze.l2 (k + 1) y0 y1 y2 y3 y4 y5 y6 y7)) ∧ (∀ y0 y1 y2 y3 y4 y5 y6 y7, LeO (mizmazetop_TopMaze.l1 k y0 y1 y2 y3 y4 y5 y6 y7) (mizmazetop_TopMaze.l1 (k + 1) y0 y1 y2 y3 y4 y5 y6 y7))
 | 0 => ⟨fun _ _ _ _ _ _ _ _ _ _ _ r h => by simp [mizmazetop_TopMaze.j0] at h, fun _ _ _ _ _ _ _ _ _ _ _ r h => by simp [mizmazetop_TopMaze.l0] at h, fun _ _ _ _ _ _ _ r h => by simp [mizmazetop_TopMaze.j3] at h, fun _ _ _ _ _ r h => by simp [mizmazetop_TopMaze.j5] at h, fun _ _ _ _ _ _ _ _ r h => by simp [mizmazetop_TopMaze.l2] at h, fun _ _ _ _ _ _ _ _ r h => by simp [mizmazetop_TopMaze.l1] at h⟩
 | k + 1 => by
  obtain ⟨ih0, ih1, ih2, ih3, ih4, ih5⟩ := mizmazetop_TopMaze.mono_l k
  refine ⟨?_, ?_, ?_, ?_, ?_, ?_⟩
  ·intro y0 y1 y2 y3 y4 y5 y6 y7 y8 y9 y10
   unfold mizmazetop_TopMaze.j0
   repeat' first
   | (with_reducible exact ih0 _ _ _ _ _ _ _ _ _ _ _)
   | (with_reducible exact ih1 _ _ _ _ _ _ _ _ _ _ _)
   | (with_reducible exact ih2 _ _ _ _ _ _ _)
   | (with_reducible exact ih3 _ _ _ _ _)
   | (with_reducible exact ih4 _ _ _ _ _ _ _ _)
   | (with_reducible exact ih5 _ _ _ _ _ _ _ _)
   | (with_reducible exact maze_Universal.mono _ _ _)
   | (with_reducible exact maze_Visits.mono _ _ _ _)
   | (with_reducible exact mizmazetop_built.mono _ _ _ _)
   | (with_reducible exact mizmazetop_connects.mono _ _)
   | (with_reducible exact mizmazetop_joined.mono _ _)
   | (with_reducible exact mizmazetop_visited.mono _ _ _ _)
   | (with_reducible exact mizmazetop_walks.mono _)
   | (with_reducible exact LeO.refl _)
   | (with_reducible exact LeO.none _)
   | (with_reducible refine LeO.ite ?_ ?_)
   | (with_reducible refine LeO.bind ?_ (fun _ => ?_))
   | exact ih0 _ _ _ _ _ _ _ _ _ _ _
   | exact ih1 _ _ _ _ _ _ _ _ _ _ _
   | exact ih2 _ _ _ _ _ _ _
   | exact ih3 _ _ _ _ _
   | exact ih4 _ _ _ _ _ _ _ _
   | exact ih5 _ _ _ _ _ _ _ _
   | exact maze_Universal.mono _ _ _
   | exact maze_Visits.mono _ _ _ _
   | exact mizmazetop_built.mono _ _ _ _
   | exact mizmazetop_connects.mono _ _
   | exact mizmazetop_joined.mono _ _
   | exact mizmazetop_visited.mono _ _ _ _
   | exact mizmazetop_walks.mono _
   | exact LeO.none _
   | refine LeO.ite ?_ ?_
   | refine LeO.bind ?_ (fun _ => ?_)
  ·intro y0 y1 y2 y3 y4 y5 y6 y7 y8 y9 y10
   unfold mizmazetop_TopMaze.l0
   repeat' first
   | (with_reducible exact ih0 _ _ _ _ _ _ _ _ _ _ _)
   | (with_reducible exact ih1 _ _ _ _ _ _ _ _ _ _ _)
   | (with_reducible exact ih2 _ _ _ _ _ _ _)
   | (with_reducible exact ih3 _ _ _ _ _)
   | (with_reducible exact ih4 _ _ _ _ _ _ _ _)
   | (with_reducible exact ih5 _ _ _ _ _ _ _ _)
   | (with_reducible exact maze_Universal.mono _ _ _)
   | (with_reducible exact maze_Visits.mono _ _ _ _)
   | (with_reducible exact mizmazetop_built.mono _ _ _ _)
   | (with_reducible exact mizmazetop_connects.mono _ _)
   | (with_reducible exact mizmazetop_joined.mono _ _)
   | (with_reducible exact mizmazetop_visited.mono _ _ _ _)
   | (with_reducible exact mizmazetop_walks.mono _)
   | (with_reducible exact LeO.refl _)
   | (with_reducible exact LeO.none _)
   | (with_reducible refine LeO.ite ?_ ?_)
   | (with_reducible refine LeO.bind ?_ (fun _ => ?_))
   | exact ih0 _ _ _ _ _ _ _ _ _ _ _
   | exact ih1 _ _ _ _ _ _ _ _ _ _ _
   | exact ih2 _ _ _ _ _ _ _
   | exact ih3 _ _ _ _ _
   | exact ih4 _ _ _ _ _ _ _ _
   | exact ih5 _ _ _ _ _ _ _ _
   | exact maze_Universal.mono _ _ _
   | exact maze_Visits.mono _ _ _ _
   | exact mizmazetop_built.mono _ _ _ _
   | exact mizmazetop_connects.mono _ _
   | exact mizmazetop_joined.mono _ _
   | exact mizmazetop_visited.mono _ _ _ _
   | exact mizmazetop_walks.mono _
   | exact LeO.none _
   | refine LeO.ite ?_ ?_
   | refine LeO.bind ?_ (fun _ => ?_)
  ·intro y0 y1 y2 y3 y4 y5 y6
   unfold mizmazetop_TopMaze.j3
   repeat' first
   | (with_reducible exact ih0 _ _ _ _ _ _ _ _ _ _ _)
   | (with_reducible exact ih1 _ _ _ _ _ _ _ _ _ _ _)
   | (with_reducible exact ih2 _ _ _ _ _ _ _)
   | (with_reducible exact ih3 _ _ _ _ _)
   | (with_reducible exact ih4 _ _ _ _ _ _ _ _)
   | (with_reducible exact ih5 _ _ _ _ _ _ _ _)
   | (with_reducible exact maze_Universal.mono _ _ _)
   | (with_reducible exact maze_Visits.mono _ _ _ _)
   | (with_reducible exact mizmazetop_built.mono _ _ _ _)
   | (with_reducible exact mizmazetop_connects.mono _ _)
   | (with_reducible exact mizmazetop_joined.mono _ _)
   | (with_reducible exact mizmazetop_visited.mono _ _ _ _)
   | (with_reducible exact mizmazetop_walks.mono _)
   | (with_reducible exact LeO.refl _)
   | (with_reducible exact LeO.none _)
   | (with_reducible refine LeO.ite ?_ ?_)
   | (with_reducible refine LeO.bind ?_ (fun _ => ?_))
   | exact ih0 _ _ _ _ _ _ _ _ _ _ _
   | exact ih1 _ _ _ _ _ _ _ _ _ _ _
   | exact ih2 _ _ _ _ _ _ _
   | exact ih3 _ _ _ _ _
   | exact ih4 _ _ _ _ _ _ _ _
   | exact ih5 _ _ _ _ _ _ _ _
   | exact maze_Universal.mono _ _ _
   | exact maze_Visits.mono _ _ _ _
   | exact mizmazetop_built.mono _ _ _ _
   | exact mizmazetop_connects.mono _ _
   | exact mizmazetop_joined.mono _ _
   | exact mizmazetop_visited.mono _ _ _ _
   | exact mizmazetop_walks.mono _
   | exact LeO.none _
   | refine LeO.ite ?_ ?_
   | refine LeO.bind ?_ (fun _ => ?_)
  ·intro y0 y1 y2 y3 y4
   unfold mizmazetop_TopMaze.j5
   repeat' first
   | (with_reducible exact ih0 _ _ _ _ _ _ _ _ _ _ _)
   | (with_reducible exact ih1 _ _ _ _ _ _ _ _ _ _ _)
   | (with_reducible exact ih2 _ _ _ _ _ _ _)
   | (with_reducible exact ih3 _ _ _ _ _)
   | (with_reducible exact ih4 _ _ _ _ _ _ _ _)
   | (with_reducible exact ih5 _ _ _ _ _ _ _ _)
   | (with_reducible exact maze_Universal.mono _ _ _)
   | (with_reducible exact maze_Visits.mono _ _ _ _)
   | (with_reducible exact mizmazetop_built.mono _ _ _ _)
   | (with_reducible exact mizmazetop_connects.mono _ _)
   | (with_reducible exact mizmazetop_joined.mono _ _)
   | (with_reducible exact mizmazetop_visited.mono _ _ _ _)
   | (with_reducible exact mizmazetop_walks.mono _)
   | (with_reducible exact LeO.refl _)
   | (with_reducible exact LeO.none _)
   | (with_reducible refine LeO.ite ?_ ?_)
   | (with_reducible refine LeO.bind ?_ (fun _ => ?_))
   | exact ih0 _ _ _ _ _ _ _ _ _ _ _
   | exact ih1 _ _ _ _ _ _ _ _ _ _ _
   | exact ih2 _ _ _ _ _ _ _
   | exact ih3 _ _ _ _ _
   | exact ih4 _ _ _ _ _ _ _ _
   | exact ih5 _ _ _ _ _ _ _ _
   | exact maze_Universal.mono _ _ _
   | exact maze_Visits.mono _ _ _ _
   | exact mizmazetop_built.mono _ _ _ _
   | exact mizmazetop_connects.mono _ _
   | exact mizmazetop_joined.mono _ _
   | exact mizmazetop_visited.mono _ _ _ _
   | exact mizmazetop_walks.mono _
   | exact LeO.none _
   | refine LeO.ite ?_ ?_
   | refine LeO.bind ?_ (fun _ => ?_)
  ·intro y0 y1 y2 y3 y4 y5 y6 y7
   unfold mizmazetop_TopMaze.l2
   repeat' first
   | (with_reducible exact ih0 _ _ _ _ _ _ _ _ _ _ _)
   | (with_reducible exact ih1 _ _ _ _ _ _ _ _ _ _ _)
   | (with_reducible exact ih2 _ _ _ _ _ _ _)
   | (with_reducible exact ih3 _ _ _ _ _)
   | (with_reducible exact ih4 _ _ _ _ _ _ _ _)
   | (with_reducible exact ih5 _ _ _ _ _ _ _ _)
   | (with_reducible exact maze_Universal.mono _ _ _)
   | (with_reducible exact maze_Visits.mono _ _ _ _)
   | (with_reducible exact mizmazetop_built.mono _ _ _ _)
   | (with_reducible exact mizmazetop_connects.mono _ _)
   | (with_reducible exact mizmazetop_joined.mono _ _)
   | (with_reducible exact mizmazetop_visited.mono _ _ _ _)
   | (with_reducible exact mizmazetop_walks.mono _)
   | (with_reducible exact LeO.refl _)
   | (with_reducible exact LeO.none _)
   | (with_reducible refine LeO.ite ?_ ?_)
   | (with_reducible refine LeO.bind ?_ (fun _ => ?_))
   | exact ih0 _ _ _ _ _ _ _ _ _ _ _
   | exact ih1 _ _ _ _ _ _ _ _ _ _ _
   | exact ih2 _ _ _ _ _ _ _
   | exact ih3 _ _ _ _ _
   | exact ih4 _ _ _ _ _ _ _ _
   | exact ih5 _ _ _ _ _ _ _ _
   | exact maze_Universal.mono _ _ _
   | exact maze_Visits.mono _ _ _ _
   | exact mizmazetop_built.mono _ _ _ _
   | exact mizmazetop_connects.mono _ _
   | exact mizmazetop_joined.mono _ _
   | exact mizmazetop_visited.mono _ _ _ _
   | exact mizmazetop_walks.mono _
   | exact LeO.none _
   | refine LeO.ite ?_ ?_
   | refine LeO.bind ?_ (fun _ => ?_)
  ·intro y0 y1 y2 y3 y4 y5 y6 y7
   unfold mizmazetop_TopMaze.l1
   repeat' first
   | (with_reducible exact ih0 _ _ _ _ _ _ _ _ _ _ _)
   | (with_reducible exact ih1 _ _ _ _ _ _ _ _ _ _ _)
   | (with_reducible exact ih2 _ _ _ _ _ _ _)
   | (with_reducible exact ih3 _ _ _ _ _)
   | (with_reducible exact ih4 _ _ _ _ _ _ _ _)
   | (with_reducible exact ih5 _ _ _ _ _ _ _ _)
   | (with_reducible exact maze_Universal.mono _ _ _)
   | (with_reducible exact maze_Visits.mono _ _ _ _)
   | (with_reducible exact mizmazetop_built.mono _ _ _ _)
   | (with_reducible exact mizmazetop_connects.mono _ _)
   | (with_reducible exact mizmazetop_joined.mono _ _)
   | (with_reducible exact mizmazetop_visited.mono _ _ _ _)
   | (with_reducible exact mizmazetop_walks.mono _)
   | (with_reducible exact LeO.refl _)
   | (with_reducible exact LeO.none _)
   | (with_reducible refine LeO.ite ?_ ?_)
   | (with_reducible refine LeO.bind ?_ (fun _ => ?_))
   | exact ih0 _ _ _ _ _ _ _ _ _ _ _
   | exact ih1 _ _ _ _ _ _ _ _ _ _ _
   | exact ih2 _ _ _ _ _ _ _
   | exact ih3 _ _ _ _ _
   | exact ih4 _ _ _ _ _ _ _ _
   | exact ih5 _ _ _ _ _ _ _ _
   | exact maze_Universal.mono _ _ _
   | exact maze_Visits.mono _ _ _ _
   | exact mizmazetop_built.mono _ _ _ _
   | exact mizmazetop_connects.mono _ _
   | exact mizmazetop_joined.mono _ _
   | exact mizmazetop_visited.mono _ _ _ _
   | exact mizmazetop_walks.mono _
   | exact LeO.none _
   | refine LeO.ite ?_ ?_
   | refine LeO.bind ?_ (fun _ => ?_)
theorem mizmazetop_TopMaze.mono : ∀ a0 a1 a2 a3 a4 a5 a6 k, LeO (mizmazetop_TopMaze.f k a0 a1 a2 a3 a4 a5 a6) (mizmazetop_TopMaze.f (k + 1) a0 a1 a2 a3 a4 a5 a6) := by
 intro a0 a1 a2 a3 a4 a5 a6 k
 obtain ⟨ih0, ih1, ih2, ih3, ih4, ih5⟩ := mizmazetop_TopMaze.mono_l k
 unfold mizmazetop_TopMaze.f
 repeat' first
   | (with_reducible exact ih0 _ _ _ _ _ _ _ _ _ _ _)
   | (with_reducible exact ih1 _ _ _ _ _ _ _ _ _ _ _)
   | (with_reducible exact ih2 _ _ _ _ _ _ _)
   | (with_reducible exact ih3 _ _ _ _ _)
   | (with_reducible exact ih4 _ _ _ _ _ _ _ _)
   | (with_reducible exact ih5 _ _ _ _ _ _ _ _)
   | (with_reducible exact maze_Universal.mono _ _ _)
   | (with_reducible exact maze_Visits.mono _ _ _ _)
   | (with_reducible exact mizmazetop_built.mono _ _ _ _)
   | (with_reducible exact mizmazetop_connects.mono _ _)
   | (with_reducible exact mizmazetop_joined.mono _ _)
   | (with_reducible exact mizmazetop_visited.mono _ _ _ _)
   | (with_reducible exact mizmazetop_walks.mono _)
   | (with_reducible exact LeO.refl _)
   | (with_reducible exact LeO.none _)
   | (with_reducible refine LeO.ite ?_ ?_)
   | (with_reducible refine LeO.bind ?_ (fun _ => ?_))
   | exact ih0 _ _ _ _ _ _ _ _ _ _ _
   | exact ih1 _ _ _ _ _ _ _ _ _ _ _
   | exact ih2 _ _ _ _ _ _ _
   | exact ih3 _ _ _ _ _
   | exact ih4 _ _ _ _ _ _ _ _
   | exact ih5 _ _ _ _ _ _ _ _
   | exact maze_Universal.mono _ _ _
   | exact maze_Visits.mono _ _ _ _
   | exact mizmazetop_built.mono _ _ _ _
   | exact mizmazetop_connects.mono _ _
   | exact mizmazetop_joined.mono _ _
   | exact mizmazetop_visited.mono _ _ _ _
   | exact mizmazetop_walks.mono _
   | exact LeO.none _
   | refine LeO.ite ?_ ?_
   | refine LeO.bind ?_ (fun _ => ?_)
def mizmazetop_TopMaze.T2 : Bool × List (List Nat × List Nat) := (true, [([], []), ([0], [0]), ([], []), ([], []), ([3], [3]), ([2, 4], [2, 4]), ([5], [5]), ([1, 6], [1, 6]), ([7], [7]), ([8, 7, 0, 1, 2, 3, 4, 5, 6, 7, 8], [8])])
def mizmazetop_TopMaze.B2 : List Nat := [0, 1, 0, 0, 8, 28, 60, 127, 255, 511]
theorem mizmazetop_TopMaze.tab2 : rtab .any (opsOf Try.f9 2) = mizmazetop_TopMaze.T2 := by kernel_rfl
theorem mizmazetop_TopMaze.bits2 : waitsOk mizmazetop_TopMaze.T2.2 mizmazetop_TopMaze.B2 = true := by kernel_rfl
def mizmazetop_TopMaze.T14 : Bool × List (List Nat × List Nat) := (true, [([], []), ([0], [0]), ([], []), ([2], [2]), ([3], [3]), ([1, 4], [1, 4]), ([], []), ([6], [6]), ([], []), ([8], [8]), ([5, 5, 0, 1, 2, 3, 4, 5], [5]), ([7, 10, 0, 1, 2, 3, 4, 5, 6, 7, 10], [7]), ([9, 11, 0, 1, 2, 3, 4, 5, 6, 7, 8, 9, 10, 11], [9])])
def mizmazetop_TopMaze.B14 : List Nat := [0, 1, 0, 4, 12, 31, 0, 64, 0, 256, 63, 1279, 4095]
theorem mizmazetop_TopMaze.tab14 : rtab .any (opsOf Try.f9 14) = mizmazetop_TopMaze.T14 := by kernel_rfl
theorem mizmazetop_TopMaze.bits14 : waitsOk mizmazetop_TopMaze.T14.2 mizmazetop_TopMaze.B14 = true := by kernel_rfl
def mizmazetop_TopMaze.T25 : Bool × List (List Nat × List Nat) := (true, [([], []), ([0], [0]), ([1], [1]), ([2], [2]), ([2, 3], [2, 3]), ([4, 2], [4]), ([5], [5]), ([5], [5]), ([5], [5]), ([6, 7, 8, 5, 5], [5, 6, 7, 8]), ([5], [5]), ([10, 5], [5, 10]), ([11, 5], [5, 11]), ([9, 12, 5], [5, 9, 12]), ([5, 13], [5, 13]), ([14, 9], [14]), ([15], [15]), ([15], [15]), ([15], [15]), ([15], [15]), ([15], [15]), ([18, 19, 20, 15], [15, 18, 19, 20]), ([21, 15, 15], [15, 21]), ([16, 17, 22, 22, 15], [15, 16, 17, 22]), ([15], [15]), ([24, 15], [15, 24]), ([25, 15], [15, 25]), ([23, 26, 15], [15, 23, 26]), ([15, 27], [15, 27]), ([28, 23], [28]), ([29, 29], [29]), ([29, 30], [29, 30]), ([31, 30, 0, 1, 2, 3, 4, 5, 6, 7, 8, 9, 10, 11, 12, 13, 14, 15, 16, 17, 18, 19, 20, 21, 22, 23, 24, 25, 26, 27, 28, 29, 30, 31], [31])])
def mizmazetop_TopMaze.B25 : List Nat := [0, 1, 3, 7, 15, 31, 63, 63, 63, 511, 63, 1087, 3135, 8191, 16383, 32767, 65535, 65535, 65535, 65535, 65535, 1900543, 3997695, 8388607, 65535, 16842751, 50397183, 134217727, 268435455, 536870911, 1073741823, 2147483647, 4294967295]
theorem mizmazetop_TopMaze.tab25 : rtab .any (opsOf Try.f9 25) = mizmazetop_TopMaze.T25 := by kernel_rfl
theorem mizmazetop_TopMaze.bits25 : waitsOk mizmazetop_TopMaze.T25.2 mizmazetop_TopMaze.B25 = true := by kernel_rfl
def ttm0 : Array Bool := #[true, false, false, false, false, false, false, false, false, false]
def ttm1 : Array Bool := #[true, false, false, true, false, false, false, false, false, false]
def ttm2 : Array Bool := #[true, false, false, true, true, false, false, false, false, false]
def ttm3 : Array Bool := #[true, true, false, true, true, false, false, false, false, false]
def ttm4 : Array Bool := #[true, true, true, true, true, false, false, false, false, false]
def ttm5 : Array Bool := #[true, true, true, true, true, true, false, false, false, false]
def ttm6 : Array Bool := #[true, true, true, true, true, true, true, false, false, false]
def ttm7 : Array Bool := #[true, true, true, true, true, true, true, true, false, false]
def ttm8 : Array Bool := #[true, true, true, true, true, true, true, true, true, false]
def ttm9 : Array Bool := #[true, true, true, true, true, true, true, true, true, true]
def ttm10 : Array Bool := #[true, false, false, false, false, false, false, false, false, false, false, false, false]
def ttm11 : Array Bool := #[true, false, true, false, false, false, false, false, false, false, false, false, false]
def ttm12 : Array Bool := #[true, false, true, false, false, false, true, false, false, false, false, false, false]
def ttm13 : Array Bool := #[true, false, true, false, false, false, true, false, true, false, false, false, false]
def ttm14 : Array Bool := #[true, true, true, false, false, false, true, false, true, false, false, false, false]
def ttm15 : Array Bool := #[true, true, true, true, false, false, true, false, true, false, false, false, false]
def ttm16 : Array Bool := #[true, true, true, true, true, false, true, false, true, false, false, false, false]
def ttm17 : Array Bool := #[true, true, true, true, true, false, true, true, true, false, false, false, false]
def ttm18 : Array Bool := #[true, true, true, true, true, false, true, true, true, true, false, false, false]
def ttm19 : Array Bool := #[true, true, true, true, true, true, true, true, true, true, false, false, false]
def ttm20 : Array Bool := #[true, true, true, true, true, true, true, true, true, true, true, false, false]
def ttm21 : Array Bool := #[true, true, true, true, true, true, true, true, true, true, true, true, false]
def ttm22 : Array Bool := #[true, true, true, true, true, true, true, true, true, true, true, true, true]
def ttm23 : Array Bool := #[true, false, false, false, false, false, false, false, false, false, false, false, false, false, false, false, false, false, false, false, false, false, false, false, false, false, false, false, false, false, false, false, false]
def ttm24 : Array Bool := #[true, true, false, false, false, false, false, false, false, false, false, false, false, false, false, false, false, false, false, false, false, false, false, false, false, false, false, false, false, false, false, false, false]
def ttm25 : Array Bool := #[true, true, true, false, false, false, false, false, false, false, false, false, false, false, false, false, false, false, false, false, false, false, false, false, false, false, false, false, false, false, false, false, false]
def ttm26 : Array Bool := #[true, true, true, true, false, false, false, false, false, false, false, false, false, false, false, false, false, false, false, false, false, false, false, false, false, false, false, false, false, false, false, false, false]
def ttm27 : Array Bool := #[true, true, true, true, true, false, false, false, false, false, false, false, false, false, false, false, false, false, false, false, false, false, false, false, false, false, false, false, false, false, false, false, false]
def ttm28 : Array Bool := #[true, true, true, true, true, true, false, false, false, false, false, false, false, false, false, false, false, false, false, false, false, false, false, false, false, false, false, false, false, false, false, false, false]
def ttm29 : Array Bool := #[true, true, true, true, true, true, false, true, false, false, false, false, false, false, false, false, false, false, false, false, false, false, false, false, false, false, false, false, false, false, false, false, false]
def ttm30 : Array Bool := #[true, true, true, true, true, true, false, true, true, false, false, false, false, false, false, false, false, false, false, false, false, false, false, false, false, false, false, false, false, false, false, false, false]
def ttm31 : Array Bool := #[true, true, true, true, true, true, false, true, true, false, true, false, false, false, false, false, false, false, false, false, false, false, false, false, false, false, false, false, false, false, false, false, false]
def ttm32 : Array Bool := #[true, true, true, true, true, true, true, true, true, false, true, false, false, false, false, false, false, false, false, false, false, false, false, false, false, false, false, false, false, false, false, false, false]
def ttm33 : Array Bool := #[true, true, true, true, true, true, true, true, true, false, true, true, false, false, false, false, false, false, false, false, false, false, false, false, false, false, false, false, false, false, false, false, false]
def ttm34 : Array Bool := #[true, true, true, true, true, true, true, true, true, false, true, true, true, false, false, false, false, false, false, false, false, false, false, false, false, false, false, false, false, false, false, false, false]
def ttm35 : Array Bool := #[true, true, true, true, true, true, true, true, true, true, true, true, true, false, false, false, false, false, false, false, false, false, false, false, false, false, false, false, false, false, false, false, false]
def ttm36 : Array Bool := #[true, true, true, true, true, true, true, true, true, true, true, true, true, true, false, false, false, false, false, false, false, false, false, false, false, false, false, false, false, false, false, false, false]
def ttm37 : Array Bool := #[true, true, true, true, true, true, true, true, true, true, true, true, true, true, true, false, false, false, false, false, false, false, false, false, false, false, false, false, false, false, false, false, false]
def ttm38 : Array Bool := #[true, true, true, true, true, true, true, true, true, true, true, true, true, true, true, true, false, false, false, false, false, false, false, false, false, false, false, false, false, false, false, false, false]
def ttm39 : Array Bool := #[true, true, true, true, true, true, true, true, true, true, true, true, true, true, true, true, false, true, false, false, false, false, false, false, false, false, false, false, false, false, false, false, false]
def ttm40 : Array Bool := #[true, true, true, true, true, true, true, true, true, true, true, true, true, true, true, true, false, true, true, false, false, false, false, false, false, false, false, false, false, false, false, false, false]
def ttm41 : Array Bool := #[true, true, true, true, true, true, true, true, true, true, true, true, true, true, true, true, false, true, true, true, false, false, false, false, false, false, false, false, false, false, false, false, false]
def ttm42 : Array Bool := #[true, true, true, true, true, true, true, true, true, true, true, true, true, true, true, true, false, true, true, true, true, false, false, false, false, false, false, false, false, false, false, false, false]
def ttm43 : Array Bool := #[true, true, true, true, true, true, true, true, true, true, true, true, true, true, true, true, false, true, true, true, true, false, false, false, true, false, false, false, false, false, false, false, false]
def ttm44 : Array Bool := #[true, true, true, true, true, true, true, true, true, true, true, true, true, true, true, true, true, true, true, true, true, false, false, false, true, false, false, false, false, false, false, false, false]
def ttm45 : Array Bool := #[true, true, true, true, true, true, true, true, true, true, true, true, true, true, true, true, true, true, true, true, true, false, false, false, true, true, false, false, false, false, false, false, false]
def ttm46 : Array Bool := #[true, true, true, true, true, true, true, true, true, true, true, true, true, true, true, true, true, true, true, true, true, false, false, false, true, true, true, false, false, false, false, false, false]
def ttm47 : Array Bool := #[true, true, true, true, true, true, true, true, true, true, true, true, true, true, true, true, true, true, true, true, true, true, false, false, true, true, true, false, false, false, false, false, false]
def ttm48 : Array Bool := #[true, true, true, true, true, true, true, true, true, true, true, true, true, true, true, true, true, true, true, true, true, true, true, false, true, true, true, false, false, false, false, false, false]
def ttm49 : Array Bool := #[true, true, true, true, true, true, true, true, true, true, true, true, true, true, true, true, true, true, true, true, true, true, true, true, true, true, true, false, false, false, false, false, false]
def ttm50 : Array Bool := #[true, true, true, true, true, true, true, true, true, true, true, true, true, true, true, true, true, true, true, true, true, true, true, true, true, true, true, true, false, false, false, false, false]
def ttm51 : Array Bool := #[true, true, true, true, true, true, true, true, true, true, true, true, true, true, true, true, true, true, true, true, true, true, true, true, true, true, true, true, true, false, false, false, false]
def ttm52 : Array Bool := #[true, true, true, true, true, true, true, true, true, true, true, true, true, true, true, true, true, true, true, true, true, true, true, true, true, true, true, true, true, true, false, false, false]
def ttm53 : Array Bool := #[true, true, true, true, true, true, true, true, true, true, true, true, true, true, true, true, true, true, true, true, true, true, true, true, true, true, true, true, true, true, true, false, false]
def ttm54 : Array Bool := #[true, true, true, true, true, true, true, true, true, true, true, true, true, true, true, true, true, true, true, true, true, true, true, true, true, true, true, true, true, true, true, true, false]
def ttm55 : Array Bool := #[true, true, true, true, true, true, true, true, true, true, true, true, true, true, true, true, true, true, true, true, true, true, true, true, true, true, true, true, true, true, true, true, true]
def ttm56 : Array Bool := #[true, true, true, true, true, true, true, true, true, true, true, true, true, true, true, true, true, false, false, false, false, false, false, false, false, false, false, false, false, false, false, false, false]
def ttm57 : Array Bool := #[true, true, true, true, true, true, true, true, true, true, true, true, true, true, true, true, true, true, false, false, false, false, false, false, false, false, false, false, false, false, false, false, false]
def ttm58 : Array Bool := #[true, true, true, true, true, true, true, true, true, true, true, true, true, true, true, true, true, true, true, false, false, false, false, false, false, false, false, false, false, false, false, false, false]
def ttm59 : Array Bool := #[true, true, true, true, true, true, true, true, true, true, true, true, true, true, true, true, true, true, true, true, false, false, false, false, false, false, false, false, false, false, false, false, false]
def ttm60 : Array Bool := #[true, true, true, true, true, true, true, true, true, true, true, true, true, true, true, true, true, true, true, true, true, false, false, false, false, false, false, false, false, false, false, false, false]
def ttm61 : Array Bool := #[true, true, true, true, true, true, true, true, true, true, true, true, true, true, true, true, true, true, true, true, true, true, false, false, false, false, false, false, false, false, false, false, false]
def ttm62 : Array Bool := #[true, true, true, true, true, true, true, true, true, true, true, true, true, true, true, true, true, true, true, true, true, true, true, false, false, false, false, false, false, false, false, false, false]
def ttm63 : Array Bool := #[true, true, true, true, true, true, true, true, true, true, true, true, true, true, true, true, true, true, true, true, true, true, true, true, false, false, false, false, false, false, false, false, false]
def ttm64 : Array Bool := #[true, true, true, true, true, true, true, true, true, true, true, true, true, true, true, true, true, true, true, true, true, true, true, true, true, false, false, false, false, false, false, false, false]
def ttm65 : Array Bool := #[true, true, true, true, true, true, true, true, true, true, true, true, true, true, true, true, true, true, true, true, true, true, true, true, true, true, false, false, false, false, false, false, false]
def ttm66 : Array Bool := #[true, true, true, true, true, true, true, false, false, false, false, false, false, false, false, false, false, false, false, false, false, false, false, false, false, false, false, false, false, false, false, false, false]
def ttm67 : Array Bool := #[true, true, true, true, true, true, true, true, false, false, false, false, false, false, false, false, false, false, false, false, false, false, false, false, false, false, false, false, false, false, false, false, false]
def ttm68 : Array Bool := #[true, true, true, true, true, true, true, true, true, false, false, false, false, false, false, false, false, false, false, false, false, false, false, false, false, false, false, false, false, false, false, false, false]
def ttm69 : Array Bool := #[true, true, true, true, true, true, true, true, true, true, false, false, false, false, false, false, false, false, false, false, false, false, false, false, false, false, false, false, false, false, false, false, false]
def ttm70 : Array Bool := #[true, true, true, true, true, true, true, true, true, true, true, false, false, false, false, false, false, false, false, false, false, false, false, false, false, false, false, false, false, false, false, false, false]
def ttm71 : Array Bool := #[true, true, true, true, true, true, true, true, true, true, true, true, false, false, false, false, false, false, false, false, false, false, false, false, false, false, false, false, false, false, false, false, false]
set_option maxHeartbeats 8000000 in
set_option maxRecDepth 100000 in
theorem mizmazetop_TopMaze.calls (k : Nat) (a0_0 : Int) (a0_1 : Int) (a0_2 : Int) (A1 : Option Addr) (c1 : Nat) (l1 : List Int) (a2_0 : Int) (A2_1 : Option Addr) (c2_1 : Nat) (l2_1 : List Int) (A2_2 : Option Addr) (c2_2 : Nat) (l2_2 : List Int) (r : Bool) (w : World) (hr1 : Kd.C (Kd.int .i64) w A1 l1.length l1) (hc1 : l1.length ≤ c1) (hr2_1 : Kd.C (Kd.int .i64) w A2_1 l2_1.length l2_1) (hc2_1 : l2_1.length ≤ c2_1) (hr2_2 : Kd.C (Kd.int .i64) w A2_2 l2_2.length l2_2) (hc2_2 : l2_2.length ≤ c2_2) (h : mizmazetop_TopMaze.f k a0_0 a0_1 a0_2 l1 a2_0 l2_1 l2_2 = some r) :
    Calls Try.prog 9 #[.agg #[.int .i64 a0_0, .int .i64 a0_1, .int .i64 a0_2], .slice A1 l1.length c1, .agg #[.int .i64 a2_0, .slice A2_1 l2_1.length c2_1, .slice A2_2 l2_2.length c2_2]] w fun e w' => e = .returned (.bool r) ∧ Below w.heap.size w w' := by
 have hu50 := Try.underlying50
 have hu52 := Try.underlying52
 have hu38 := Try.underlying38
 have HR1 := Aside0.mk hr1
 have HC1 := Aside0.mk hc1
 clear hr1 hc1
 have HR2_1 := Aside0.mk hr2_1
 have HC2_1 := Aside0.mk hc2_1
 clear hr2_1 hc2_1
 have HR2_2 := Aside0.mk hr2_2
 have HC2_2 := Aside0.mk hc2_2
 clear hr2_2 hc2_2
 have HB := Aside0.mk (Below.refl w.heap.size w)
 have H : ((mizmazetop_cycle.f a0_1 4).bind fun t604 => ((some (([4, 4, 3, 2] : List Int) : List Int)).bind fun y605 => (if 0 ≤ (wrap64 ((wrap64 (1 + t604)) - 1)) then (if (wrap64 ((wrap64 (1 + t604)) - 1)) < (y605.length : Int) then ((mizmazetop_cycle.f a0_0 (rd y605 (wrap64 ((wrap64 (1 + t604)) - 1)))).bind fun t609 => ((maze_Universal.f k (wrap64 (1 + t609)) (wrap64 (1 + t604))).bind fun bt610 => (if bt610.2 = 0 then (mizmazetop_TopMaze.j0 k l1 (wrap64 (1 + t604)) (wrap64 (1 + t609)) bt610.1 (decide ((bt610.1.length : Int) > 40000)) a0_0 a0_1 a0_2 a2_0 l2_1 l2_2) else (mizmazetop_TopMaze.j0 k l1 (wrap64 (1 + t604)) (wrap64 (1 + t609)) bt610.1 true a0_0 a0_1 a0_2 a2_0 l2_1 l2_2)))) else (none)) else (none)))) = some r := h
 clear h
 replace H := Option.bind_eq_some_iff.mp H
 obtain ⟨t604, A40, H⟩ := H
 replace H : ((some (([4, 4, 3, 2] : List Int) : List Int)).bind fun y605 => (if 0 ≤ (wrap64 ((wrap64 (1 + t604)) - 1)) then (if (wrap64 ((wrap64 (1 + t604)) - 1)) < (y605.length : Int) then ((mizmazetop_cycle.f a0_0 (rd y605 (wrap64 ((wrap64 (1 + t604)) - 1)))).bind fun t609 => ((maze_Universal.f k (wrap64 (1 + t609)) (wrap64 (1 + t604))).bind fun bt610 => (if bt610.2 = 0 then (mizmazetop_TopMaze.j0 k l1 (wrap64 (1 + t604)) (wrap64 (1 + t609)) bt610.1 (decide ((bt610.1.length : Int) > 40000)) a0_0 a0_1 a0_2 a2_0 l2_1 l2_2) else (mizmazetop_TopMaze.j0 k l1 (wrap64 (1 + t604)) (wrap64 (1 + t609)) bt610.1 true a0_0 a0_1 a0_2 a2_0 l2_1 l2_2)))) else (none)) else (none))) = some r := H
 have A4 := Aside0.mk A40
 clear A40
 obtain ⟨y605, hy605⟩ : ∃ y_ : List Int, y_ = (([4, 4, 3, 2] : List Int)) := ⟨_, rfl⟩
 replace H : (if 0 ≤ (wrap64 ((wrap64 (1 + t604)) - 1)) then (if (wrap64 ((wrap64 (1 + t604)) - 1)) < (y605.length : Int) then ((mizmazetop_cycle.f a0_0 (rd y605 (wrap64 ((wrap64 (1 + t604)) - 1)))).bind fun t609 => ((maze_Universal.f k (wrap64 (1 + t609)) (wrap64 (1 + t604))).bind fun bt610 => (if bt610.2 = 0 then (mizmazetop_TopMaze.j0 k l1 (wrap64 (1 + t604)) (wrap64 (1 + t609)) bt610.1 (decide ((bt610.1.length : Int) > 40000)) a0_0 a0_1 a0_2 a2_0 l2_1 l2_2) else (mizmazetop_TopMaze.j0 k l1 (wrap64 (1 + t604)) (wrap64 (1 + t609)) bt610.1 true a0_0 a0_1 a0_2 a2_0 l2_1 l2_2)))) else (none)) else (none)) = some r := by first | (rw [hy605]; with_reducible exact H) | (have H2_ := (Option.bind_some _ _).symm.trans H; rw [hy605]; with_reducible exact H2_) | (have H2_ := (Option.bind_some _ _).symm.trans H; with_reducible exact H2_) | with_reducible exact H | (rw [hy605]; exact H) | exact H
 have Ny605 := Aside0.mk hy605
 clear hy605
 obtain ⟨ji5, hji5⟩ : ∃ j_ : Int, (wrap64 ((wrap64 (1 + t604)) - 1)) = j_ := ⟨_, rfl⟩
 replace H : (if 0 ≤ (ji5) then (if (ji5) < (y605.length : Int) then ((mizmazetop_cycle.f a0_0 (rd y605 (ji5))).bind fun t609 => ((maze_Universal.f k (wrap64 (1 + t609)) (wrap64 (1 + t604))).bind fun bt610 => (if bt610.2 = 0 then (mizmazetop_TopMaze.j0 k l1 (wrap64 (1 + t604)) (wrap64 (1 + t609)) bt610.1 (decide ((bt610.1.length : Int) > 40000)) a0_0 a0_1 a0_2 a2_0 l2_1 l2_2) else (mizmazetop_TopMaze.j0 k l1 (wrap64 (1 + t604)) (wrap64 (1 + t609)) bt610.1 true a0_0 a0_1 a0_2 a2_0 l2_1 l2_2)))) else (none)) else (none)) = some r := by first | (rw [hji5] at H; exact H) | (simp only [hji5] at H ⊢; exact H)
 (try rw [hji5] at A4)
 have hji5w : (IntKind.i64.wrap ((wrap64 (1 + t604)) - 1)) = ji5 := (i64_w _).trans hji5
 by_cases c6 : 0 ≤ (ji5)
 rotate_left
 ·rw [if_neg c6] at H
  exact absurd H (by simp)

 rw [if_pos c6] at H
 have c6b0 : decide (0 ≤ (ji5)) = true := decide_eq_true c6
 clear c6
 by_cases c7 : (ji5) < (y605.length : Int)
 rotate_left
 ·rw [if_neg c7] at H
  exact absurd H (by simp)
 rw [if_pos c7] at H
 have c7b0 : decide ((ji5) < (y605.length : Int)) = true := decide_eq_true c7
 clear c7
 replace H := Option.bind_eq_some_iff.mp H
 obtain ⟨t609, A80, H⟩ := H
 replace H : ((maze_Universal.f k (wrap64 (1 + t609)) (wrap64 (1 + t604))).bind fun bt610 => (if bt610.2 = 0 then (mizmazetop_TopMaze.j0 k l1 (wrap64 (1 + t604)) (wrap64 (1 + t609)) bt610.1 (decide ((bt610.1.length : Int) > 40000)) a0_0 a0_1 a0_2 a2_0 l2_1 l2_2) else (mizmazetop_TopMaze.j0 k l1 (wrap64 (1 + t604)) (wrap64 (1 + t609)) bt610.1 true a0_0 a0_1 a0_2 a2_0 l2_1 l2_2))) = some r := H
 have A8 := Aside0.mk A80
 clear A80
 replace H := Option.bind_eq_some_iff.mp H
 obtain ⟨⟨t610, t611⟩, A90, H⟩ := H
 replace H : (if t611 = 0 then (mizmazetop_TopMaze.j0 k l1 (wrap64 (1 + t604)) (wrap64 (1 + t609)) t610 (decide ((t610.length : Int) > 40000)) a0_0 a0_1 a0_2 a2_0 l2_1 l2_2) else (mizmazetop_TopMaze.j0 k l1 (wrap64 (1 + t604)) (wrap64 (1 + t609)) t610 true a0_0 a0_1 a0_2 a2_0 l2_1 l2_2)) = some r := H
 have A9 := Aside0.mk A90
 clear A90
 have HC10 := Aside0.mk H
 clear H
 go_enter Try.func9, Try.ntmps9
 try go_wp2_with (first | ((with_reducible refine gate_dst (N := 3) rfl ?_); (try (refine gate_guard (by rfl) ?_; dsimp only)); refine box_event ?hg (N := 3) ?hd (cs := #[.int .i64 a0_0, .int .i64 a0_1, .int .i64 a0_2]) (t := 50) ?hr ?_; (case hd => rfl); (case hg => rfl); (case hr => first | (go_simp; done) | (go_simp; rfl)); intro gb602 hg w11 hbox hb; have n0_ := Aside0.mk (below_step (by repeat (first | (with_reducible first | exact HB.out | apply below_alloc | apply pw_below_drewN | apply below_drew1) | exact HB.out)) hb); have n1_ := Aside0.mk (hbox); have n2_ := Aside0.mk ((by rw [hg]; exact (below_size (by repeat (first | (with_reducible first | exact HB.out | apply below_alloc | apply pw_below_drewN | apply below_drew1) | exact HB.out))) : w.heap.size ≤ gb602)); have n3_ := Aside0.mk ((by rw [hg]; exact (below_size (by repeat (first | (with_reducible first | exact HB.out | apply below_alloc | apply pw_below_drewN | apply below_drew1) | exact HB.out))) : w.heap.size ≤ gb602)); clear HB; have HB := n0_; have BK602 := n1_; have GW602 := n2_; have GE602 := n3_; clear n0_ n1_ n2_ n3_; clear hb hbox hg) | ((with_reducible refine gate_dst (N := 5) rfl ?_); (try (refine gate_guard (by rfl) ?_; dsimp only)); refine box_event ?hg (N := 5) ?hd (cs := #[.int .i64 a2_0, .slice A2_1 l2_1.length c2_1, .slice A2_2 l2_2.length c2_2]) (t := 52) ?hr ?_; (case hd => rfl); (case hg => rfl); (case hr => first | (go_simp; done) | (go_simp; rfl)); intro gb603 hg w12 hbox hb; have n0_ := Aside0.mk (blk_below (g := gb602) (o := .cells #[.int .i64 a0_0, .int .i64 a0_1, .int .i64 a0_2] 50 (0, 0)) (by (with_reducible repeat (first | refine blk_drewN ?_ _ | refine blk_drew ?_ | refine blk_alloc ?_ _)); exact BK602.out) hb); have n1_ := Aside0.mk (below_step (by repeat (first | (with_reducible first | exact HB.out | apply below_alloc | apply pw_below_drewN | apply below_drew1 | refine below_set ?_ GE602.out) | exact HB.out)) hb); have n2_ := Aside0.mk (hbox); have n3_ := Aside0.mk ((by rw [hg]; exact (below_size (by repeat (first | (with_reducible first | exact HB.out | apply below_alloc | apply pw_below_drewN | apply below_drew1 | refine below_set ?_ GE602.out) | exact HB.out))) : w.heap.size ≤ gb603)); have n4_ := Aside0.mk ((by rw [hg]; exact (below_size (by repeat (first | (with_reducible first | exact HB.out | apply below_alloc | apply pw_below_drewN | apply below_drew1 | refine below_set ?_ GE602.out) | exact HB.out))) : w.heap.size ≤ gb603)); have n5_ := Aside0.mk ((by rw [hg]; exact Nat.ne_of_lt (blk_lt (g := gb602) (o := .cells #[.int .i64 a0_0, .int .i64 a0_1, .int .i64 a0_2] 50 (0, 0)) (by (with_reducible repeat (first | refine blk_drewN ?_ _ | refine blk_drew ?_ | refine blk_alloc ?_ _)); exact BK602.out)) : gb602 ≠ gb603)); have n6_ := Aside0.mk ((by rw [hg]; exact Nat.ne_of_gt (blk_lt (g := gb602) (o := .cells #[.int .i64 a0_0, .int .i64 a0_1, .int .i64 a0_2] 50 (0, 0)) (by (with_reducible repeat (first | refine blk_drewN ?_ _ | refine blk_drew ?_ | refine blk_alloc ?_ _)); exact BK602.out)) : gb603 ≠ gb602)); clear BK602; clear HB; have BK602 := n0_; have HB := n1_; have BK603 := n2_; have GW603 := n3_; have GE603 := n4_; have NB602_603 := n5_; have NB603_602 := n6_; clear n0_ n1_ n2_ n3_ n4_ n5_ n6_; clear hb hbox hg; have hnb13 := NB602_603.out; have hnc13 := NB603_602.out; have hcz14_0 : w12.cell? ⟨gb602, 0, none⟩ = some (.int .i64 a0_0) := (blk_cell BK602.out 0).trans rfl; have hcz14_1 : w12.cell? ⟨gb602, 1, none⟩ = some (.int .i64 a0_1) := (blk_cell BK602.out 1).trans rfl; have hcz14_2 : w12.cell? ⟨gb602, 2, none⟩ = some (.int .i64 a0_2) := (blk_cell BK602.out 2).trans rfl; have hfz14_0 := blk_frozen BK602.out 0; have hfz14_1 := blk_frozen BK602.out 1; have hfz14_2 := blk_frozen BK602.out 2) | ((with_reducible refine gate_callee (f := 27) rfl ?_); refine goesL_ (some 23) rfl rfl Try.func27 (by kernel_rfl) rfl #[.int .i64 a0_1, .int .i64 4] rfl (by (try simp only [List.map_toArray, List.map_cons, List.map_nil]); first | done | rfl | (simp only [List.length_drop, List.length_take]; rfl)) ?_; (with_reducible refine (mizmazetop_cycle.calls a0_1 4 t604 _ A4.out).mono ?_); rintro e w' ⟨rfl, ⟨nd, rfl⟩⟩; refine ⟨_, rfl, ?_⟩))
 have pi608 : (0 ≤ ((ji5) : Int)) = True := eq_true (of_decide_eq_true (by first | (with_reducible assumption) | assumption))
 have qi608 : ((ji5) < (y605.length : Int)) = True := eq_true (of_decide_eq_true (by first | (with_reducible assumption) | assumption))
 (try (rw [drewN_self w12]; generalize hq_ : World.drewN w12 _ = w12; have n0_ : Aside0 (w12.heap[gb602]? = some (.cells #[.int .i64 a0_0, .int .i64 a0_1, .int .i64 a0_2] 50 (0, 0))) := ⟨by rw [← hq_]; exact (by (with_reducible repeat (first | refine blk_drewN ?_ _ | refine blk_drew ?_ | refine blk_alloc ?_ _)); exact BK602.out)⟩; have n1_ : Aside0 (w12.heap[gb603]? = some (.cells #[.int .i64 a2_0, .slice A2_1 l2_1.length c2_1, .slice A2_2 l2_2.length c2_2] 52 (0, 0))) := ⟨by rw [← hq_]; exact (by (with_reducible repeat (first | refine blk_drewN ?_ _ | refine blk_drew ?_ | refine blk_alloc ?_ _)); exact BK603.out)⟩; have n2_ : Aside0 (Below w.heap.size w w12) := ⟨by rw [← hq_]; exact (by repeat (first | (with_reducible first | exact HB.out | apply below_alloc | apply pw_below_drewN | apply below_drew1 | refine below_set ?_ GE602.out | refine below_set ?_ GE603.out) | exact HB.out))⟩; clear BK602 BK603 HB hq_; have BK602 := n0_; have BK603 := n1_; have HB := n2_; clear n0_ n1_ n2_))
 have n0_ := Aside0.mk (blk_drew BK602.out)
 have n1_ := Aside0.mk (blk_drew BK603.out)
 have n2_ := Aside0.mk (below_drew1 HB.out)
 clear BK602
 clear BK603
 clear HB
 have BK602 := n0_
 have BK603 := n1_
 have HB := n2_
 clear n0_ n1_ n2_
 refine start_ (n := 10) (S := fun w' => w'.cell? ⟨gb602, 0, none⟩ = some (.int .i64 a0_0) ∧ w'.cell? ⟨gb602, 1, none⟩ = some (.int .i64 a0_1) ∧ w'.cell? ⟨gb602, 2, none⟩ = some (.int .i64 a0_2)) (ds := []) #[false, false, false, false, false, false, false, false, false, false] (by kernel_rfl) rfl rfl ⟨(blk_cell BK602.out 0).trans rfl, (blk_cell BK602.out 1).trans rfl, (blk_cell BK602.out 2).trans rfl⟩ (fun hHeld => ?_); refine with_tabW mizmazetop_TopMaze.tab2 mizmazetop_TopMaze.bits2 (fun HT_ HW_ => ?_)
 generalize w12.drew = w15 at BK602 BK603 HB hHeld ⊢
 refine pv_ 0 25 ttm0 HT_ ?_
 refine pv_ 3 28 ttm1 HT_ ?_
 refine pv_ 4 29 ttm2 HT_ ?_
 refine take_ (i := 1) (N := some 26) (v := ?_) (a' := ?_) ttm3 rfl rfl (take_ofW HT_.out HW_.out (by kernel_rfl)) (fun _ _ _ h => h) (Or.inl ⟨by rfl, ?_⟩) hHeld ?_ ?_
 rotate_left
 ·rintro w' ⟨s0, s1, s2⟩
  go_simp
  with_reducible rfl
 rotate_left
 ·simp only [Act.put, List.setIfInBounds_toArray, List.set_cons_zero, List.set_cons_succ, i64_w, i32_w]
  rfl
 refine one_ (i := 2) (N := some 27) ttm4 rfl rfl (one_of HT_.out (by kernel_rfl)) (by decide) (fun K hK => ?_)
 refine Kd.R_lit_step (Kd.int .i64) _ 3 ?hg (N := 27) ?hd (xs := ([4, 4, 3, 2] : List Int)) (inner := [.int .i64 4, .int .i64 4, .int .i64 3, .int .i64 2]) (ok := fun _ => True) (okp := fun _ => True) ?hr ?hp (fun _ hk => hk) trivial (Below.refl _ _) (Nat.le_refl _) (by simp) ?_; (case hd => rfl); (case hg => rfl); (case hr => first | (go_simp; done) | (go_simp; rfl)); (case hp => exact (Reps.one (show Kd.M (Kd.int .i64) _ _ _ 4 [.int .i64 4] from rfl) (Reps.one (show Kd.M (Kd.int .i64) _ _ _ 4 [.int .i64 4] from rfl) (Reps.one (show Kd.M (Kd.int .i64) _ _ _ 3 [.int .i64 3] from rfl) (Reps.one (show Kd.M (Kd.int .i64) _ _ _ 2 [.int .i64 2] from rfl) (Reps.none _ _))))))
 intro v606 w16 ho17 hb hg_ hnew_
 clear hg_ hnew_
 (first | rw [← Ny605.out] at ho17 | (simp only [Int.reduceToNat] at ho17; rw [← Ny605.out] at ho17))
 have n0_ := Aside0.mk (Kd.R_lower ho17 (below_size (by repeat (first | (with_reducible first | exact HB.out | apply below_alloc | apply pw_below_drewN | apply below_drew1 | refine below_set ?_ GE602.out | refine below_set ?_ GE603.out) | exact HB.out))))
 have n1_ := Aside0.mk (blk_below (g := gb602) (o := .cells #[.int .i64 a0_0, .int .i64 a0_1, .int .i64 a0_2] 50 (0, 0)) (by (with_reducible repeat (first | refine blk_drewN ?_ _ | refine blk_drew ?_ | refine blk_alloc ?_ _)); exact BK602.out) hb)
 have n2_ := Aside0.mk (blk_below (g := gb603) (o := .cells #[.int .i64 a2_0, .slice A2_1 l2_1.length c2_1, .slice A2_2 l2_2.length c2_2] 52 (0, 0)) (by (with_reducible repeat (first | refine blk_drewN ?_ _ | refine blk_drew ?_ | refine blk_alloc ?_ _)); exact BK603.out) hb)
 have n3_ := Aside0.mk (below_step (by repeat (first | (with_reducible first | exact HB.out | apply below_alloc | apply pw_below_drewN | apply below_drew1 | refine below_set ?_ GE602.out | refine below_set ?_ GE603.out) | exact HB.out)) hb)
 clear BK602
 clear BK603
 clear HB
 have HO607 := n0_
 have BK602 := n1_
 have BK603 := n2_
 have HB := n3_
 clear n0_ n1_ n2_ n3_
 clear hb ho17
 obtain ⟨Ao18, co18, eo18⟩ := Kd.R_slice HO607.out
 subst eo18
 obtain ⟨ado18, fo18, _⟩ := Kd.at_int (Kd.R_reads' HO607.out).2.2 0 (by decide) (by rw [Ny605.out]; simp)
 cases fo18
 refine hK.out _ _ ⟨(blk_cell BK602.out 0).trans rfl, (blk_cell BK602.out 1).trans rfl, (blk_cell BK602.out 2).trans rfl⟩ (fun hHeld => ?_)
 clear hK K
 refine norm_ (a' := ?_) ?_ ?_
 rotate_left
 ·show Act.put _ (some 27) _ = _
  simp only [Act.put, List.setIfInBounds_toArray, List.set_cons_zero, List.set_cons_succ, i64_w, i32_w]
  rfl
 refine pv_ 5 30 ttm5 HT_ ?_
 refine one_ (i := 6) (N := some 31) ttm6 rfl rfl (one_of HT_.out (by kernel_rfl)) (by decide) (fun K hK => ?_)
 (have p608 : 0 ≤ ((ji5) : Int) := of_decide_eq_true (by first | (with_reducible assumption) | assumption); have q608 : (ji5) < (y605.length : Int) := of_decide_eq_true (by first | (with_reducible assumption) | assumption); obtain ⟨ad608, e608, hx608_0⟩ := Kd.at_int (Kd.R_reads' HO607.out).2.2 (ji5) p608 q608; obtain rfl : ado18 = ad608 := (by injection e608))
 refine value_ (w1 := ?_) (v := ?_) (by rfl) rfl ?_ ?_
 rotate_left 2
 ·go_simp
  constructor
  ·rfl
  ·rfl
 clear hx608_0
 refine hK.out _ _ ⟨(blk_cell BK602.out 0).trans rfl, (blk_cell BK602.out 1).trans rfl, (blk_cell BK602.out 2).trans rfl⟩ (fun hHeld => ?_)
 clear hK K
 refine norm_ (a' := ?_) ?_ ?_
 rotate_left
 ·show Act.put _ (some 31) _ = _
  simp only [Act.put, List.setIfInBounds_toArray, List.set_cons_zero, List.set_cons_succ, i64_w, i32_w]
  rfl
 refine one_ (i := 7) (N := some 32) ttm7 rfl rfl (one_of HT_.out (by kernel_rfl)) (by decide) (fun K hK => ?_)
 refine goes_ Try.func27 (by kernel_rfl) rfl #[.int .i64 a0_0, .int .i64 (rd y605 (ji5))] (by rfl) rfl rfl (by (try simp only [List.map_toArray, List.map_cons, List.map_nil]); first | done | (simp only [hji5]; rfl) | rfl | (simp only [List.length_drop, List.length_take]; rfl)) ?_
 with_reducible refine (mizmazetop_cycle.calls a0_0 (rd y605 (ji5)) t609 _ A8.out).mono ?_
 rintro e w' ⟨rfl, ⟨nd, rfl⟩⟩
 refine ⟨_, rfl, ?_⟩
 refine hK.out _ _ ⟨(blk_cell BK602.out 0).trans rfl, (blk_cell BK602.out 1).trans rfl, (blk_cell BK602.out 2).trans rfl⟩ (fun hHeld => ?_)
 clear hK K
 refine norm_ (a' := ?_) ?_ ?_
 rotate_left
 ·show Act.put _ (some 32) _ = _
  simp only [Act.put, List.setIfInBounds_toArray, List.set_cons_zero, List.set_cons_succ, i64_w, i32_w]
  rfl
 refine pv_ 8 33 ttm8 HT_ ?_
 refine pv_ 9 8 ttm9 HT_ ?_
 refine done_ (done_of HT_.out (by kernel_rfl)) ?_
 go_upto_region 4 with (first | ((with_reducible refine gate_callee (f := 26) rfl ?_); refine goesL_ (some 37) rfl rfl Try.func26 (by kernel_rfl) rfl #[.int .i64 (wrap64 (1 + t609)), .int .i64 (wrap64 (1 + t604))] rfl (by (try simp only [List.map_toArray, List.map_cons, List.map_nil]); first | done | rfl | (simp only [List.length_drop, List.length_take]; rfl)) ?_; (with_reducible refine (maze_Universal.calls k (wrap64 (1 + t609)) (wrap64 (1 + t604)) t610 t611 _ A9.out).mono ?_); rintro e w19 ⟨v612, rfl, ho0, hb⟩; refine ⟨_, rfl, ?_⟩; have n0_ := Aside0.mk (Kd.R_elder' (by (with_reducible repeat (first | apply Kd.R_alloc | apply Kd.R_drewN | apply Kd.R_drew)); exact HO607.out) (Kd.R_base ho0) hb); have n1_ := Aside0.mk (Kd.R_lower (Kd.R_new' ho0 (Kd.R_lt (by (with_reducible repeat (first | apply Kd.R_alloc | apply Kd.R_drewN | apply Kd.R_drew)); exact HO607.out))) (below_size (by repeat (first | (with_reducible first | exact HB.out | apply below_alloc | apply pw_below_drewN | apply below_drew1 | refine below_set ?_ GE602.out | refine below_set ?_ GE603.out) | exact HB.out)))); have n2_ := Aside0.mk (blk_below (g := gb602) (o := .cells #[.int .i64 a0_0, .int .i64 a0_1, .int .i64 a0_2] 50 (0, 0)) (by (with_reducible repeat (first | refine blk_drewN ?_ _ | refine blk_drew ?_ | refine blk_alloc ?_ _)); exact BK602.out) hb); have n3_ := Aside0.mk (blk_below (g := gb603) (o := .cells #[.int .i64 a2_0, .slice A2_1 l2_1.length c2_1, .slice A2_2 l2_2.length c2_2] 52 (0, 0)) (by (with_reducible repeat (first | refine blk_drewN ?_ _ | refine blk_drew ?_ | refine blk_alloc ?_ _)); exact BK603.out) hb); have n4_ := Aside0.mk (below_step (by repeat (first | (with_reducible first | exact HB.out | apply below_alloc | apply pw_below_drewN | apply below_drew1 | refine below_set ?_ GE602.out | refine below_set ?_ GE603.out) | exact HB.out)) hb); clear HO607; clear BK602; clear BK603; clear HB; have HO607 := n0_; have HO613 := n1_; have BK602 := n2_; have BK603 := n3_; have HB := n4_; clear n0_ n1_ n2_ n3_ n4_; (try clear hb); (try clear hb2); (try clear hk); (try clear hi); (try clear ho0)))
 (try simp only [Act.put, List.setIfInBounds_toArray, List.set_cons_zero, List.set_cons_succ])
 go_cut [46] (fun v46 wc => ∃ (kq : Nat) (x46_9 : Bool), v46 = .bool x46_9 ∧ Aside0 (mizmazetop_TopMaze.j0 kq l1 (wrap64 (1 + t604)) (wrap64 (1 + t609)) t610 x46_9 a0_0 a0_1 a0_2 a2_0 l2_1 l2_2 = some r) ∧ Aside0 (kq ≤ k) ∧ Aside0 (Kd.R (Kd.int .i64) 3 wc w.heap.size (fun _ => True) v612 t610) ∧ Aside0 (wc.heap[gb602]? = some (.cells #[.int .i64 a0_0, .int .i64 a0_1, .int .i64 a0_2] 50 (0, 0))) ∧ Aside0 (wc.heap[gb603]? = some (.cells #[.int .i64 a2_0, (.slice A2_1 l2_1.length c2_1), (.slice A2_2 l2_2.length c2_2)] 52 (0, 0))) ∧ Aside0 (Below w.heap.size w wc))
 case first =>
  have H := HC10.out
  clear HC10
  by_cases c20 : t611 = 0
  rotate_left
  ·rw [if_neg c20] at H
   have c20b0 : (t611 == 0) = false := beq_eq_false_iff_ne.mpr c20
   have c20b1 : (t611 != 0) = true := bne_iff_ne.mpr c20
   (first | rw [c20b0] | (simp only [i64_w, i32_w]; rw [c20b0]) | skip)
   have H' := Aside0.mk H
   clear H
   go_wp2
   go_meet
   case rel => exact ⟨_, (true), (by first | rfl | (simp; done) | (simp [*]; done)), H', ⟨by first | omega | exact Nat.le_refl _⟩, ⟨by (with_reducible repeat (first | apply Kd.R_alloc | apply Kd.R_drewN | apply Kd.R_drew)); exact Kd.R_mono HO613.out (fun _ hk => trivial)⟩, ⟨by (with_reducible repeat (first | refine blk_drewN ?_ _ | refine blk_drew ?_ | refine blk_alloc ?_ _)); exact BK602.out⟩, ⟨by (with_reducible repeat (first | refine blk_drewN ?_ _ | refine blk_drew ?_ | refine blk_alloc ?_ _)); exact BK603.out⟩, ⟨by repeat (first | (with_reducible first | exact HB.out | apply below_alloc | apply pw_below_drewN | apply below_drew1 | refine below_set ?_ GE602.out | refine below_set ?_ GE603.out) | exact HB.out)⟩⟩
  rw [if_pos c20] at H
  have c20b0 : (t611 == 0) = true := beq_iff_eq.mpr c20
  have c20b1 : (t611 != 0) = false := bne_eq_false_iff_eq.mpr c20
  clear c20
  (first | rw [c20b0] | (simp only [i64_w, i32_w]; rw [c20b0]) | skip)
  have H' := Aside0.mk H
  clear H
  obtain ⟨Ao21, co21, eo21⟩ := Kd.R_slice HO613.out
  subst eo21
  go_wp2
  go_meet
  case rel => exact ⟨_, (decide ((t610.length : Int) > 40000)), (by first | rfl | (simp; done) | (simp [*]; done)), H', ⟨by first | omega | exact Nat.le_refl _⟩, ⟨by (with_reducible repeat (first | apply Kd.R_alloc | apply Kd.R_drewN | apply Kd.R_drew)); exact Kd.R_mono HO613.out (fun _ hk => trivial)⟩, ⟨by (with_reducible repeat (first | refine blk_drewN ?_ _ | refine blk_drew ?_ | refine blk_alloc ?_ _)); exact BK602.out⟩, ⟨by (with_reducible repeat (first | refine blk_drewN ?_ _ | refine blk_drew ?_ | refine blk_alloc ?_ _)); exact BK603.out⟩, ⟨by repeat (first | (with_reducible first | exact HB.out | apply below_alloc | apply pw_below_drewN | apply below_drew1 | refine below_set ?_ GE602.out | refine below_set ?_ GE603.out) | exact HB.out)⟩⟩
 case rest =>
  clear HC10
  try clear c1
  try clear c2
  try clear p2
  try clear c6
  try clear c6b0
  try clear p6
  try clear q6
  try clear hx6
  try clear qi6
  try clear c7
  try clear c7b0
  try clear c9
  try clear c13
  try clear c20
  try clear c20b0
  try clear c20b1
  try clear hcz14_0
  try clear hcz14_1
  try clear hcz14_2
  try clear hfz14_0
  try clear hfz14_1
  try clear hfz14_2
  try clear hx608_0
  try clear p608
  try clear q608
  obtain ⟨kq, x46_9, rfl, HA, HJ9, HO_9, BK602, BK603, HB⟩ := hcut
  cases kq with
  | zero => exact absurd HA.out (by simp [mizmazetop_TopMaze.j0])
  | succ kj9 =>
   have H := HA.out
   clear HA
   simp only [mizmazetop_TopMaze.j0] at H
   by_cases c22 : x46_9 = true
   ·subst c22
    have H1 : (some false) = some r := by rw [if_pos rfl] at H; exact H
    clear H
    have H := H1
    clear H1
    obtain rfl := Option.some.inj H
    go_wp2
    go_ret
    exact ⟨by first | rfl | (simp [errW_none, errW_some] <;> rfl) | (simp only [← hji5]; first | rfl | (simp [errW_none, errW_some] <;> rfl)) | (simp [*, errW_none, errW_some] <;> rfl), by repeat (first | (with_reducible first | exact HB.out | apply below_alloc | apply pw_below_drewN | apply below_drew1 | refine below_set ?_ GE602.out | refine below_set ?_ GE603.out) | exact HB.out)⟩
   replace c22 := Bool.eq_false_iff.mpr c22
   subst c22
   have H1 : (mizmazetop_TopMaze.l0 kj9 l1 (wrap64 (1 + t604)) (wrap64 (1 + t609)) t610 0 a0_0 a0_1 a0_2 a2_0 l2_1 l2_2) = some r := by rw [if_neg (show ¬ (false = true) by decide)] at H; exact H
   clear H
   have H := H1
   clear H1
   have H' := Aside0.mk H
   clear H
   go_wp2
   go_loopg [11] kj9 (fun kq v11 w' => ∃ (x11_2 : Int), v11 = .int .i64 x11_2 ∧ Aside0 (mizmazetop_TopMaze.l0 kq l1 (wrap64 (1 + t604)) (wrap64 (1 + t609)) t610 x11_2 a0_0 a0_1 a0_2 a2_0 l2_1 l2_2 = some r) ∧ Aside0 (kq ≤ kj9) ∧ Aside0 (Kd.R (Kd.int .i64) 3 w' w.heap.size (fun _ => True) v612 t610) ∧ Aside0 (w'.heap[gb602]? = some (.cells #[.int .i64 a0_0, .int .i64 a0_1, .int .i64 a0_2] 50 (0, 0))) ∧ Aside0 (w'.heap[gb603]? = some (.cells #[.int .i64 a2_0, (.slice A2_1 l2_1.length c2_1), (.slice A2_2 l2_2.length c2_2)] 52 (0, 0))) ∧ Aside0 (Below w.heap.size w w'))
   case atStart => exact ⟨(0), (by first | rfl | (simp; done) | (simp [*]; done)), H', ⟨Nat.le_refl _⟩, ⟨by (with_reducible repeat (first | apply Kd.R_alloc | apply Kd.R_drewN | apply Kd.R_drew)); exact HO_9.out⟩, ⟨by (with_reducible repeat (first | refine blk_drewN ?_ _ | refine blk_drew ?_ | refine blk_alloc ?_ _)); exact BK602.out⟩, ⟨by (with_reducible repeat (first | refine blk_drewN ?_ _ | refine blk_drew ?_ | refine blk_alloc ?_ _)); exact BK603.out⟩, ⟨by repeat (first | (with_reducible first | exact HB.out | apply below_alloc | apply pw_below_drewN | apply below_drew1 | refine below_set ?_ GE602.out | refine below_set ?_ GE603.out) | exact HB.out)⟩⟩
   case round =>
    clear H'
    try clear c1
    try clear c2
    try clear p2
    try clear c6
    try clear c6b0
    try clear p6
    try clear q6
    try clear hx6
    try clear qi6
    try clear c7
    try clear c7b0
    try clear c9
    try clear c13
    try clear c20
    try clear c20b0
    try clear c20b1
    try clear c22
    try clear hcz14_0
    try clear hcz14_1
    try clear hcz14_2
    try clear hfz14_0
    try clear hfz14_1
    try clear hfz14_2
    try clear hx608_0
    try clear p2
    try clear p6
    try clear p608
    try clear q6
    try clear q608
    obtain ⟨x11_2, rfl, HA, HK2, HO_9, BK602, BK603, HB⟩ := hrel
    cases gk with
    | zero => exact absurd HA.out (by simp [mizmazetop_TopMaze.l0])
    | succ k2 =>
     have H := HA.out
     clear HA
     simp only [mizmazetop_TopMaze.l0] at H
     by_cases c23 : x11_2 < (t610.length : Int)
     ·rw [if_pos c23] at H
      have c23b0 : decide (x11_2 < (t610.length : Int)) = true := decide_eq_true c23
      clear c23
      by_cases c24 : 0 ≤ x11_2
      rotate_left
      ·rw [if_neg c24] at H
       exact absurd H (by simp)
      rw [if_pos c24] at H
      have c24b0 : decide (0 ≤ x11_2) = true := decide_eq_true c24
      clear c24
      by_cases c25 : (rd t610 x11_2) < 0
      ·rw [if_pos c25] at H
       have c25b0 : decide ((rd t610 x11_2) < 0) = true := decide_eq_true c25
       clear c25
       obtain rfl := Option.some.inj H
       obtain ⟨Ao26, co26, eo26⟩ := Kd.R_slice HO_9.out
       subst eo26
       have p614 : 0 ≤ (x11_2 : Int) := of_decide_eq_true (by first | (with_reducible assumption) | assumption)
       have q614 : x11_2 < (t610.length : Int) := of_decide_eq_true (by first | (with_reducible assumption) | assumption)
       obtain ⟨ad614, e614, hx614_0⟩ := Kd.at_int (Kd.R_reads' HO_9.out).2.2 x11_2 p614 q614
       cases e614
       replace p614 := eq_true p614
       replace q614 := eq_true q614
       go_wp2
       go_ret
       exact ⟨by first | rfl | (simp [errW_none, errW_some] <;> rfl) | (simp only [← hji5]; first | rfl | (simp [errW_none, errW_some] <;> rfl)) | (simp [*, errW_none, errW_some] <;> rfl), by repeat (first | (with_reducible first | exact HB.out | apply below_alloc | apply pw_below_drewN | apply below_drew1 | refine below_set ?_ GE602.out | refine below_set ?_ GE603.out) | exact HB.out)⟩
      rw [if_neg c25] at H
      have c25b0 : decide ((rd t610 x11_2) < 0) = false := decide_eq_false c25
      clear c25
      by_cases c27 : (rd t610 x11_2) ≥ (wrap64 (1 + t604))
      ·rw [if_pos c27] at H
       have c27b0 : decide ((wrap64 (1 + t604)) ≤ (rd t610 x11_2)) = true := decide_eq_true c27
       clear c27
       obtain rfl := Option.some.inj H
       obtain ⟨Ao28, co28, eo28⟩ := Kd.R_slice HO_9.out
       subst eo28
       have p614 : 0 ≤ (x11_2 : Int) := of_decide_eq_true (by first | (with_reducible assumption) | assumption)
       have q614 : x11_2 < (t610.length : Int) := of_decide_eq_true (by first | (with_reducible assumption) | assumption)
       obtain ⟨ad614, e614, hx614_0⟩ := Kd.at_int (Kd.R_reads' HO_9.out).2.2 x11_2 p614 q614
       cases e614
       replace p614 := eq_true p614
       replace q614 := eq_true q614
       have p615 : 0 ≤ (x11_2 : Int) := of_decide_eq_true (by first | (with_reducible assumption) | assumption)
       have q615 : x11_2 < (t610.length : Int) := of_decide_eq_true (by first | (with_reducible assumption) | assumption)
       obtain ⟨ad615, e615, hx615_0⟩ := Kd.at_int (Kd.R_reads' HO_9.out).2.2 x11_2 p615 q615
       obtain rfl : ad614 = ad615 := (by injection e615)
       replace p615 := eq_true p615
       replace q615 := eq_true q615
       go_wp2
       go_ret
       exact ⟨by first | rfl | (simp [errW_none, errW_some] <;> rfl) | (simp only [← hji5]; first | rfl | (simp [errW_none, errW_some] <;> rfl)) | (simp [*, errW_none, errW_some] <;> rfl), by repeat (first | (with_reducible first | exact HB.out | apply below_alloc | apply pw_below_drewN | apply below_drew1 | refine below_set ?_ GE602.out | refine below_set ?_ GE603.out) | exact HB.out)⟩
      rw [if_neg c27] at H
      have c27b0 : decide ((wrap64 (1 + t604)) ≤ (rd t610 x11_2)) = false := decide_eq_false c27
      clear c27
      have H' := Aside0.mk H
      clear H
      obtain ⟨Ao29, co29, eo29⟩ := Kd.R_slice HO_9.out
      subst eo29
      have p614 : 0 ≤ (x11_2 : Int) := of_decide_eq_true (by first | (with_reducible assumption) | assumption)
      have q614 : x11_2 < (t610.length : Int) := of_decide_eq_true (by first | (with_reducible assumption) | assumption)
      obtain ⟨ad614, e614, hx614_0⟩ := Kd.at_int (Kd.R_reads' HO_9.out).2.2 x11_2 p614 q614
      cases e614
      replace p614 := eq_true p614
      replace q614 := eq_true q614
      have p615 : 0 ≤ (x11_2 : Int) := of_decide_eq_true (by first | (with_reducible assumption) | assumption)
      have q615 : x11_2 < (t610.length : Int) := of_decide_eq_true (by first | (with_reducible assumption) | assumption)
      obtain ⟨ad615, e615, hx615_0⟩ := Kd.at_int (Kd.R_reads' HO_9.out).2.2 x11_2 p615 q615
      obtain rfl : ad614 = ad615 := (by injection e615)
      replace p615 := eq_true p615
      replace q615 := eq_true q615
      go_wp2
      go_roundg k2
      case measure => have := HJ9.out; have := HK2.out; omega
      case rel => exact ⟨(wrap64 (x11_2 + 1)), (by first | rfl | (simp; done) | (simp [*]; done)), H', ⟨by have := HJ9.out; have := HK2.out; omega⟩, ⟨by (with_reducible repeat (first | apply Kd.R_alloc | apply Kd.R_drewN | apply Kd.R_drew)); exact HO_9.out⟩, ⟨by (with_reducible repeat (first | refine blk_drewN ?_ _ | refine blk_drew ?_ | refine blk_alloc ?_ _)); exact BK602.out⟩, ⟨by (with_reducible repeat (first | refine blk_drewN ?_ _ | refine blk_drew ?_ | refine blk_alloc ?_ _)); exact BK603.out⟩, ⟨by repeat (first | (with_reducible first | exact HB.out | apply below_alloc | apply pw_below_drewN | apply below_drew1 | refine below_set ?_ GE602.out | refine below_set ?_ GE603.out) | exact HB.out)⟩⟩
     rw [if_neg c23] at H
     have c23b0 : decide (x11_2 < (t610.length : Int)) = false := decide_eq_false c23
     clear c23
     replace H := Option.bind_eq_some_iff.mp H
     obtain ⟨t616, A300, H⟩ := H
     replace H : ((mizmazetop_built.f k2 (wrap64 (1 + t616)) (wrap64 (1 + t604)) l1).bind fun t617 => ((mizmazetop_connects.f k2 t617).bind fun t621 => (if t621 = true then ((mizmazetop_cycle.f a2_0 (t617.length : Int)).bind fun t623 => (mizmazetop_TopMaze.l1 k2 (wrap64 (1 + t604)) t610 t623 l2_1 l2_2 ([] : List Int) 0 t617)) else ((mizmazetop_walks.f k2).bind fun t622 => (some t622))))) = some r := H
     have A30 := Aside0.mk A300
     clear A300
     replace H := Option.bind_eq_some_iff.mp H
     obtain ⟨t617, A310, H⟩ := H
     replace H : ((mizmazetop_connects.f k2 t617).bind fun t621 => (if t621 = true then ((mizmazetop_cycle.f a2_0 (t617.length : Int)).bind fun t623 => (mizmazetop_TopMaze.l1 k2 (wrap64 (1 + t604)) t610 t623 l2_1 l2_2 ([] : List Int) 0 t617)) else ((mizmazetop_walks.f k2).bind fun t622 => (some t622)))) = some r := H
     have A31 := Aside0.mk A310
     clear A310
     replace H := Option.bind_eq_some_iff.mp H
     obtain ⟨t621, A320, H⟩ := H
     replace H : (if t621 = true then ((mizmazetop_cycle.f a2_0 (t617.length : Int)).bind fun t623 => (mizmazetop_TopMaze.l1 k2 (wrap64 (1 + t604)) t610 t623 l2_1 l2_2 ([] : List Int) 0 t617)) else ((mizmazetop_walks.f k2).bind fun t622 => (some t622))) = some r := H
     have A32 := Aside0.mk A320
     clear A320
     by_cases c33 : t621 = true
     rotate_left
     ·replace c33 := Bool.eq_false_iff.mpr c33
      subst c33
      have H1 : ((mizmazetop_walks.f k2).bind fun t622 => (some t622)) = some r := by rw [if_neg (show ¬ (false = true) by decide)] at H; exact H
      clear H
      have H := H1
      clear H1
      replace H := Option.bind_eq_some_iff.mp H
      obtain ⟨t622, A1140, H⟩ := H
      replace H : (some t622) = some r := H
      have A114 := Aside0.mk A1140
      clear A1140
      obtain rfl := Option.some.inj H
      obtain ⟨Ao115, co115, eo115⟩ := Kd.R_slice HO_9.out
      subst eo115
      have hnb116 := NB602_603.out
      have hnc116 := NB603_602.out
      have hcz117_0 : wr.cell? ⟨gb602, 0, none⟩ = some (.int .i64 a0_0) := (blk_cell BK602.out 0).trans rfl
      have hcz117_1 : wr.cell? ⟨gb602, 1, none⟩ = some (.int .i64 a0_1) := (blk_cell BK602.out 1).trans rfl
      have hcz117_2 : wr.cell? ⟨gb602, 2, none⟩ = some (.int .i64 a0_2) := (blk_cell BK602.out 2).trans rfl
      have hfz117_0 := blk_frozen BK602.out 0
      have hfz117_1 := blk_frozen BK602.out 1
      have hfz117_2 := blk_frozen BK602.out 2
      go_wp2_with (first | ((with_reducible refine gate_callee (f := 27) rfl ?_); refine goesL_ (some 69) rfl rfl Try.func27 (by kernel_rfl) rfl #[.int .i64 a0_2, .int .i64 (wrap64 (1 + t609))] rfl (by (try simp only [List.map_toArray, List.map_cons, List.map_nil]); first | done | rfl | (simp only [List.length_drop, List.length_take]; rfl)) ?_; (with_reducible refine (mizmazetop_cycle.calls a0_2 (wrap64 (1 + t609)) t616 _ A30.out).mono ?_); rintro e w' ⟨rfl, ⟨nd, rfl⟩⟩; refine ⟨_, rfl, ?_⟩; (try (rw [drewN_self wr]; generalize hq_ : World.drewN wr _ = wr; have n0_ : Aside0 (Kd.R (Kd.int .i64) 3 wr w.heap.size (fun _ => True) (.slice Ao115 t610.length co115) t610) := ⟨by rw [← hq_]; exact (by (with_reducible repeat (first | apply Kd.R_alloc | apply Kd.R_drewN | apply Kd.R_drew)); exact HO_9.out)⟩; have n1_ : Aside0 (wr.heap[gb602]? = some (.cells #[.int .i64 a0_0, .int .i64 a0_1, .int .i64 a0_2] 50 (0, 0))) := ⟨by rw [← hq_]; exact (by (with_reducible repeat (first | refine blk_drewN ?_ _ | refine blk_drew ?_ | refine blk_alloc ?_ _)); exact BK602.out)⟩; have n2_ : Aside0 (wr.heap[gb603]? = some (.cells #[.int .i64 a2_0, .slice A2_1 l2_1.length c2_1, .slice A2_2 l2_2.length c2_2] 52 (0, 0))) := ⟨by rw [← hq_]; exact (by (with_reducible repeat (first | refine blk_drewN ?_ _ | refine blk_drew ?_ | refine blk_alloc ?_ _)); exact BK603.out)⟩; have n3_ : Aside0 (Below w.heap.size w wr) := ⟨by rw [← hq_]; exact (by repeat (first | (with_reducible first | exact HB.out | apply below_alloc | apply pw_below_drewN | apply below_drew1 | refine below_set ?_ GE602.out | refine below_set ?_ GE603.out) | exact HB.out))⟩; clear HO_9 BK602 BK603 HB hq_; have HO_9 := n0_; have BK602 := n1_; have BK603 := n2_; have HB := n3_; clear n0_ n1_ n2_ n3_))) | ((with_reducible refine gate_callee (f := 28) rfl ?_); refine goesL_ (some 73) rfl rfl Try.func28 (by kernel_rfl) rfl #[.int .i64 (wrap64 (1 + t616)), .int .i64 (wrap64 (1 + t604)), .slice A1 l1.length c1] rfl (by (try simp only [List.map_toArray, List.map_cons, List.map_nil]); first | done | rfl | (simp only [List.length_drop, List.length_take]; rfl)) ?_; (with_reducible refine (mizmazetop_built.calls k2 (wrap64 (1 + t616)) (wrap64 (1 + t604)) _ _ l1 t617 _ ?side1 ?side2 A31.out).mono ?_); (case side1 => repeat (first | exact (Kd.C_below HR1.out HB.out) | (with_reducible refine Kd.C_alloc ?_ _) | (with_reducible refine Kd.C_drewN ?_ _) | (with_reducible refine Kd.C_drew ?_))); (case side2 => exact HC1.out); rintro e w118 ⟨v618, rfl, ho0, hb⟩; refine ⟨_, rfl, ?_⟩; have n0_ := Aside0.mk (Kd.R_below (by (with_reducible repeat (first | apply Kd.R_alloc | apply Kd.R_drewN | apply Kd.R_drew)); exact HO_9.out) hb); have n1_ := Aside0.mk (Kd.N_lower (Kd.N_mono (ok' := fun k_ => some k_ ≠ (.slice Ao115 t610.length co115 : Value).ownBlock ∧ k_ ≠ gb602 ∧ k_ ≠ gb603) (Kd.S_N (Kd.S_bound ho0)) (fun k_ hk_ => ⟨(Kd.fresh' (Kd.R_lt (by (with_reducible repeat (first | apply Kd.R_alloc | apply Kd.R_drewN | apply Kd.R_drew)); exact HO_9.out)) k_ hk_.2.1), (Kd.freshB (g := gb602) (o := .cells #[.int .i64 a0_0, .int .i64 a0_1, .int .i64 a0_2] 50 (0, 0)) (by (with_reducible repeat (first | refine blk_drewN ?_ _ | refine blk_drew ?_ | refine blk_alloc ?_ _)); exact BK602.out) k_ hk_.2.1), (Kd.freshB (g := gb603) (o := .cells #[.int .i64 a2_0, .slice A2_1 l2_1.length c2_1, .slice A2_2 l2_2.length c2_2] 52 (0, 0)) (by (with_reducible repeat (first | refine blk_drewN ?_ _ | refine blk_drew ?_ | refine blk_alloc ?_ _)); exact BK603.out) k_ hk_.2.1)⟩)) (below_size (by repeat (first | (with_reducible first | exact HB.out | apply below_alloc | apply pw_below_drewN | apply below_drew1 | refine below_set ?_ GE602.out | refine below_set ?_ GE603.out) | exact HB.out)))); have n2_ := Aside0.mk (blk_below (g := gb602) (o := .cells #[.int .i64 a0_0, .int .i64 a0_1, .int .i64 a0_2] 50 (0, 0)) (by (with_reducible repeat (first | refine blk_drewN ?_ _ | refine blk_drew ?_ | refine blk_alloc ?_ _)); exact BK602.out) hb); have n3_ := Aside0.mk (blk_below (g := gb603) (o := .cells #[.int .i64 a2_0, .slice A2_1 l2_1.length c2_1, .slice A2_2 l2_2.length c2_2] 52 (0, 0)) (by (with_reducible repeat (first | refine blk_drewN ?_ _ | refine blk_drew ?_ | refine blk_alloc ?_ _)); exact BK603.out) hb); have n4_ := Aside0.mk (below_step (by repeat (first | (with_reducible first | exact HB.out | apply below_alloc | apply pw_below_drewN | apply below_drew1 | refine below_set ?_ GE602.out | refine below_set ?_ GE603.out) | exact HB.out)) hb); clear HO_9; clear BK602; clear BK603; clear HB; have HO_9 := n0_; have HO619 := n1_; have BK602 := n2_; have BK603 := n3_; have HB := n4_; clear n0_ n1_ n2_ n3_ n4_; (try clear hb); (try clear hb2); (try clear hk); (try clear hi); (try clear ho0)) | ((with_reducible refine gate_dst (N := 12) rfl ?_); (try (refine gate_guard (by rfl) ?_; dsimp only)); refine box_event ?hg (N := 12) ?hd (cs := #[.slice none 0 0]) (t := 38) ?hr ?_; (case hd => rfl); (case hg => rfl); (case hr => first | (go_simp; done) | (go_simp; rfl)); intro gb620 hg w119 hbox hb; have n0_ := Aside0.mk (Kd.R_below (by (with_reducible repeat (first | apply Kd.R_alloc | apply Kd.R_drewN | apply Kd.R_drew)); exact HO_9.out) hb); have n1_ := Aside0.mk (Kd.N_below (Kd.N_elderB (by (with_reducible repeat (first | apply Kd.N_alloc | apply Kd.N_drewN | apply Kd.N_drew)); exact HO619.out) gb620 (Nat.le_of_eq hg.symm)) hb); have n2_ := Aside0.mk (blk_below (g := gb602) (o := .cells #[.int .i64 a0_0, .int .i64 a0_1, .int .i64 a0_2] 50 (0, 0)) (by (with_reducible repeat (first | refine blk_drewN ?_ _ | refine blk_drew ?_ | refine blk_alloc ?_ _)); exact BK602.out) hb); have n3_ := Aside0.mk (blk_below (g := gb603) (o := .cells #[.int .i64 a2_0, .slice A2_1 l2_1.length c2_1, .slice A2_2 l2_2.length c2_2] 52 (0, 0)) (by (with_reducible repeat (first | refine blk_drewN ?_ _ | refine blk_drew ?_ | refine blk_alloc ?_ _)); exact BK603.out) hb); have n4_ := Aside0.mk (below_step (by repeat (first | (with_reducible first | exact HB.out | apply below_alloc | apply pw_below_drewN | apply below_drew1 | refine below_set ?_ GE602.out | refine below_set ?_ GE603.out) | exact HB.out)) hb); have n5_ := Aside0.mk (hbox); have n6_ := Aside0.mk ((by rw [hg]; exact (below_size (by repeat (first | (with_reducible first | exact HB.out | apply below_alloc | apply pw_below_drewN | apply below_drew1 | refine below_set ?_ GE602.out | refine below_set ?_ GE603.out) | exact HB.out))) : w.heap.size ≤ gb620)); have n7_ := Aside0.mk ((by rw [hg]; exact (below_size (by repeat (first | (with_reducible first | exact HB.out | apply below_alloc | apply pw_below_drewN | apply below_drew1 | refine below_set ?_ GE602.out | refine below_set ?_ GE603.out) | exact HB.out))) : w.heap.size ≤ gb620)); have n8_ := Aside0.mk ((by rw [hg]; exact Nat.ne_of_lt (blk_lt (g := gb602) (o := .cells #[.int .i64 a0_0, .int .i64 a0_1, .int .i64 a0_2] 50 (0, 0)) (by (with_reducible repeat (first | refine blk_drewN ?_ _ | refine blk_drew ?_ | refine blk_alloc ?_ _)); exact BK602.out)) : gb602 ≠ gb620)); have n9_ := Aside0.mk ((by rw [hg]; exact Nat.ne_of_gt (blk_lt (g := gb602) (o := .cells #[.int .i64 a0_0, .int .i64 a0_1, .int .i64 a0_2] 50 (0, 0)) (by (with_reducible repeat (first | refine blk_drewN ?_ _ | refine blk_drew ?_ | refine blk_alloc ?_ _)); exact BK602.out)) : gb620 ≠ gb602)); have n10_ := Aside0.mk ((by rw [hg]; exact Nat.ne_of_lt (blk_lt (g := gb603) (o := .cells #[.int .i64 a2_0, .slice A2_1 l2_1.length c2_1, .slice A2_2 l2_2.length c2_2] 52 (0, 0)) (by (with_reducible repeat (first | refine blk_drewN ?_ _ | refine blk_drew ?_ | refine blk_alloc ?_ _)); exact BK603.out)) : gb603 ≠ gb620)); have n11_ := Aside0.mk ((by rw [hg]; exact Nat.ne_of_gt (blk_lt (g := gb603) (o := .cells #[.int .i64 a2_0, .slice A2_1 l2_1.length c2_1, .slice A2_2 l2_2.length c2_2] 52 (0, 0)) (by (with_reducible repeat (first | refine blk_drewN ?_ _ | refine blk_drew ?_ | refine blk_alloc ?_ _)); exact BK603.out)) : gb620 ≠ gb603)); clear HO_9; clear HO619; clear BK602; clear BK603; clear HB; have HO_9 := n0_; have HO619 := n1_; have BK602 := n2_; have BK603 := n3_; have HB := n4_; have BK620 := n5_; have GW620 := n6_; have GE620 := n7_; have NB602_620 := n8_; have NB620_602 := n9_; have NB603_620 := n10_; have NB620_603 := n11_; clear n0_ n1_ n2_ n3_ n4_ n5_ n6_ n7_ n8_ n9_ n10_ n11_; clear hb hbox hg; obtain ⟨Ao120, co120, eo120⟩ := Kd.N_slice HO619.out; subst eo120; have hnb121 := NB620_602.out; have hnc121 := NB602_620.out; have hnb122 := NB620_603.out; have hnc122 := NB603_620.out; have hcz123_0 : w119.cell? ⟨gb620, 0, none⟩ = some (.slice none 0 0) := (blk_cell BK620.out 0).trans rfl; have hfz123_0 := blk_frozen BK620.out 0) | ((with_reducible refine gate_callee (f := 29) rfl ?_); refine goesL_ (some 75) rfl rfl Try.func29 (by kernel_rfl) rfl #[.agg #[.slice Ao120 t617.length co120]] rfl (by (try simp only [List.map_toArray, List.map_cons, List.map_nil]); first | done | rfl | (simp only [List.length_drop, List.length_take]; rfl)) ?_; (with_reducible refine (mizmazetop_connects.calls k2 _ _ t617 false _ ?side1 ?side2 A32.out).mono ?_); (case side1 => refine (Kd.N_reads' (e := 40) (base := w.heap.size) (ok := fun k_ => ((some k_ ≠ (.slice Ao115 t610.length co115 : Value).ownBlock ∧ (k_ ≠ gb602 ∧ k_ ≠ gb603)) ∧ k_ ≠ gb620)) (n := t617.length) (c := co120) ?_).2.2; exact (by (with_reducible repeat (first | apply Kd.N_alloc | apply Kd.N_drewN | apply Kd.N_drew)); exact (Kd.N_mono (Kd.N_far (p := ⟨gb620, 0, none⟩) (Kd.N_mono HO619.out (fun k_ hk => (⟨hk, hk.2⟩ : _ ∧ k_ ≠ gb620))) (fun _ hk => hk.2) (.slice Ao120 t617.length co120)) (fun _ h_ => h_.1)))); (case side2 => exact (Kd.N_reads' HO619.out).2.1); rintro e w124 ⟨rfl, hb⟩; refine ⟨_, rfl, ?_⟩; have n0_ := Aside0.mk (Kd.R_below (by (with_reducible repeat (first | apply Kd.R_alloc | apply Kd.R_drewN | apply Kd.R_drew)); exact (Kd.R_mono (Kd.R_far (p := ⟨gb620, 0, none⟩) (Kd.R_types HO_9.out BK620.out (by decide)) (fun _ hk => hk.2) (.slice Ao120 t617.length co120)) (fun _ h_ => h_.1))) hb); have n1_ := Aside0.mk (Kd.N_below (by (with_reducible repeat (first | apply Kd.N_alloc | apply Kd.N_drewN | apply Kd.N_drew)); exact (Kd.N_mono (Kd.N_far (p := ⟨gb620, 0, none⟩) (Kd.N_mono HO619.out (fun k_ hk => (⟨hk, hk.2⟩ : _ ∧ k_ ≠ gb620))) (fun _ hk => hk.2) (.slice Ao120 t617.length co120)) (fun _ h_ => h_.1))) hb); have n2_ := Aside0.mk (blk_below (g := gb602) (o := .cells #[.int .i64 a0_0, .int .i64 a0_1, .int .i64 a0_2] 50 (0, 0)) (by (with_reducible repeat (first | refine blk_drewN ?_ _ | refine blk_drew ?_ | refine blk_alloc ?_ _)); refine blk_far ?_ NB602_620.out _; (with_reducible repeat (first | refine blk_drewN ?_ _ | refine blk_drew ?_ | refine blk_alloc ?_ _)); exact BK602.out) hb); have n3_ := Aside0.mk (blk_below (g := gb603) (o := .cells #[.int .i64 a2_0, .slice A2_1 l2_1.length c2_1, .slice A2_2 l2_2.length c2_2] 52 (0, 0)) (by (with_reducible repeat (first | refine blk_drewN ?_ _ | refine blk_drew ?_ | refine blk_alloc ?_ _)); refine blk_far ?_ NB603_620.out _; (with_reducible repeat (first | refine blk_drewN ?_ _ | refine blk_drew ?_ | refine blk_alloc ?_ _)); exact BK603.out) hb); have n4_ := Aside0.mk (blk_below (g := gb620) (o := .cells #[.slice Ao120 t617.length co120] 38 (0, 0)) (by (with_reducible repeat (first | refine blk_drewN ?_ _ | refine blk_drew ?_ | refine blk_alloc ?_ _)); refine blk_put (cs := #[.slice none 0 0]) ?_ 0 _ rfl; (with_reducible repeat (first | refine blk_drewN ?_ _ | refine blk_drew ?_ | refine blk_alloc ?_ _)); exact BK620.out) hb); have n5_ := Aside0.mk (below_step (by repeat (first | (with_reducible first | exact HB.out | apply below_alloc | apply pw_below_drewN | apply below_drew1 | refine below_set ?_ GE602.out | refine below_set ?_ GE603.out | refine below_set ?_ GE620.out) | exact HB.out)) hb); clear HO_9; clear HO619; clear BK602; clear BK603; clear BK620; clear HB; have HO_9 := n0_; have HO619 := n1_; have BK602 := n2_; have BK603 := n3_; have BK620 := n4_; have HB := n5_; clear n0_ n1_ n2_ n3_ n4_ n5_; (try clear hb); (try clear hb2); (try clear hk); (try clear hi)) | ((with_reducible refine gate_callee (f := 30) rfl ?_); refine goesL_ (some 77) rfl rfl Try.func30 (by kernel_rfl) rfl #[] rfl (by (try simp only [List.map_toArray, List.map_cons, List.map_nil]); first | done | rfl | (simp only [List.length_drop, List.length_take]; rfl)) ?_; (with_reducible refine (mizmazetop_walks.calls k2  t622 _ A114.out).mono ?_); rintro e w125 ⟨rfl, hb⟩; refine ⟨_, rfl, ?_⟩; have n0_ := Aside0.mk (Kd.R_below (by (with_reducible repeat (first | apply Kd.R_alloc | apply Kd.R_drewN | apply Kd.R_drew)); exact HO_9.out) hb); have n1_ := Aside0.mk (Kd.N_below (by (with_reducible repeat (first | apply Kd.N_alloc | apply Kd.N_drewN | apply Kd.N_drew)); exact HO619.out) hb); have n2_ := Aside0.mk (blk_below (g := gb602) (o := .cells #[.int .i64 a0_0, .int .i64 a0_1, .int .i64 a0_2] 50 (0, 0)) (by (with_reducible repeat (first | refine blk_drewN ?_ _ | refine blk_drew ?_ | refine blk_alloc ?_ _)); exact BK602.out) hb); have n3_ := Aside0.mk (blk_below (g := gb603) (o := .cells #[.int .i64 a2_0, .slice A2_1 l2_1.length c2_1, .slice A2_2 l2_2.length c2_2] 52 (0, 0)) (by (with_reducible repeat (first | refine blk_drewN ?_ _ | refine blk_drew ?_ | refine blk_alloc ?_ _)); exact BK603.out) hb); have n4_ := Aside0.mk (blk_below (g := gb620) (o := .cells #[.slice Ao120 t617.length co120] 38 (0, 0)) (by (with_reducible repeat (first | refine blk_drewN ?_ _ | refine blk_drew ?_ | refine blk_alloc ?_ _)); exact BK620.out) hb); have n5_ := Aside0.mk (below_step (by repeat (first | (with_reducible first | exact HB.out | apply below_alloc | apply pw_below_drewN | apply below_drew1 | refine below_set ?_ GE602.out | refine below_set ?_ GE603.out | refine below_set ?_ GE620.out) | exact HB.out)) hb); clear HO_9; clear HO619; clear BK602; clear BK603; clear BK620; clear HB; have HO_9 := n0_; have HO619 := n1_; have BK602 := n2_; have BK603 := n3_; have BK620 := n4_; have HB := n5_; clear n0_ n1_ n2_ n3_ n4_ n5_; (try clear hb); (try clear hb2); (try clear hk); (try clear hi)))
      go_ret
      exact ⟨by first | rfl | (simp [errW_none, errW_some] <;> rfl) | (simp only [← hji5]; first | rfl | (simp [errW_none, errW_some] <;> rfl)) | (simp [*, errW_none, errW_some] <;> rfl), by repeat (first | (with_reducible first | exact HB.out | apply below_alloc | apply pw_below_drewN | apply below_drew1 | refine below_set ?_ GE602.out | refine below_set ?_ GE603.out | refine below_set ?_ GE620.out) | exact HB.out)⟩
     subst c33
     have H1 : ((mizmazetop_cycle.f a2_0 (t617.length : Int)).bind fun t623 => (mizmazetop_TopMaze.l1 k2 (wrap64 (1 + t604)) t610 t623 l2_1 l2_2 ([] : List Int) 0 t617)) = some r := by rw [if_pos rfl] at H; exact H
     clear H
     have H := H1
     clear H1
     replace H := Option.bind_eq_some_iff.mp H
     obtain ⟨t623, A340, H⟩ := H
     replace H : (mizmazetop_TopMaze.l1 k2 (wrap64 (1 + t604)) t610 t623 l2_1 l2_2 ([] : List Int) 0 t617) = some r := H
     have A34 := Aside0.mk A340
     clear A340
     have HC35 := Aside0.mk H
     clear H
     obtain ⟨Ao36, co36, eo36⟩ := Kd.R_slice HO_9.out
     subst eo36
     have hnb37 := NB602_603.out
     have hnc37 := NB603_602.out
     have hcz38_0 : wr.cell? ⟨gb602, 0, none⟩ = some (.int .i64 a0_0) := (blk_cell BK602.out 0).trans rfl
     have hcz38_1 : wr.cell? ⟨gb602, 1, none⟩ = some (.int .i64 a0_1) := (blk_cell BK602.out 1).trans rfl
     have hcz38_2 : wr.cell? ⟨gb602, 2, none⟩ = some (.int .i64 a0_2) := (blk_cell BK602.out 2).trans rfl
     have hfz38_0 := blk_frozen BK602.out 0
     have hfz38_1 := blk_frozen BK602.out 1
     have hfz38_2 := blk_frozen BK602.out 2
     try go_wp2_with (first | ((with_reducible refine gate_callee (f := 27) rfl ?_); refine goesL_ (some 69) rfl rfl Try.func27 (by kernel_rfl) rfl #[.int .i64 a0_2, .int .i64 (wrap64 (1 + t609))] rfl (by (try simp only [List.map_toArray, List.map_cons, List.map_nil]); first | done | rfl | (simp only [List.length_drop, List.length_take]; rfl)) ?_; (with_reducible refine (mizmazetop_cycle.calls a0_2 (wrap64 (1 + t609)) t616 _ A30.out).mono ?_); rintro e w' ⟨rfl, ⟨nd, rfl⟩⟩; refine ⟨_, rfl, ?_⟩; (try (rw [drewN_self wr]; generalize hq_ : World.drewN wr _ = wr; have n0_ : Aside0 (Kd.R (Kd.int .i64) 3 wr w.heap.size (fun _ => True) (.slice Ao36 t610.length co36) t610) := ⟨by rw [← hq_]; exact (by (with_reducible repeat (first | apply Kd.R_alloc | apply Kd.R_drewN | apply Kd.R_drew)); exact HO_9.out)⟩; have n1_ : Aside0 (wr.heap[gb602]? = some (.cells #[.int .i64 a0_0, .int .i64 a0_1, .int .i64 a0_2] 50 (0, 0))) := ⟨by rw [← hq_]; exact (by (with_reducible repeat (first | refine blk_drewN ?_ _ | refine blk_drew ?_ | refine blk_alloc ?_ _)); exact BK602.out)⟩; have n2_ : Aside0 (wr.heap[gb603]? = some (.cells #[.int .i64 a2_0, .slice A2_1 l2_1.length c2_1, .slice A2_2 l2_2.length c2_2] 52 (0, 0))) := ⟨by rw [← hq_]; exact (by (with_reducible repeat (first | refine blk_drewN ?_ _ | refine blk_drew ?_ | refine blk_alloc ?_ _)); exact BK603.out)⟩; have n3_ : Aside0 (Below w.heap.size w wr) := ⟨by rw [← hq_]; exact (by repeat (first | (with_reducible first | exact HB.out | apply below_alloc | apply pw_below_drewN | apply below_drew1 | refine below_set ?_ GE602.out | refine below_set ?_ GE603.out) | exact HB.out))⟩; clear HO_9 BK602 BK603 HB hq_; have HO_9 := n0_; have BK602 := n1_; have BK603 := n2_; have HB := n3_; clear n0_ n1_ n2_ n3_))) | ((with_reducible refine gate_callee (f := 28) rfl ?_); refine goesL_ (some 73) rfl rfl Try.func28 (by kernel_rfl) rfl #[.int .i64 (wrap64 (1 + t616)), .int .i64 (wrap64 (1 + t604)), .slice A1 l1.length c1] rfl (by (try simp only [List.map_toArray, List.map_cons, List.map_nil]); first | done | rfl | (simp only [List.length_drop, List.length_take]; rfl)) ?_; (with_reducible refine (mizmazetop_built.calls k2 (wrap64 (1 + t616)) (wrap64 (1 + t604)) _ _ l1 t617 _ ?side1 ?side2 A31.out).mono ?_); (case side1 => repeat (first | exact (Kd.C_below HR1.out HB.out) | (with_reducible refine Kd.C_alloc ?_ _) | (with_reducible refine Kd.C_drewN ?_ _) | (with_reducible refine Kd.C_drew ?_))); (case side2 => exact HC1.out); rintro e w39 ⟨v618, rfl, ho0, hb⟩; refine ⟨_, rfl, ?_⟩; have n0_ := Aside0.mk (Kd.R_below (by (with_reducible repeat (first | apply Kd.R_alloc | apply Kd.R_drewN | apply Kd.R_drew)); exact HO_9.out) hb); have n1_ := Aside0.mk (Kd.N_lower (Kd.N_mono (ok' := fun k_ => some k_ ≠ (.slice Ao36 t610.length co36 : Value).ownBlock ∧ k_ ≠ gb602 ∧ k_ ≠ gb603) (Kd.S_N (Kd.S_bound ho0)) (fun k_ hk_ => ⟨(Kd.fresh' (Kd.R_lt (by (with_reducible repeat (first | apply Kd.R_alloc | apply Kd.R_drewN | apply Kd.R_drew)); exact HO_9.out)) k_ hk_.2.1), (Kd.freshB (g := gb602) (o := .cells #[.int .i64 a0_0, .int .i64 a0_1, .int .i64 a0_2] 50 (0, 0)) (by (with_reducible repeat (first | refine blk_drewN ?_ _ | refine blk_drew ?_ | refine blk_alloc ?_ _)); exact BK602.out) k_ hk_.2.1), (Kd.freshB (g := gb603) (o := .cells #[.int .i64 a2_0, .slice A2_1 l2_1.length c2_1, .slice A2_2 l2_2.length c2_2] 52 (0, 0)) (by (with_reducible repeat (first | refine blk_drewN ?_ _ | refine blk_drew ?_ | refine blk_alloc ?_ _)); exact BK603.out) k_ hk_.2.1)⟩)) (below_size (by repeat (first | (with_reducible first | exact HB.out | apply below_alloc | apply pw_below_drewN | apply below_drew1 | refine below_set ?_ GE602.out | refine below_set ?_ GE603.out) | exact HB.out)))); have n2_ := Aside0.mk (blk_below (g := gb602) (o := .cells #[.int .i64 a0_0, .int .i64 a0_1, .int .i64 a0_2] 50 (0, 0)) (by (with_reducible repeat (first | refine blk_drewN ?_ _ | refine blk_drew ?_ | refine blk_alloc ?_ _)); exact BK602.out) hb); have n3_ := Aside0.mk (blk_below (g := gb603) (o := .cells #[.int .i64 a2_0, .slice A2_1 l2_1.length c2_1, .slice A2_2 l2_2.length c2_2] 52 (0, 0)) (by (with_reducible repeat (first | refine blk_drewN ?_ _ | refine blk_drew ?_ | refine blk_alloc ?_ _)); exact BK603.out) hb); have n4_ := Aside0.mk (below_step (by repeat (first | (with_reducible first | exact HB.out | apply below_alloc | apply pw_below_drewN | apply below_drew1 | refine below_set ?_ GE602.out | refine below_set ?_ GE603.out) | exact HB.out)) hb); clear HO_9; clear BK602; clear BK603; clear HB; have HO_9 := n0_; have HO619 := n1_; have BK602 := n2_; have BK603 := n3_; have HB := n4_; clear n0_ n1_ n2_ n3_ n4_; (try clear hb); (try clear hb2); (try clear hk); (try clear hi); (try clear ho0)) | ((with_reducible refine gate_dst (N := 12) rfl ?_); (try (refine gate_guard (by rfl) ?_; dsimp only)); refine box_event ?hg (N := 12) ?hd (cs := #[.slice none 0 0]) (t := 38) ?hr ?_; (case hd => rfl); (case hg => rfl); (case hr => first | (go_simp; done) | (go_simp; rfl)); intro gb620 hg w40 hbox hb; have n0_ := Aside0.mk (Kd.R_below (by (with_reducible repeat (first | apply Kd.R_alloc | apply Kd.R_drewN | apply Kd.R_drew)); exact HO_9.out) hb); have n1_ := Aside0.mk (Kd.N_below (Kd.N_elderB (by (with_reducible repeat (first | apply Kd.N_alloc | apply Kd.N_drewN | apply Kd.N_drew)); exact HO619.out) gb620 (Nat.le_of_eq hg.symm)) hb); have n2_ := Aside0.mk (blk_below (g := gb602) (o := .cells #[.int .i64 a0_0, .int .i64 a0_1, .int .i64 a0_2] 50 (0, 0)) (by (with_reducible repeat (first | refine blk_drewN ?_ _ | refine blk_drew ?_ | refine blk_alloc ?_ _)); exact BK602.out) hb); have n3_ := Aside0.mk (blk_below (g := gb603) (o := .cells #[.int .i64 a2_0, .slice A2_1 l2_1.length c2_1, .slice A2_2 l2_2.length c2_2] 52 (0, 0)) (by (with_reducible repeat (first | refine blk_drewN ?_ _ | refine blk_drew ?_ | refine blk_alloc ?_ _)); exact BK603.out) hb); have n4_ := Aside0.mk (below_step (by repeat (first | (with_reducible first | exact HB.out | apply below_alloc | apply pw_below_drewN | apply below_drew1 | refine below_set ?_ GE602.out | refine below_set ?_ GE603.out) | exact HB.out)) hb); have n5_ := Aside0.mk (hbox); have n6_ := Aside0.mk ((by rw [hg]; exact (below_size (by repeat (first | (with_reducible first | exact HB.out | apply below_alloc | apply pw_below_drewN | apply below_drew1 | refine below_set ?_ GE602.out | refine below_set ?_ GE603.out) | exact HB.out))) : w.heap.size ≤ gb620)); have n7_ := Aside0.mk ((by rw [hg]; exact (below_size (by repeat (first | (with_reducible first | exact HB.out | apply below_alloc | apply pw_below_drewN | apply below_drew1 | refine below_set ?_ GE602.out | refine below_set ?_ GE603.out) | exact HB.out))) : w.heap.size ≤ gb620)); have n8_ := Aside0.mk ((by rw [hg]; exact Nat.ne_of_lt (blk_lt (g := gb602) (o := .cells #[.int .i64 a0_0, .int .i64 a0_1, .int .i64 a0_2] 50 (0, 0)) (by (with_reducible repeat (first | refine blk_drewN ?_ _ | refine blk_drew ?_ | refine blk_alloc ?_ _)); exact BK602.out)) : gb602 ≠ gb620)); have n9_ := Aside0.mk ((by rw [hg]; exact Nat.ne_of_gt (blk_lt (g := gb602) (o := .cells #[.int .i64 a0_0, .int .i64 a0_1, .int .i64 a0_2] 50 (0, 0)) (by (with_reducible repeat (first | refine blk_drewN ?_ _ | refine blk_drew ?_ | refine blk_alloc ?_ _)); exact BK602.out)) : gb620 ≠ gb602)); have n10_ := Aside0.mk ((by rw [hg]; exact Nat.ne_of_lt (blk_lt (g := gb603) (o := .cells #[.int .i64 a2_0, .slice A2_1 l2_1.length c2_1, .slice A2_2 l2_2.length c2_2] 52 (0, 0)) (by (with_reducible repeat (first | refine blk_drewN ?_ _ | refine blk_drew ?_ | refine blk_alloc ?_ _)); exact BK603.out)) : gb603 ≠ gb620)); have n11_ := Aside0.mk ((by rw [hg]; exact Nat.ne_of_gt (blk_lt (g := gb603) (o := .cells #[.int .i64 a2_0, .slice A2_1 l2_1.length c2_1, .slice A2_2 l2_2.length c2_2] 52 (0, 0)) (by (with_reducible repeat (first | refine blk_drewN ?_ _ | refine blk_drew ?_ | refine blk_alloc ?_ _)); exact BK603.out)) : gb620 ≠ gb603)); clear HO_9; clear HO619; clear BK602; clear BK603; clear HB; have HO_9 := n0_; have HO619 := n1_; have BK602 := n2_; have BK603 := n3_; have HB := n4_; have BK620 := n5_; have GW620 := n6_; have GE620 := n7_; have NB602_620 := n8_; have NB620_602 := n9_; have NB603_620 := n10_; have NB620_603 := n11_; clear n0_ n1_ n2_ n3_ n4_ n5_ n6_ n7_ n8_ n9_ n10_ n11_; clear hb hbox hg; obtain ⟨Ao41, co41, eo41⟩ := Kd.N_slice HO619.out; subst eo41; have hnb42 := NB620_602.out; have hnc42 := NB602_620.out; have hnb43 := NB620_603.out; have hnc43 := NB603_620.out; have hcz44_0 : w40.cell? ⟨gb620, 0, none⟩ = some (.slice none 0 0) := (blk_cell BK620.out 0).trans rfl; have hfz44_0 := blk_frozen BK620.out 0) | ((with_reducible refine gate_callee (f := 29) rfl ?_); refine goesL_ (some 75) rfl rfl Try.func29 (by kernel_rfl) rfl #[.agg #[.slice Ao41 t617.length co41]] rfl (by (try simp only [List.map_toArray, List.map_cons, List.map_nil]); first | done | rfl | (simp only [List.length_drop, List.length_take]; rfl)) ?_; (with_reducible refine (mizmazetop_connects.calls k2 _ _ t617 true _ ?side1 ?side2 A32.out).mono ?_); (case side1 => refine (Kd.N_reads' (e := 40) (base := w.heap.size) (ok := fun k_ => ((some k_ ≠ (.slice Ao36 t610.length co36 : Value).ownBlock ∧ (k_ ≠ gb602 ∧ k_ ≠ gb603)) ∧ k_ ≠ gb620)) (n := t617.length) (c := co41) ?_).2.2; exact (by (with_reducible repeat (first | apply Kd.N_alloc | apply Kd.N_drewN | apply Kd.N_drew)); exact (Kd.N_mono (Kd.N_far (p := ⟨gb620, 0, none⟩) (Kd.N_mono HO619.out (fun k_ hk => (⟨hk, hk.2⟩ : _ ∧ k_ ≠ gb620))) (fun _ hk => hk.2) (.slice Ao41 t617.length co41)) (fun _ h_ => h_.1)))); (case side2 => exact (Kd.N_reads' HO619.out).2.1); rintro e w45 ⟨rfl, hb⟩; refine ⟨_, rfl, ?_⟩; have n0_ := Aside0.mk (Kd.R_below (by (with_reducible repeat (first | apply Kd.R_alloc | apply Kd.R_drewN | apply Kd.R_drew)); exact (Kd.R_mono (Kd.R_far (p := ⟨gb620, 0, none⟩) (Kd.R_types HO_9.out BK620.out (by decide)) (fun _ hk => hk.2) (.slice Ao41 t617.length co41)) (fun _ h_ => h_.1))) hb); have n1_ := Aside0.mk (Kd.N_below (by (with_reducible repeat (first | apply Kd.N_alloc | apply Kd.N_drewN | apply Kd.N_drew)); exact (Kd.N_mono (Kd.N_far (p := ⟨gb620, 0, none⟩) (Kd.N_mono HO619.out (fun k_ hk => (⟨hk, hk.2⟩ : _ ∧ k_ ≠ gb620))) (fun _ hk => hk.2) (.slice Ao41 t617.length co41)) (fun _ h_ => h_.1))) hb); have n2_ := Aside0.mk (blk_below (g := gb602) (o := .cells #[.int .i64 a0_0, .int .i64 a0_1, .int .i64 a0_2] 50 (0, 0)) (by (with_reducible repeat (first | refine blk_drewN ?_ _ | refine blk_drew ?_ | refine blk_alloc ?_ _)); refine blk_far ?_ NB602_620.out _; (with_reducible repeat (first | refine blk_drewN ?_ _ | refine blk_drew ?_ | refine blk_alloc ?_ _)); exact BK602.out) hb); have n3_ := Aside0.mk (blk_below (g := gb603) (o := .cells #[.int .i64 a2_0, .slice A2_1 l2_1.length c2_1, .slice A2_2 l2_2.length c2_2] 52 (0, 0)) (by (with_reducible repeat (first | refine blk_drewN ?_ _ | refine blk_drew ?_ | refine blk_alloc ?_ _)); refine blk_far ?_ NB603_620.out _; (with_reducible repeat (first | refine blk_drewN ?_ _ | refine blk_drew ?_ | refine blk_alloc ?_ _)); exact BK603.out) hb); have n4_ := Aside0.mk (blk_below (g := gb620) (o := .cells #[.slice Ao41 t617.length co41] 38 (0, 0)) (by (with_reducible repeat (first | refine blk_drewN ?_ _ | refine blk_drew ?_ | refine blk_alloc ?_ _)); refine blk_put (cs := #[.slice none 0 0]) ?_ 0 _ rfl; (with_reducible repeat (first | refine blk_drewN ?_ _ | refine blk_drew ?_ | refine blk_alloc ?_ _)); exact BK620.out) hb); have n5_ := Aside0.mk (below_step (by repeat (first | (with_reducible first | exact HB.out | apply below_alloc | apply pw_below_drewN | apply below_drew1 | refine below_set ?_ GE602.out | refine below_set ?_ GE603.out | refine below_set ?_ GE620.out) | exact HB.out)) hb); clear HO_9; clear HO619; clear BK602; clear BK603; clear BK620; clear HB; have HO_9 := n0_; have HO619 := n1_; have BK602 := n2_; have BK603 := n3_; have BK620 := n4_; have HB := n5_; clear n0_ n1_ n2_ n3_ n4_ n5_; (try clear hb); (try clear hb2); (try clear hk); (try clear hi)))
     have n0_ := Aside0.mk (Kd.R_drew HO_9.out)
     have n1_ := Aside0.mk (Kd.N_drew HO619.out)
     have n2_ := Aside0.mk (blk_drew BK602.out)
     have n3_ := Aside0.mk (blk_drew BK603.out)
     have n4_ := Aside0.mk (blk_drew BK620.out)
     have n5_ := Aside0.mk (below_drew1 HB.out)
     clear HO_9
     clear HO619
     clear BK602
     clear BK603
     clear BK620
     clear HB
     have HO_9 := n0_
     have HO619 := n1_
     have BK602 := n2_
     have BK603 := n3_
     have BK620 := n4_
     have HB := n5_
     clear n0_ n1_ n2_ n3_ n4_ n5_
     refine start_ (n := 13) (S := fun w' => w'.cell? ⟨gb603, 0, none⟩ = some (.int .i64 a2_0) ∧ w'.cell? ⟨gb603, 1, none⟩ = some (.slice A2_1 l2_1.length c2_1) ∧ w'.cell? ⟨gb603, 2, none⟩ = some (.slice A2_2 l2_2.length c2_2) ∧ w'.cell? ⟨gb620, 0, none⟩ = some (.slice Ao41 t617.length co41)) (ds := []) #[false, false, false, false, false, false, false, false, false, false, false, false, false] (by kernel_rfl) rfl rfl ⟨(blk_cell BK603.out 0).trans rfl, (blk_cell BK603.out 1).trans rfl, (blk_cell BK603.out 2).trans rfl, (blk_cell BK620.out 0).trans rfl⟩ (fun hHeld => ?_); refine with_tabW mizmazetop_TopMaze.tab14 mizmazetop_TopMaze.bits14 (fun HT_ HW_ => ?_)
     generalize w45.drew = w46 at HO_9 HO619 BK602 BK603 BK620 HB hHeld ⊢
     refine pv_ 0 78 ttm10 HT_ ?_
     refine pv_ 2 80 ttm11 HT_ ?_
     refine pv_ 6 84 ttm12 HT_ ?_
     refine pv_ 8 86 ttm13 HT_ ?_
     refine take_ (i := 1) (N := some 79) (v := ?_) (a' := ?_) ttm14 rfl rfl (take_ofW HT_.out HW_.out (by kernel_rfl)) (fun _ _ _ h => h) (Or.inl ⟨by rfl, ?_⟩) hHeld ?_ ?_
     rotate_left
     ·rintro w' ⟨s0, s1, s2, s3⟩
      go_simp
      with_reducible rfl
     rotate_left
     ·simp only [Act.put, List.setIfInBounds_toArray, List.set_cons_zero, List.set_cons_succ, i64_w, i32_w]
      rfl
     refine take_ (i := 3) (N := some 81) (v := ?_) (a' := ?_) ttm15 rfl rfl (take_ofW HT_.out HW_.out (by kernel_rfl)) (fun _ _ _ h => h) (Or.inl ⟨by rfl, ?_⟩) hHeld ?_ ?_
     rotate_left
     ·rintro w' ⟨s0, s1, s2, s3⟩
      go_simp
      with_reducible rfl
     rotate_left
     ·simp only [Act.put, List.setIfInBounds_toArray, List.set_cons_zero, List.set_cons_succ, i64_w, i32_w]
      rfl
     refine pv_ 4 82 ttm16 HT_ ?_
     refine take_ (i := 7) (N := some 85) (v := ?_) (a' := ?_) ttm17 rfl rfl (take_ofW HT_.out HW_.out (by kernel_rfl)) (fun _ _ _ h => h) (Or.inl ⟨by rfl, ?_⟩) hHeld ?_ ?_
     rotate_left
     ·rintro w' ⟨s0, s1, s2, s3⟩
      go_simp
      with_reducible rfl
     rotate_left
     ·simp only [Act.put, List.setIfInBounds_toArray, List.set_cons_zero, List.set_cons_succ, i64_w, i32_w]
      rfl
     refine take_ (i := 9) (N := some 87) (v := ?_) (a' := ?_) ttm18 rfl rfl (take_ofW HT_.out HW_.out (by kernel_rfl)) (fun _ _ _ h => h) (Or.inl ⟨by rfl, ?_⟩) hHeld ?_ ?_
     rotate_left
     ·rintro w' ⟨s0, s1, s2, s3⟩
      go_simp
      with_reducible rfl
     rotate_left
     ·simp only [Act.put, List.setIfInBounds_toArray, List.set_cons_zero, List.set_cons_succ, i64_w, i32_w]
      rfl
     refine one_ (i := 5) (N := some 83) ttm19 rfl rfl (one_of HT_.out (by kernel_rfl)) (by decide) (fun K hK => ?_)
     refine goes_ Try.func27 (by kernel_rfl) rfl #[.int .i64 a2_0, .int .i64 (t617.length : Int)] (by rfl) rfl rfl (by (try simp only [List.map_toArray, List.map_cons, List.map_nil]); first | done | rfl | (simp only [List.length_drop, List.length_take]; rfl)) ?_
     with_reducible refine (mizmazetop_cycle.calls a2_0 (t617.length : Int) t623 _ A34.out).mono ?_
     rintro e w' ⟨rfl, ⟨nd, rfl⟩⟩
     refine ⟨_, rfl, ?_⟩
     refine hK.out _ _ ⟨(blk_cell BK603.out 0).trans rfl, (blk_cell BK603.out 1).trans rfl, (blk_cell BK603.out 2).trans rfl, (blk_cell BK620.out 0).trans rfl⟩ (fun hHeld => ?_)
     clear hK K
     refine norm_ (a' := ?_) ?_ ?_
     rotate_left
     ·show Act.put _ (some 83) _ = _
      simp only [Act.put, List.setIfInBounds_toArray, List.set_cons_zero, List.set_cons_succ, i64_w, i32_w]
      rfl
     refine pv_ 10 13 ttm20 HT_ ?_
     refine pv_ 11 14 ttm21 HT_ ?_
     refine pv_ 12 15 ttm22 HT_ ?_
     refine done_ (done_of HT_.out (by kernel_rfl)) ?_
     go_upto_block 2 with (fail)
     go_cut [16] (fun v16 wc => ∃ (kq : Nat) (x16_34 : List Int), Aside0 (mizmazetop_TopMaze.j3 kq (wrap64 (1 + t604)) t610 t623 l2_2 x16_34 ([] : List Int) t617 = some r) ∧ Aside0 (kq ≤ k2) ∧ Aside0 (Kd.R (Kd.int .i64) 3 wc w.heap.size (fun k_ => some k_ ≠ (v16 : Value).ownBlock ∧ some k_ ≠ ((.slice none 0 0) : Value).ownBlock) (.slice Ao36 t610.length co36) t610) ∧ Aside0 (Kd.R (Kd.int .i64) 3 wc w.heap.size (fun k_ => some k_ ≠ ((.slice Ao36 t610.length co36) : Value).ownBlock ∧ some k_ ≠ ((.slice none 0 0) : Value).ownBlock) v16 x16_34) ∧ Aside0 (Kd.R (Kd.int .i64) 3 wc w.heap.size (fun k_ => some k_ ≠ ((.slice Ao36 t610.length co36) : Value).ownBlock ∧ some k_ ≠ (v16 : Value).ownBlock) (.slice none 0 0) ([] : List Int)) ∧ Aside0 (Kd.N (Kd.slice 44 k44) 40 wc w.heap.size (fun k_ => some k_ ≠ ((.slice Ao36 t610.length co36) : Value).ownBlock ∧ some k_ ≠ (v16 : Value).ownBlock ∧ some k_ ≠ ((.slice none 0 0) : Value).ownBlock ∧ k_ ≠ gb602 ∧ k_ ≠ gb603 ∧ k_ ≠ gb620) (.slice Ao41 t617.length co41) t617) ∧ Aside0 (wc.heap[gb602]? = some (.cells #[.int .i64 a0_0, .int .i64 a0_1, .int .i64 a0_2] 50 (0, 0))) ∧ Aside0 (wc.heap[gb603]? = some (.cells #[.int .i64 a2_0, (.slice A2_1 l2_1.length c2_1), (.slice A2_2 l2_2.length c2_2)] 52 (0, 0))) ∧ Aside0 (wc.heap[gb620]? = some (.cells #[(.slice Ao41 t617.length co41)] 38 (0, 0))) ∧ Aside0 (Below w.heap.size w wc))
     case first =>
      have H := HC35.out
      clear HC35
      have H' := Aside0.mk H
      clear H
      go_wp2
      go_loopg [16, 18] k2 (fun kq v16 v18 w' => ∃ (x16_3 : List Int) (x18_3 : Int), v18 = .int .i64 x18_3 ∧ Aside0 (mizmazetop_TopMaze.l1 kq (wrap64 (1 + t604)) t610 t623 l2_1 l2_2 x16_3 x18_3 t617 = some r) ∧ Aside0 (kq ≤ k2) ∧ Aside0 (Kd.R (Kd.int .i64) 3 w' w.heap.size (fun k_ => some k_ ≠ (v16 : Value).ownBlock) (.slice Ao36 t610.length co36) t610) ∧ Aside0 (Kd.R (Kd.int .i64) 3 w' w.heap.size (fun k_ => some k_ ≠ ((.slice Ao36 t610.length co36) : Value).ownBlock) v16 x16_3) ∧ Aside0 (Kd.N (Kd.slice 44 k44) 40 w' w.heap.size (fun k_ => some k_ ≠ ((.slice Ao36 t610.length co36) : Value).ownBlock ∧ some k_ ≠ (v16 : Value).ownBlock ∧ k_ ≠ gb602 ∧ k_ ≠ gb603 ∧ k_ ≠ gb620) (.slice Ao41 t617.length co41) t617) ∧ Aside0 (w'.heap[gb602]? = some (.cells #[.int .i64 a0_0, .int .i64 a0_1, .int .i64 a0_2] 50 (0, 0))) ∧ Aside0 (w'.heap[gb603]? = some (.cells #[.int .i64 a2_0, (.slice A2_1 l2_1.length c2_1), (.slice A2_2 l2_2.length c2_2)] 52 (0, 0))) ∧ Aside0 (w'.heap[gb620]? = some (.cells #[(.slice Ao41 t617.length co41)] 38 (0, 0))) ∧ Aside0 (Below w.heap.size w w'))
      case atStart => exact ⟨(([] : List Int)), (0), (by first | rfl | (simp; done) | (simp [*]; done)), H', ⟨Nat.le_refl _⟩, ⟨by (with_reducible repeat (first | apply Kd.R_alloc | apply Kd.R_drewN | apply Kd.R_drew)); exact Kd.R_mono HO_9.out (fun _ hk => (by simp [Value.ownBlock]))⟩, ⟨by first | exact Kd.R_nil _ _ _ _ _ | exact Kd.N_nil _ _ _ _ _ | exact Kd.V_nil _ _ _ _ _ | exact Kd.Q_nil _ _ _ _ _ | exact Kd.S_nil _ _ _ _ _⟩, ⟨by (with_reducible repeat (first | apply Kd.N_alloc | apply Kd.N_drewN | apply Kd.N_drew)); exact Kd.N_mono HO619.out (fun _ hk => ⟨hk.1.1, ⟨(by simp [Value.ownBlock]), ⟨hk.1.2.1, ⟨hk.1.2.2, hk.2⟩⟩⟩⟩)⟩, ⟨by (with_reducible repeat (first | refine blk_drewN ?_ _ | refine blk_drew ?_ | refine blk_alloc ?_ _)); exact BK602.out⟩, ⟨by (with_reducible repeat (first | refine blk_drewN ?_ _ | refine blk_drew ?_ | refine blk_alloc ?_ _)); exact BK603.out⟩, ⟨by (with_reducible repeat (first | refine blk_drewN ?_ _ | refine blk_drew ?_ | refine blk_alloc ?_ _)); exact BK620.out⟩, ⟨by repeat (first | (with_reducible first | exact HB.out | apply below_alloc | apply pw_below_drewN | apply below_drew1 | refine below_set ?_ GE602.out | refine below_set ?_ GE603.out | refine below_set ?_ GE620.out) | exact HB.out)⟩⟩
      case round =>
       clear H'
       try clear c1
       try clear c2
       try clear p2
       try clear c3
       try clear c4
       try clear c6
       try clear c6b0
       try clear p6
       try clear q6
       try clear hx6
       try clear qi6
       try clear c7
       try clear c7b0
       try clear c9
       try clear c13
       try clear c20
       try clear c20b0
       try clear c20b1
       try clear c22
       try clear c23
       try clear c23b0
       try clear c24
       try clear c24b0
       try clear c25
       try clear c25b0
       try clear c26
       try clear c27
       try clear c27b0
       try clear c28
       try clear c29
       try clear c33
       try clear c37
       try clear c42
       try clear c43
       try clear hcz14_0
       try clear hcz14_1
       try clear hcz14_2
       try clear hcz38_0
       try clear hcz38_1
       try clear hcz38_2
       try clear hcz44_0
       try clear hfz14_0
       try clear hfz14_1
       try clear hfz14_2
       try clear hfz38_0
       try clear hfz38_1
       try clear hfz38_2
       try clear hfz44_0
       try clear hx608_0
       try clear hx614_0
       try clear hx615_0
       try clear p2
       try clear p6
       try clear p608
       try clear p614
       try clear p615
       try clear q6
       try clear q608
       try clear q614
       try clear q615
       obtain ⟨x16_3, x18_3, rfl, HA, HK3, HO_9, HO_16, HO_621000, BK602, BK603, BK620, HB⟩ := hrel
       cases gk with
       | zero => exact absurd HA.out (by simp [mizmazetop_TopMaze.l1])
       | succ k3 =>
        have H := HA.out
        clear HA
        simp only [mizmazetop_TopMaze.l1] at H
        by_cases c47 : x18_3 < (l2_1.length : Int)
        rotate_left
        ·rw [if_neg c47] at H
         have c47b0 : decide (x18_3 < (l2_1.length : Int)) = false := decide_eq_false c47
         clear c47
         (first | rw [c47b0] | (simp only [i64_w, i32_w]; rw [c47b0]) | skip)
         have H' := Aside0.mk H
         clear H
         go_wp2
         go_meet
         case rel => exact ⟨_, (x16_3), H', ⟨by have := HJ9.out; have := HK2.out; have := HK3.out; first | omega | exact Nat.le_refl _⟩, ⟨by (with_reducible repeat (first | apply Kd.R_alloc | apply Kd.R_drewN | apply Kd.R_drew)); exact Kd.R_mono HO_9.out (fun _ hk => ⟨hk, (by simp [Value.ownBlock])⟩)⟩, ⟨by (with_reducible repeat (first | apply Kd.R_alloc | apply Kd.R_drewN | apply Kd.R_drew)); exact Kd.R_mono HO_16.out (fun _ hk => ⟨hk, (by simp [Value.ownBlock])⟩)⟩, ⟨by first | exact Kd.R_nil _ _ _ _ _ | exact Kd.N_nil _ _ _ _ _ | exact Kd.V_nil _ _ _ _ _ | exact Kd.Q_nil _ _ _ _ _ | exact Kd.S_nil _ _ _ _ _⟩, ⟨by (with_reducible repeat (first | apply Kd.N_alloc | apply Kd.N_drewN | apply Kd.N_drew)); exact Kd.N_mono HO_621000.out (fun _ hk => ⟨hk.1, ⟨hk.2.1, ⟨(by simp [Value.ownBlock]), ⟨hk.2.2.1, ⟨hk.2.2.2.1, hk.2.2.2.2⟩⟩⟩⟩⟩)⟩, ⟨by (with_reducible repeat (first | refine blk_drewN ?_ _ | refine blk_drew ?_ | refine blk_alloc ?_ _)); exact BK602.out⟩, ⟨by (with_reducible repeat (first | refine blk_drewN ?_ _ | refine blk_drew ?_ | refine blk_alloc ?_ _)); exact BK603.out⟩, ⟨by (with_reducible repeat (first | refine blk_drewN ?_ _ | refine blk_drew ?_ | refine blk_alloc ?_ _)); exact BK620.out⟩, ⟨by repeat (first | (with_reducible first | exact HB.out | apply below_alloc | apply pw_below_drewN | apply below_drew1 | refine below_set ?_ GE602.out | refine below_set ?_ GE603.out | refine below_set ?_ GE620.out) | exact HB.out)⟩⟩
        rw [if_pos c47] at H
        have c47b0 : decide (x18_3 < (l2_1.length : Int)) = true := decide_eq_true c47
        clear c47
        (first | rw [c47b0] | (simp only [i64_w, i32_w]; rw [c47b0]) | skip)
        by_cases c48 : x18_3 < 1000
        rotate_left
        ·rw [if_neg c48] at H
         have c48b0 : decide (x18_3 < 1000) = false := decide_eq_false c48
         clear c48
         have H' := Aside0.mk H
         clear H
         go_wp2
         go_meet
         case rel => exact ⟨_, (x16_3), H', ⟨by have := HJ9.out; have := HK2.out; have := HK3.out; first | omega | exact Nat.le_refl _⟩, ⟨by (with_reducible repeat (first | apply Kd.R_alloc | apply Kd.R_drewN | apply Kd.R_drew)); exact Kd.R_mono HO_9.out (fun _ hk => ⟨hk, (by simp [Value.ownBlock])⟩)⟩, ⟨by (with_reducible repeat (first | apply Kd.R_alloc | apply Kd.R_drewN | apply Kd.R_drew)); exact Kd.R_mono HO_16.out (fun _ hk => ⟨hk, (by simp [Value.ownBlock])⟩)⟩, ⟨by first | exact Kd.R_nil _ _ _ _ _ | exact Kd.N_nil _ _ _ _ _ | exact Kd.V_nil _ _ _ _ _ | exact Kd.Q_nil _ _ _ _ _ | exact Kd.S_nil _ _ _ _ _⟩, ⟨by (with_reducible repeat (first | apply Kd.N_alloc | apply Kd.N_drewN | apply Kd.N_drew)); exact Kd.N_mono HO_621000.out (fun _ hk => ⟨hk.1, ⟨hk.2.1, ⟨(by simp [Value.ownBlock]), ⟨hk.2.2.1, ⟨hk.2.2.2.1, hk.2.2.2.2⟩⟩⟩⟩⟩)⟩, ⟨by (with_reducible repeat (first | refine blk_drewN ?_ _ | refine blk_drew ?_ | refine blk_alloc ?_ _)); exact BK602.out⟩, ⟨by (with_reducible repeat (first | refine blk_drewN ?_ _ | refine blk_drew ?_ | refine blk_alloc ?_ _)); exact BK603.out⟩, ⟨by (with_reducible repeat (first | refine blk_drewN ?_ _ | refine blk_drew ?_ | refine blk_alloc ?_ _)); exact BK620.out⟩, ⟨by repeat (first | (with_reducible first | exact HB.out | apply below_alloc | apply pw_below_drewN | apply below_drew1 | refine below_set ?_ GE602.out | refine below_set ?_ GE603.out | refine below_set ?_ GE620.out) | exact HB.out)⟩⟩
        rw [if_pos c48] at H
        have c48b0 : decide (x18_3 < 1000) = true := decide_eq_true c48
        clear c48
        by_cases c49 : 0 ≤ x18_3
        rotate_left
        ·rw [if_neg c49] at H
         exact absurd H (by simp)
        rw [if_pos c49] at H
        have c49b0 : decide (0 ≤ x18_3) = true := decide_eq_true c49
        clear c49
        replace H := Option.bind_eq_some_iff.mp H
        obtain ⟨t625, A500, H⟩ := H
        replace H : (if x16_3.length < 17592186044416 then (mizmazetop_TopMaze.l1 k3 (wrap64 (1 + t604)) t610 t623 l2_1 l2_2 (x16_3 ++ [t625]) (wrap64 (x18_3 + 1)) t617) else (none)) = some r := H
        have A50 := Aside0.mk A500
        clear A500
        by_cases c51 : x16_3.length < 17592186044416
        rotate_left
        ·rw [if_neg c51] at H
         exact absurd H (by simp)
        rw [if_pos c51] at H
        have LMc51 := Aside0.mk c51
        clear c51
        obtain ⟨y626, hy626⟩ : ∃ y_ : List Int, y_ = (x16_3 ++ [t625]) := ⟨_, rfl⟩
        replace H : (mizmazetop_TopMaze.l1 k3 (wrap64 (1 + t604)) t610 t623 l2_1 l2_2 y626 (wrap64 (x18_3 + 1)) t617) = some r := by first | (rw [hy626]; with_reducible exact H) | (have H2_ := (Option.bind_some _ _).symm.trans H; rw [hy626]; with_reducible exact H2_) | (have H2_ := (Option.bind_some _ _).symm.trans H; with_reducible exact H2_) | with_reducible exact H | (rw [hy626]; exact H) | exact H
        have Ny626 := Aside0.mk hy626
        clear hy626
        have H' := Aside0.mk H
        clear H
        have p624 : 0 ≤ (x18_3 : Int) := of_decide_eq_true (by first | (with_reducible assumption) | assumption)
        have q624 : x18_3 < (l2_1.length : Int) := of_decide_eq_true (by first | (with_reducible assumption) | assumption)
        obtain ⟨ad624, e624, hx624_0⟩ := Kd.at_int HR2_1.out x18_3 p624 q624
        cases e624
        replace hx624_0 := (HB.out.cell (World.block_lt_of_cell? w _ hx624_0)).trans hx624_0
        replace p624 := eq_true p624
        replace q624 := eq_true q624
        go_wp2_with (first | ((with_reducible refine gate_callee (f := 27) rfl ?_); refine goesL_ (some 104) rfl rfl Try.func27 (by kernel_rfl) rfl #[.int .i64 (rd l2_1 x18_3), .int .i64 (wrap64 (1 + t604))] rfl (by (try simp only [List.map_toArray, List.map_cons, List.map_nil]); first | done | rfl | (simp only [List.length_drop, List.length_take]; rfl)) ?_; (with_reducible refine (mizmazetop_cycle.calls (rd l2_1 x18_3) (wrap64 (1 + t604)) t625 _ A50.out).mono ?_); rintro e w' ⟨rfl, ⟨nd, rfl⟩⟩; refine ⟨_, rfl, ?_⟩) | ((with_reducible refine gate_builtin (b := .append) (xs := #[.tmp 98, .tmp 105]) rfl ?_); (try (refine gate_guard (by rfl) ?_; dsimp only)); at_builtin; refine Kd.R_append (Kd.int .i64) (w0 := w) w.heap.size rfl (.tmp 98) (.tmp 105) 30 3 (.int .i64 0) 8 rfl Try.underlying30 info3 rfl (by decide) (by omega) u16 x16_3 t625 [.int .i64 t625] (fun k_ => some k_ ≠ (.slice Ao36 t610.length co36 : Value).ownBlock) (fun _ => False) rfl rfl ?aP (fun _ hk => hk.elim) ?aF ?aO ?aB ?aS ?aL ?_; (case aP => exact rfl); (case aB => exact (by repeat (first | (with_reducible first | exact HB.out | apply below_alloc | apply pw_below_drewN | apply below_drew1 | refine below_set ?_ GE602.out | refine below_set ?_ GE603.out | refine below_set ?_ GE620.out) | exact HB.out))); (case aF => exact (fun k_ hk => Kd.fresh' (Kd.R_lt (by (with_reducible repeat (first | apply Kd.R_alloc | apply Kd.R_drewN | apply Kd.R_drew)); exact HO_9.out)) k_ hk)); (case aO => exact (by (with_reducible repeat (first | apply Kd.R_alloc | apply Kd.R_drewN | apply Kd.R_drew)); exact HO_16.out)); (case aS => exact (below_size (by repeat (first | (with_reducible first | exact HB.out | apply below_alloc | apply pw_below_drewN | apply below_drew1 | refine below_set ?_ GE602.out | refine below_set ?_ GE603.out | refine below_set ?_ GE620.out) | exact HB.out)))); (case aL => have := LMc51.out; omega); intro v627 w52 ho hb hg hat; rw [← Ny626.out] at ho; have n0_ := Aside0.mk (Kd.R_after (ok := (fun _ => True)) (by (with_reducible repeat (first | apply Kd.R_alloc | apply Kd.R_drewN | apply Kd.R_drew)); exact Kd.R_mono HO_9.out (fun _ hk => ⟨trivial, hk⟩)) hg hat); have n1_ := Aside0.mk (Kd.N_afterv (ok := (fun k_ => some k_ ≠ (.slice Ao36 t610.length co36 : Value).ownBlock ∧ k_ ≠ gb602 ∧ k_ ≠ gb603 ∧ k_ ≠ gb620)) (by (with_reducible repeat (first | apply Kd.N_alloc | apply Kd.N_drewN | apply Kd.N_drew)); exact Kd.N_mono HO_621000.out (fun _ hk => ⟨⟨hk.1, ⟨hk.2.2.1, ⟨hk.2.2.2.1, hk.2.2.2.2⟩⟩⟩, hk.2.1⟩)) hg hat); have n2_ := Aside0.mk (blk_grown (g := gb602) (o := .cells #[.int .i64 a0_0, .int .i64 a0_1, .int .i64 a0_2] 50 (0, 0)) (by (with_reducible repeat (first | refine blk_drewN ?_ _ | refine blk_drew ?_ | refine blk_alloc ?_ _)); exact BK602.out) hg (Kd.R_ne HO_16.out BK602.out (by decide))); have n3_ := Aside0.mk (blk_grown (g := gb603) (o := .cells #[.int .i64 a2_0, .slice (some ad624) l2_1.length c2_1, .slice A2_2 l2_2.length c2_2] 52 (0, 0)) (by (with_reducible repeat (first | refine blk_drewN ?_ _ | refine blk_drew ?_ | refine blk_alloc ?_ _)); exact BK603.out) hg (Kd.R_ne HO_16.out BK603.out (by decide))); have n4_ := Aside0.mk (blk_grown (g := gb620) (o := .cells #[.slice Ao41 t617.length co41] 38 (0, 0)) (by (with_reducible repeat (first | refine blk_drewN ?_ _ | refine blk_drew ?_ | refine blk_alloc ?_ _)); exact BK620.out) hg (Kd.R_ne HO_16.out BK620.out (by decide))); have n5_ := Aside0.mk (hb); have n6_ := Aside0.mk (ho); clear HO_9; clear HO_621000; clear BK602; clear BK603; clear BK620; clear HB; clear HO_16; have HO_9 := n0_; have HO_621000 := n1_; have BK602 := n2_; have BK603 := n3_; have BK620 := n4_; have HB := n5_; have HO628 := n6_; clear n0_ n1_ n2_ n3_ n4_ n5_ n6_; clear ho hb hg hat))
        go_roundg k3
        case measure => have := HJ9.out; have := HK2.out; have := HK3.out; omega
        case rel => exact ⟨(y626), (wrap64 (x18_3 + 1)), (by first | rfl | (simp; done) | (simp [*]; done)), H', ⟨by have := HJ9.out; have := HK2.out; have := HK3.out; omega⟩, ⟨by (with_reducible repeat (first | apply Kd.R_alloc | apply Kd.R_drewN | apply Kd.R_drew)); exact Kd.R_mono HO_9.out (fun _ hk => hk.2)⟩, ⟨by (with_reducible repeat (first | apply Kd.R_alloc | apply Kd.R_drewN | apply Kd.R_drew)); exact HO628.out⟩, ⟨by (with_reducible repeat (first | apply Kd.N_alloc | apply Kd.N_drewN | apply Kd.N_drew)); exact Kd.N_mono HO_621000.out (fun _ hk => ⟨hk.1.1, ⟨hk.2, ⟨hk.1.2.1, ⟨hk.1.2.2.1, hk.1.2.2.2⟩⟩⟩⟩)⟩, ⟨by (with_reducible repeat (first | refine blk_drewN ?_ _ | refine blk_drew ?_ | refine blk_alloc ?_ _)); exact BK602.out⟩, ⟨by (with_reducible repeat (first | refine blk_drewN ?_ _ | refine blk_drew ?_ | refine blk_alloc ?_ _)); exact BK603.out⟩, ⟨by (with_reducible repeat (first | refine blk_drewN ?_ _ | refine blk_drew ?_ | refine blk_alloc ?_ _)); exact BK620.out⟩, ⟨by repeat (first | (with_reducible first | exact HB.out | apply below_alloc | apply pw_below_drewN | apply below_drew1 | refine below_set ?_ GE602.out | refine below_set ?_ GE603.out | refine below_set ?_ GE620.out) | exact HB.out)⟩⟩
     case rest =>
      clear HC35
      try clear c1
      try clear c2
      try clear p2
      try clear c3
      try clear c4
      try clear c5
      try clear c6
      try clear c6b0
      try clear p6
      try clear q6
      try clear hx6
      try clear qi6
      try clear c7
      try clear c7b0
      try clear c9
      try clear c13
      try clear c20
      try clear c20b0
      try clear c20b1
      try clear c22
      try clear c23
      try clear c23b0
      try clear c24
      try clear c24b0
      try clear c25
      try clear c25b0
      try clear c26
      try clear c27
      try clear c27b0
      try clear c28
      try clear c29
      try clear c33
      try clear c37
      try clear c42
      try clear c43
      try clear c47
      try clear c47b0
      try clear c48
      try clear c48b0
      try clear c49
      try clear c49b0
      try clear c51
      try clear hcz14_0
      try clear hcz14_1
      try clear hcz14_2
      try clear hcz38_0
      try clear hcz38_1
      try clear hcz38_2
      try clear hcz44_0
      try clear hfz14_0
      try clear hfz14_1
      try clear hfz14_2
      try clear hfz38_0
      try clear hfz38_1
      try clear hfz38_2
      try clear hfz44_0
      try clear hx608_0
      try clear hx614_0
      try clear hx615_0
      try clear hx624_0
      try clear p2
      try clear p6
      try clear p608
      try clear p614
      try clear p615
      try clear p624
      try clear q6
      try clear q608
      try clear q614
      try clear q615
      try clear q624
      obtain ⟨kq, x16_34, HA, HJ34, HO_9, HO_16, HO_17, HO_621000, BK602, BK603, BK620, HB⟩ := hcut
      cases kq with
      | zero => exact absurd HA.out (by simp [mizmazetop_TopMaze.j3])
      | succ kj34 =>
       have H := HA.out
       clear HA
       simp only [mizmazetop_TopMaze.j3] at H
       have HC53 := Aside0.mk H
       clear H
       go_upto_block 4 with (fail)
       go_cut [17] (fun v17 wc => ∃ (kq : Nat) (x17_52 : List Int), Aside0 (mizmazetop_TopMaze.j5 kq t610 t623 x16_34 x17_52 t617 = some r) ∧ Aside0 (kq ≤ kj34) ∧ Aside0 (Kd.R (Kd.int .i64) 3 wc w.heap.size (fun k_ => some k_ ≠ (u16 : Value).ownBlock ∧ some k_ ≠ (v17 : Value).ownBlock) (.slice Ao36 t610.length co36) t610) ∧ Aside0 (Kd.R (Kd.int .i64) 3 wc w.heap.size (fun k_ => some k_ ≠ ((.slice Ao36 t610.length co36) : Value).ownBlock ∧ some k_ ≠ (v17 : Value).ownBlock) u16 x16_34) ∧ Aside0 (Kd.R (Kd.int .i64) 3 wc w.heap.size (fun k_ => some k_ ≠ ((.slice Ao36 t610.length co36) : Value).ownBlock ∧ some k_ ≠ (u16 : Value).ownBlock) v17 x17_52) ∧ Aside0 (Kd.N (Kd.slice 44 k44) 40 wc w.heap.size (fun k_ => some k_ ≠ ((.slice Ao36 t610.length co36) : Value).ownBlock ∧ some k_ ≠ (u16 : Value).ownBlock ∧ some k_ ≠ (v17 : Value).ownBlock ∧ k_ ≠ gb602 ∧ k_ ≠ gb603 ∧ k_ ≠ gb620) (.slice Ao41 t617.length co41) t617) ∧ Aside0 (wc.heap[gb602]? = some (.cells #[.int .i64 a0_0, .int .i64 a0_1, .int .i64 a0_2] 50 (0, 0))) ∧ Aside0 (wc.heap[gb603]? = some (.cells #[.int .i64 a2_0, (.slice A2_1 l2_1.length c2_1), (.slice A2_2 l2_2.length c2_2)] 52 (0, 0))) ∧ Aside0 (wc.heap[gb620]? = some (.cells #[(.slice Ao41 t617.length co41)] 38 (0, 0))) ∧ Aside0 (Below w.heap.size w wc))
       case first =>
        have H := HC53.out
        clear HC53
        have H' := Aside0.mk H
        clear H
        go_wp2
        go_loopg [17, 19] kj34 (fun kq v17 v19 w' => ∃ (x17_4 : List Int) (x19_4 : Int), v19 = .int .i64 x19_4 ∧ Aside0 (mizmazetop_TopMaze.l2 kq (wrap64 (1 + t604)) t610 t623 l2_2 x16_34 x17_4 x19_4 t617 = some r) ∧ Aside0 (kq ≤ kj34) ∧ Aside0 (Kd.R (Kd.int .i64) 3 w' w.heap.size (fun k_ => some k_ ≠ (u16 : Value).ownBlock ∧ some k_ ≠ (v17 : Value).ownBlock) (.slice Ao36 t610.length co36) t610) ∧ Aside0 (Kd.R (Kd.int .i64) 3 w' w.heap.size (fun k_ => some k_ ≠ ((.slice Ao36 t610.length co36) : Value).ownBlock ∧ some k_ ≠ (v17 : Value).ownBlock) u16 x16_34) ∧ Aside0 (Kd.R (Kd.int .i64) 3 w' w.heap.size (fun k_ => some k_ ≠ ((.slice Ao36 t610.length co36) : Value).ownBlock ∧ some k_ ≠ (u16 : Value).ownBlock) v17 x17_4) ∧ Aside0 (Kd.N (Kd.slice 44 k44) 40 w' w.heap.size (fun k_ => some k_ ≠ ((.slice Ao36 t610.length co36) : Value).ownBlock ∧ some k_ ≠ (u16 : Value).ownBlock ∧ some k_ ≠ (v17 : Value).ownBlock ∧ k_ ≠ gb602 ∧ k_ ≠ gb603 ∧ k_ ≠ gb620) (.slice Ao41 t617.length co41) t617) ∧ Aside0 (w'.heap[gb602]? = some (.cells #[.int .i64 a0_0, .int .i64 a0_1, .int .i64 a0_2] 50 (0, 0))) ∧ Aside0 (w'.heap[gb603]? = some (.cells #[.int .i64 a2_0, (.slice A2_1 l2_1.length c2_1), (.slice A2_2 l2_2.length c2_2)] 52 (0, 0))) ∧ Aside0 (w'.heap[gb620]? = some (.cells #[(.slice Ao41 t617.length co41)] 38 (0, 0))) ∧ Aside0 (Below w.heap.size w w'))
        case atStart => exact ⟨(([] : List Int)), (0), (by first | rfl | (simp; done) | (simp [*]; done)), H', ⟨Nat.le_refl _⟩, ⟨by (with_reducible repeat (first | apply Kd.R_alloc | apply Kd.R_drewN | apply Kd.R_drew)); exact HO_9.out⟩, ⟨by (with_reducible repeat (first | apply Kd.R_alloc | apply Kd.R_drewN | apply Kd.R_drew)); exact HO_16.out⟩, ⟨by (with_reducible repeat (first | apply Kd.R_alloc | apply Kd.R_drewN | apply Kd.R_drew)); exact HO_17.out⟩, ⟨by (with_reducible repeat (first | apply Kd.N_alloc | apply Kd.N_drewN | apply Kd.N_drew)); exact HO_621000.out⟩, ⟨by (with_reducible repeat (first | refine blk_drewN ?_ _ | refine blk_drew ?_ | refine blk_alloc ?_ _)); exact BK602.out⟩, ⟨by (with_reducible repeat (first | refine blk_drewN ?_ _ | refine blk_drew ?_ | refine blk_alloc ?_ _)); exact BK603.out⟩, ⟨by (with_reducible repeat (first | refine blk_drewN ?_ _ | refine blk_drew ?_ | refine blk_alloc ?_ _)); exact BK620.out⟩, ⟨by repeat (first | (with_reducible first | exact HB.out | apply below_alloc | apply pw_below_drewN | apply below_drew1 | refine below_set ?_ GE602.out | refine below_set ?_ GE603.out | refine below_set ?_ GE620.out) | exact HB.out)⟩⟩
        case round =>
         clear H'
         try clear c1
         try clear c2
         try clear p2
         try clear c3
         try clear c4
         try clear c5
         try clear c6
         try clear c6b0
         try clear p6
         try clear q6
         try clear hx6
         try clear qi6
         try clear c7
         try clear c7b0
         try clear c9
         try clear c13
         try clear c20
         try clear c20b0
         try clear c20b1
         try clear c22
         try clear c23
         try clear c23b0
         try clear c24
         try clear c24b0
         try clear c25
         try clear c25b0
         try clear c26
         try clear c27
         try clear c27b0
         try clear c28
         try clear c29
         try clear c33
         try clear c37
         try clear c42
         try clear c43
         try clear c47
         try clear c47b0
         try clear c48
         try clear c48b0
         try clear c49
         try clear c49b0
         try clear c51
         try clear hcz14_0
         try clear hcz14_1
         try clear hcz14_2
         try clear hcz38_0
         try clear hcz38_1
         try clear hcz38_2
         try clear hcz44_0
         try clear hfz14_0
         try clear hfz14_1
         try clear hfz14_2
         try clear hfz38_0
         try clear hfz38_1
         try clear hfz38_2
         try clear hfz44_0
         try clear hx608_0
         try clear hx614_0
         try clear hx615_0
         try clear hx624_0
         try clear p2
         try clear p6
         try clear p608
         try clear p614
         try clear p615
         try clear p624
         try clear q6
         try clear q608
         try clear q614
         try clear q615
         try clear q624
         obtain ⟨x17_4, x19_4, rfl, HA, HK4, HO_9, HO_16, HO_17, HO_621000, BK602, BK603, BK620, HB⟩ := hrel
         cases gk with
         | zero => exact absurd HA.out (by simp [mizmazetop_TopMaze.l2])
         | succ k4 =>
          have H := HA.out
          clear HA
          simp only [mizmazetop_TopMaze.l2] at H
          by_cases c54 : x19_4 < (l2_2.length : Int)
          rotate_left
          ·rw [if_neg c54] at H
           have c54b0 : decide (x19_4 < (l2_2.length : Int)) = false := decide_eq_false c54
           clear c54
           (first | rw [c54b0] | (simp only [i64_w, i32_w]; rw [c54b0]) | skip)
           have H' := Aside0.mk H
           clear H
           go_wp2
           go_meet
           case rel => exact ⟨_, (x17_4), H', ⟨by have := HJ9.out; have := HK2.out; have := HJ34.out; have := HK4.out; first | omega | exact Nat.le_refl _⟩, ⟨by (with_reducible repeat (first | apply Kd.R_alloc | apply Kd.R_drewN | apply Kd.R_drew)); exact HO_9.out⟩, ⟨by (with_reducible repeat (first | apply Kd.R_alloc | apply Kd.R_drewN | apply Kd.R_drew)); exact HO_16.out⟩, ⟨by (with_reducible repeat (first | apply Kd.R_alloc | apply Kd.R_drewN | apply Kd.R_drew)); exact HO_17.out⟩, ⟨by (with_reducible repeat (first | apply Kd.N_alloc | apply Kd.N_drewN | apply Kd.N_drew)); exact HO_621000.out⟩, ⟨by (with_reducible repeat (first | refine blk_drewN ?_ _ | refine blk_drew ?_ | refine blk_alloc ?_ _)); exact BK602.out⟩, ⟨by (with_reducible repeat (first | refine blk_drewN ?_ _ | refine blk_drew ?_ | refine blk_alloc ?_ _)); exact BK603.out⟩, ⟨by (with_reducible repeat (first | refine blk_drewN ?_ _ | refine blk_drew ?_ | refine blk_alloc ?_ _)); exact BK620.out⟩, ⟨by repeat (first | (with_reducible first | exact HB.out | apply below_alloc | apply pw_below_drewN | apply below_drew1 | refine below_set ?_ GE602.out | refine below_set ?_ GE603.out | refine below_set ?_ GE620.out) | exact HB.out)⟩⟩
          rw [if_pos c54] at H
          have c54b0 : decide (x19_4 < (l2_2.length : Int)) = true := decide_eq_true c54
          clear c54
          (first | rw [c54b0] | (simp only [i64_w, i32_w]; rw [c54b0]) | skip)
          by_cases c55 : x19_4 < 1000
          rotate_left
          ·rw [if_neg c55] at H
           have c55b0 : decide (x19_4 < 1000) = false := decide_eq_false c55
           clear c55
           have H' := Aside0.mk H
           clear H
           go_wp2
           go_meet
           case rel => exact ⟨_, (x17_4), H', ⟨by have := HJ9.out; have := HK2.out; have := HJ34.out; have := HK4.out; first | omega | exact Nat.le_refl _⟩, ⟨by (with_reducible repeat (first | apply Kd.R_alloc | apply Kd.R_drewN | apply Kd.R_drew)); exact HO_9.out⟩, ⟨by (with_reducible repeat (first | apply Kd.R_alloc | apply Kd.R_drewN | apply Kd.R_drew)); exact HO_16.out⟩, ⟨by (with_reducible repeat (first | apply Kd.R_alloc | apply Kd.R_drewN | apply Kd.R_drew)); exact HO_17.out⟩, ⟨by (with_reducible repeat (first | apply Kd.N_alloc | apply Kd.N_drewN | apply Kd.N_drew)); exact HO_621000.out⟩, ⟨by (with_reducible repeat (first | refine blk_drewN ?_ _ | refine blk_drew ?_ | refine blk_alloc ?_ _)); exact BK602.out⟩, ⟨by (with_reducible repeat (first | refine blk_drewN ?_ _ | refine blk_drew ?_ | refine blk_alloc ?_ _)); exact BK603.out⟩, ⟨by (with_reducible repeat (first | refine blk_drewN ?_ _ | refine blk_drew ?_ | refine blk_alloc ?_ _)); exact BK620.out⟩, ⟨by repeat (first | (with_reducible first | exact HB.out | apply below_alloc | apply pw_below_drewN | apply below_drew1 | refine below_set ?_ GE602.out | refine below_set ?_ GE603.out | refine below_set ?_ GE620.out) | exact HB.out)⟩⟩
          rw [if_pos c55] at H
          have c55b0 : decide (x19_4 < 1000) = true := decide_eq_true c55
          clear c55
          by_cases c56 : 0 ≤ x19_4
          rotate_left
          ·rw [if_neg c56] at H
           exact absurd H (by simp)
          rw [if_pos c56] at H
          have c56b0 : decide (0 ≤ x19_4) = true := decide_eq_true c56
          clear c56
          replace H := Option.bind_eq_some_iff.mp H
          obtain ⟨t630, A570, H⟩ := H
          replace H : (if x17_4.length < 17592186044416 then (mizmazetop_TopMaze.l2 k4 (wrap64 (1 + t604)) t610 t623 l2_2 x16_34 (x17_4 ++ [t630]) (wrap64 (x19_4 + 1)) t617) else (none)) = some r := H
          have A57 := Aside0.mk A570
          clear A570
          by_cases c58 : x17_4.length < 17592186044416
          rotate_left
          ·rw [if_neg c58] at H
           exact absurd H (by simp)
          rw [if_pos c58] at H
          have LMc58 := Aside0.mk c58
          clear c58
          obtain ⟨y631, hy631⟩ : ∃ y_ : List Int, y_ = (x17_4 ++ [t630]) := ⟨_, rfl⟩
          replace H : (mizmazetop_TopMaze.l2 k4 (wrap64 (1 + t604)) t610 t623 l2_2 x16_34 y631 (wrap64 (x19_4 + 1)) t617) = some r := by first | (rw [hy631]; with_reducible exact H) | (have H2_ := (Option.bind_some _ _).symm.trans H; rw [hy631]; with_reducible exact H2_) | (have H2_ := (Option.bind_some _ _).symm.trans H; with_reducible exact H2_) | with_reducible exact H | (rw [hy631]; exact H) | exact H
          have Ny631 := Aside0.mk hy631
          clear hy631
          have H' := Aside0.mk H
          clear H
          have p629 : 0 ≤ (x19_4 : Int) := of_decide_eq_true (by first | (with_reducible assumption) | assumption)
          have q629 : x19_4 < (l2_2.length : Int) := of_decide_eq_true (by first | (with_reducible assumption) | assumption)
          obtain ⟨ad629, e629, hx629_0⟩ := Kd.at_int HR2_2.out x19_4 p629 q629
          cases e629
          replace hx629_0 := (HB.out.cell (World.block_lt_of_cell? w _ hx629_0)).trans hx629_0
          replace p629 := eq_true p629
          replace q629 := eq_true q629
          go_wp2_with (first | ((with_reducible refine gate_callee (f := 27) rfl ?_); refine goesL_ (some 123) rfl rfl Try.func27 (by kernel_rfl) rfl #[.int .i64 (rd l2_2 x19_4), .int .i64 (wrap64 (1 + t604))] rfl (by (try simp only [List.map_toArray, List.map_cons, List.map_nil]); first | done | rfl | (simp only [List.length_drop, List.length_take]; rfl)) ?_; (with_reducible refine (mizmazetop_cycle.calls (rd l2_2 x19_4) (wrap64 (1 + t604)) t630 _ A57.out).mono ?_); rintro e w' ⟨rfl, ⟨nd, rfl⟩⟩; refine ⟨_, rfl, ?_⟩) | ((with_reducible refine gate_builtin (b := .append) (xs := #[.tmp 117, .tmp 124]) rfl ?_); (try (refine gate_guard (by rfl) ?_; dsimp only)); at_builtin; refine Kd.R_append (Kd.int .i64) (w0 := w) w.heap.size rfl (.tmp 117) (.tmp 124) 30 3 (.int .i64 0) 8 rfl Try.underlying30 info3 rfl (by decide) (by omega) u17 x17_4 t630 [.int .i64 t630] (fun k_ => some k_ ≠ (.slice Ao36 t610.length co36 : Value).ownBlock ∧ some k_ ≠ (u16 : Value).ownBlock) (fun _ => False) rfl rfl ?aP (fun _ hk => hk.elim) ?aF ?aO ?aB ?aS ?aL ?_; (case aP => exact rfl); (case aB => exact (by repeat (first | (with_reducible first | exact HB.out | apply below_alloc | apply pw_below_drewN | apply below_drew1 | refine below_set ?_ GE602.out | refine below_set ?_ GE603.out | refine below_set ?_ GE620.out) | exact HB.out))); (case aF => exact (fun k_ hk => ⟨Kd.fresh' (Kd.R_lt (by (with_reducible repeat (first | apply Kd.R_alloc | apply Kd.R_drewN | apply Kd.R_drew)); exact HO_9.out)) k_ hk, Kd.fresh' (Kd.R_lt (by (with_reducible repeat (first | apply Kd.R_alloc | apply Kd.R_drewN | apply Kd.R_drew)); exact HO_16.out)) k_ hk⟩)); (case aO => exact (by (with_reducible repeat (first | apply Kd.R_alloc | apply Kd.R_drewN | apply Kd.R_drew)); exact HO_17.out)); (case aS => exact (below_size (by repeat (first | (with_reducible first | exact HB.out | apply below_alloc | apply pw_below_drewN | apply below_drew1 | refine below_set ?_ GE602.out | refine below_set ?_ GE603.out | refine below_set ?_ GE620.out) | exact HB.out)))); (case aL => have := LMc58.out; omega); intro v632 w59 ho hb hg hat; rw [← Ny631.out] at ho; have n0_ := Aside0.mk (Kd.R_after (ok := (fun k_ => some k_ ≠ (u16 : Value).ownBlock)) (by (with_reducible repeat (first | apply Kd.R_alloc | apply Kd.R_drewN | apply Kd.R_drew)); exact HO_9.out) hg hat); have n1_ := Aside0.mk (Kd.R_after (ok := (fun k_ => some k_ ≠ (.slice Ao36 t610.length co36 : Value).ownBlock)) (by (with_reducible repeat (first | apply Kd.R_alloc | apply Kd.R_drewN | apply Kd.R_drew)); exact HO_16.out) hg hat); have n2_ := Aside0.mk (Kd.N_afterv (ok := (fun k_ => some k_ ≠ (.slice Ao36 t610.length co36 : Value).ownBlock ∧ some k_ ≠ (u16 : Value).ownBlock ∧ k_ ≠ gb602 ∧ k_ ≠ gb603 ∧ k_ ≠ gb620)) (by (with_reducible repeat (first | apply Kd.N_alloc | apply Kd.N_drewN | apply Kd.N_drew)); exact Kd.N_mono HO_621000.out (fun _ hk => ⟨⟨hk.1, ⟨hk.2.1, ⟨hk.2.2.2.1, ⟨hk.2.2.2.2.1, hk.2.2.2.2.2⟩⟩⟩⟩, hk.2.2.1⟩)) hg hat); have n3_ := Aside0.mk (blk_grown (g := gb602) (o := .cells #[.int .i64 a0_0, .int .i64 a0_1, .int .i64 a0_2] 50 (0, 0)) (by (with_reducible repeat (first | refine blk_drewN ?_ _ | refine blk_drew ?_ | refine blk_alloc ?_ _)); exact BK602.out) hg (Kd.R_ne HO_17.out BK602.out (by decide))); have n4_ := Aside0.mk (blk_grown (g := gb603) (o := .cells #[.int .i64 a2_0, .slice A2_1 l2_1.length c2_1, .slice (some ad629) l2_2.length c2_2] 52 (0, 0)) (by (with_reducible repeat (first | refine blk_drewN ?_ _ | refine blk_drew ?_ | refine blk_alloc ?_ _)); exact BK603.out) hg (Kd.R_ne HO_17.out BK603.out (by decide))); have n5_ := Aside0.mk (blk_grown (g := gb620) (o := .cells #[.slice Ao41 t617.length co41] 38 (0, 0)) (by (with_reducible repeat (first | refine blk_drewN ?_ _ | refine blk_drew ?_ | refine blk_alloc ?_ _)); exact BK620.out) hg (Kd.R_ne HO_17.out BK620.out (by decide))); have n6_ := Aside0.mk (hb); have n7_ := Aside0.mk (ho); clear HO_9; clear HO_16; clear HO_621000; clear BK602; clear BK603; clear BK620; clear HB; clear HO_17; have HO_9 := n0_; have HO_16 := n1_; have HO_621000 := n2_; have BK602 := n3_; have BK603 := n4_; have BK620 := n5_; have HB := n6_; have HO633 := n7_; clear n0_ n1_ n2_ n3_ n4_ n5_ n6_ n7_; clear ho hb hg hat))
          go_roundg k4
          case measure => have := HJ9.out; have := HK2.out; have := HJ34.out; have := HK4.out; omega
          case rel => exact ⟨(y631), (wrap64 (x19_4 + 1)), (by first | rfl | (simp; done) | (simp [*]; done)), H', ⟨by have := HJ9.out; have := HK2.out; have := HJ34.out; have := HK4.out; omega⟩, ⟨by (with_reducible repeat (first | apply Kd.R_alloc | apply Kd.R_drewN | apply Kd.R_drew)); exact HO_9.out⟩, ⟨by (with_reducible repeat (first | apply Kd.R_alloc | apply Kd.R_drewN | apply Kd.R_drew)); exact HO_16.out⟩, ⟨by (with_reducible repeat (first | apply Kd.R_alloc | apply Kd.R_drewN | apply Kd.R_drew)); exact HO633.out⟩, ⟨by (with_reducible repeat (first | apply Kd.N_alloc | apply Kd.N_drewN | apply Kd.N_drew)); exact Kd.N_mono HO_621000.out (fun _ hk => ⟨hk.1.1, ⟨hk.1.2.1, ⟨hk.2, ⟨hk.1.2.2.1, ⟨hk.1.2.2.2.1, hk.1.2.2.2.2⟩⟩⟩⟩⟩)⟩, ⟨by (with_reducible repeat (first | refine blk_drewN ?_ _ | refine blk_drew ?_ | refine blk_alloc ?_ _)); exact BK602.out⟩, ⟨by (with_reducible repeat (first | refine blk_drewN ?_ _ | refine blk_drew ?_ | refine blk_alloc ?_ _)); exact BK603.out⟩, ⟨by (with_reducible repeat (first | refine blk_drewN ?_ _ | refine blk_drew ?_ | refine blk_alloc ?_ _)); exact BK620.out⟩, ⟨by repeat (first | (with_reducible first | exact HB.out | apply below_alloc | apply pw_below_drewN | apply below_drew1 | refine below_set ?_ GE602.out | refine below_set ?_ GE603.out | refine below_set ?_ GE620.out) | exact HB.out)⟩⟩
       case rest =>
        clear HC53
        try clear c1
        try clear c2
        try clear p2
        try clear c3
        try clear c4
        try clear c5
        try clear c6
        try clear c6b0
        try clear p6
        try clear q6
        try clear hx6
        try clear qi6
        try clear c7
        try clear c7b0
        try clear c9
        try clear c13
        try clear c20
        try clear c20b0
        try clear c20b1
        try clear c22
        try clear c23
        try clear c23b0
        try clear c24
        try clear c24b0
        try clear c25
        try clear c25b0
        try clear c26
        try clear c27
        try clear c27b0
        try clear c28
        try clear c29
        try clear c33
        try clear c37
        try clear c42
        try clear c43
        try clear c47
        try clear c47b0
        try clear c48
        try clear c48b0
        try clear c49
        try clear c49b0
        try clear c51
        try clear c54
        try clear c54b0
        try clear c55
        try clear c55b0
        try clear c56
        try clear c56b0
        try clear c58
        try clear hcz14_0
        try clear hcz14_1
        try clear hcz14_2
        try clear hcz38_0
        try clear hcz38_1
        try clear hcz38_2
        try clear hcz44_0
        try clear hfz14_0
        try clear hfz14_1
        try clear hfz14_2
        try clear hfz38_0
        try clear hfz38_1
        try clear hfz38_2
        try clear hfz44_0
        try clear hx608_0
        try clear hx614_0
        try clear hx615_0
        try clear hx624_0
        try clear hx629_0
        try clear p2
        try clear p6
        try clear p608
        try clear p614
        try clear p615
        try clear p624
        try clear p629
        try clear q6
        try clear q608
        try clear q614
        try clear q615
        try clear q624
        try clear q629
        obtain ⟨kq, x17_52, HA, HJ52, HO_9, HO_16, HO_17, HO_621000, BK602, BK603, BK620, HB⟩ := hcut
        cases kq with
        | zero => exact absurd HA.out (by simp [mizmazetop_TopMaze.j5])
        | succ kj52 =>
         have H := HA.out
         clear HA
         simp only [mizmazetop_TopMaze.j5] at H
         replace H := Option.bind_eq_some_iff.mp H
         obtain ⟨⟨t634, t635⟩, A600, H⟩ := H
         replace H : (if t635 = 0 then (if t634 = true then ((mizmazetop_visited.f kj52 t617 t623 t610).bind fun t636 => (if t636 = (t617.length : Int) then ((mizmazetop_joined.f kj52 (([x16_34, t610, x17_52] : List (List Int)))).bind fun t640 => ((mizmazetop_visited.f kj52 t617 t623 t640).bind fun t643 => (if t643 = (t617.length : Int) then ((mizmazetop_walks.f kj52).bind fun t644 => (some t644)) else (some false)))) else (some false))) else (some false)) else (some false)) = some r := H
         have A60 := Aside0.mk A600
         clear A600
         by_cases c61 : t635 = 0
         rotate_left
         ·rw [if_neg c61] at H
          have c61b0 : (t635 == 0) = false := beq_eq_false_iff_ne.mpr c61
          have c61b1 : (t635 != 0) = true := bne_iff_ne.mpr c61
          obtain rfl := Option.some.inj H
          have hnb109 := NB620_602.out
          have hnc109 := NB602_620.out
          have hnb110 := NB620_603.out
          have hnc110 := NB603_620.out
          have hcz111_0 : wc.cell? ⟨gb620, 0, none⟩ = some (.slice Ao41 t617.length co41) := (blk_cell BK620.out 0).trans rfl
          have hfz111_0 := blk_frozen BK620.out 0
          try go_wp2_with (first | ((with_reducible refine gate_callee (f := 31) rfl ?_); refine goesL_ (some 130) rfl rfl Try.func31 (by kernel_rfl) rfl #[.agg #[.slice Ao41 t617.length co41], .int .i64 t623, .slice Ao36 t610.length co36] rfl (by (try simp only [List.map_toArray, List.map_cons, List.map_nil]); first | done | rfl | (simp only [List.length_drop, List.length_take]; rfl)) ?_; (with_reducible refine (maze_Visits.calls kj52 _ _ t617 t623 _ _ t610 t634 t635 _ ?side1 ?side2 ?side3 ?side4 A60.out).mono ?_); (case side1 => repeat (first | exact (Kd.N_reads' HO_621000.out).2.2 | (with_reducible refine Kd.C_alloc ?_ _) | (with_reducible refine Kd.C_drewN ?_ _) | (with_reducible refine Kd.C_drew ?_))); (case side2 => exact (Kd.N_reads' HO_621000.out).2.1); (case side3 => repeat (first | exact (Kd.R_reads' HO_9.out).2.2 | (with_reducible refine Kd.C_alloc ?_ _) | (with_reducible refine Kd.C_drewN ?_ _) | (with_reducible refine Kd.C_drew ?_))); (case side4 => exact (Kd.R_reads' HO_9.out).2.1); rintro e w112 ⟨rfl, hb⟩; refine ⟨_, rfl, ?_⟩; have n0_ := Aside0.mk (Kd.R_below (by (with_reducible repeat (first | apply Kd.R_alloc | apply Kd.R_drewN | apply Kd.R_drew)); exact HO_9.out) hb); have n1_ := Aside0.mk (Kd.R_below (by (with_reducible repeat (first | apply Kd.R_alloc | apply Kd.R_drewN | apply Kd.R_drew)); exact HO_16.out) hb); have n2_ := Aside0.mk (Kd.R_below (by (with_reducible repeat (first | apply Kd.R_alloc | apply Kd.R_drewN | apply Kd.R_drew)); exact HO_17.out) hb); have n3_ := Aside0.mk (Kd.N_below (by (with_reducible repeat (first | apply Kd.N_alloc | apply Kd.N_drewN | apply Kd.N_drew)); exact HO_621000.out) hb); have n4_ := Aside0.mk (blk_below (g := gb602) (o := .cells #[.int .i64 a0_0, .int .i64 a0_1, .int .i64 a0_2] 50 (0, 0)) (by (with_reducible repeat (first | refine blk_drewN ?_ _ | refine blk_drew ?_ | refine blk_alloc ?_ _)); exact BK602.out) hb); have n5_ := Aside0.mk (blk_below (g := gb603) (o := .cells #[.int .i64 a2_0, .slice A2_1 l2_1.length c2_1, .slice A2_2 l2_2.length c2_2] 52 (0, 0)) (by (with_reducible repeat (first | refine blk_drewN ?_ _ | refine blk_drew ?_ | refine blk_alloc ?_ _)); exact BK603.out) hb); have n6_ := Aside0.mk (blk_below (g := gb620) (o := .cells #[.slice Ao41 t617.length co41] 38 (0, 0)) (by (with_reducible repeat (first | refine blk_drewN ?_ _ | refine blk_drew ?_ | refine blk_alloc ?_ _)); exact BK620.out) hb); have n7_ := Aside0.mk (below_step (by repeat (first | (with_reducible first | exact HB.out | apply below_alloc | apply pw_below_drewN | apply below_drew1 | refine below_set ?_ GE602.out | refine below_set ?_ GE603.out | refine below_set ?_ GE620.out) | exact HB.out)) hb); clear HO_9; clear HO_16; clear HO_17; clear HO_621000; clear BK602; clear BK603; clear BK620; clear HB; have HO_9 := n0_; have HO_16 := n1_; have HO_17 := n2_; have HO_621000 := n3_; have BK602 := n4_; have BK603 := n5_; have BK620 := n6_; have HB := n7_; clear n0_ n1_ n2_ n3_ n4_ n5_ n6_ n7_; (try clear hb); (try clear hb2); (try clear hk); (try clear hi)))
          have n0_ := Aside0.mk (Kd.R_drew HO_9.out)
          have n1_ := Aside0.mk (Kd.R_drew HO_16.out)
          have n2_ := Aside0.mk (Kd.R_drew HO_17.out)
          have n3_ := Aside0.mk (Kd.N_drew HO_621000.out)
          have n4_ := Aside0.mk (blk_drew BK602.out)
          have n5_ := Aside0.mk (blk_drew BK603.out)
          have n6_ := Aside0.mk (blk_drew BK620.out)
          have n7_ := Aside0.mk (below_drew1 HB.out)
          clear HO_9
          clear HO_16
          clear HO_17
          clear HO_621000
          clear BK602
          clear BK603
          clear BK620
          clear HB
          have HO_9 := n0_
          have HO_16 := n1_
          have HO_17 := n2_
          have HO_621000 := n3_
          have BK602 := n4_
          have BK603 := n5_
          have BK620 := n6_
          have HB := n7_
          clear n0_ n1_ n2_ n3_ n4_ n5_ n6_ n7_
          refine start_ (n := 33) (S := fun w' => True) (ds := []) #[false, false, false, false, false, false, false, false, false, false, false, false, false, false, false, false, false, false, false, false, false, false, false, false, false, false, false, false, false, false, false, false, false] (by kernel_rfl) rfl rfl trivial (fun hHeld => ?_); refine with_tabW mizmazetop_TopMaze.tab25 mizmazetop_TopMaze.bits25 (fun HT_ HW_ => ?_)
          generalize w112.drew = w113 at HO_9 HO_16 HO_17 HO_621000 BK602 BK603 BK620 HB hHeld ⊢
          refine pv_ 0 133 ttm23 HT_ ?_
          refine pv_ 1 134 ttm24 HT_ ?_
          refine pv_ 2 135 ttm25 HT_ ?_
          refine pu_ 3 136 ttm26 HT_ ?_
          refine pv_ 4 137 ttm27 HT_ ?_
          refine pv_ 5 138 ttm28 HT_ ?_
          refine pu_ 6 139 ttm66 HT_ ?_
          refine pu_ 7 140 ttm67 HT_ ?_
          refine pu_ 8 141 ttm68 HT_ ?_
          refine pu_ 9 142 ttm69 HT_ ?_
          refine pu_ 10 143 ttm70 HT_ ?_
          refine pu_ 11 144 ttm71 HT_ ?_
          refine pu_ 12 145 ttm35 HT_ ?_
          refine pu_ 13 146 ttm36 HT_ ?_
          refine pv_ 14 147 ttm37 HT_ ?_
          refine pv_ 15 148 ttm38 HT_ ?_
          refine pu_ 16 149 ttm56 HT_ ?_
          refine pu_ 17 150 ttm57 HT_ ?_
          refine pu_ 18 151 ttm58 HT_ ?_
          refine pu_ 19 152 ttm59 HT_ ?_
          refine pu_ 20 153 ttm60 HT_ ?_
          refine pu_ 21 154 ttm61 HT_ ?_
          refine pu_ 22 155 ttm62 HT_ ?_
          refine pu_ 23 156 ttm63 HT_ ?_
          refine pu_ 24 157 ttm64 HT_ ?_
          refine pu_ 25 158 ttm65 HT_ ?_
          refine pu_ 26 159 ttm49 HT_ ?_
          refine pu_ 27 160 ttm50 HT_ ?_
          refine pv_ 28 161 ttm51 HT_ ?_
          refine pv_ 29 162 ttm52 HT_ ?_
          refine pu_ 30 163 ttm53 HT_ ?_
          refine pv_ 31 164 ttm54 HT_ ?_
          refine pv_ 32 6 ttm55 HT_ ?_
          refine done_ (done_of HT_.out (by kernel_rfl)) ?_
          try go_wp2
          go_ret
          exact ⟨by first | rfl | (simp [errW_none, errW_some] <;> rfl) | (simp only [← hji5]; first | rfl | (simp [errW_none, errW_some] <;> rfl)) | (simp [*, errW_none, errW_some] <;> rfl), by repeat (first | (with_reducible first | exact HB.out | apply below_alloc | apply pw_below_drewN | apply below_drew1 | refine below_set ?_ GE602.out | refine below_set ?_ GE603.out | refine below_set ?_ GE620.out) | exact HB.out)⟩
         rw [if_pos c61] at H
         have c61b0 : (t635 == 0) = true := beq_iff_eq.mpr c61
         have c61b1 : (t635 != 0) = false := bne_eq_false_iff_eq.mpr c61
         clear c61
         by_cases c62 : t634 = true
         rotate_left
         ·replace c62 := Bool.eq_false_iff.mpr c62
          subst c62
          have H1 : (some false) = some r := by rw [if_neg (show ¬ (false = true) by decide)] at H; exact H
          clear H
          have H := H1
          clear H1
          obtain rfl := Option.some.inj H
          have hnb104 := NB620_602.out
          have hnc104 := NB602_620.out
          have hnb105 := NB620_603.out
          have hnc105 := NB603_620.out
          have hcz106_0 : wc.cell? ⟨gb620, 0, none⟩ = some (.slice Ao41 t617.length co41) := (blk_cell BK620.out 0).trans rfl
          have hfz106_0 := blk_frozen BK620.out 0
          try go_wp2_with (first | ((with_reducible refine gate_callee (f := 31) rfl ?_); refine goesL_ (some 130) rfl rfl Try.func31 (by kernel_rfl) rfl #[.agg #[.slice Ao41 t617.length co41], .int .i64 t623, .slice Ao36 t610.length co36] rfl (by (try simp only [List.map_toArray, List.map_cons, List.map_nil]); first | done | rfl | (simp only [List.length_drop, List.length_take]; rfl)) ?_; (with_reducible refine (maze_Visits.calls kj52 _ _ t617 t623 _ _ t610 false t635 _ ?side1 ?side2 ?side3 ?side4 A60.out).mono ?_); (case side1 => repeat (first | exact (Kd.N_reads' HO_621000.out).2.2 | (with_reducible refine Kd.C_alloc ?_ _) | (with_reducible refine Kd.C_drewN ?_ _) | (with_reducible refine Kd.C_drew ?_))); (case side2 => exact (Kd.N_reads' HO_621000.out).2.1); (case side3 => repeat (first | exact (Kd.R_reads' HO_9.out).2.2 | (with_reducible refine Kd.C_alloc ?_ _) | (with_reducible refine Kd.C_drewN ?_ _) | (with_reducible refine Kd.C_drew ?_))); (case side4 => exact (Kd.R_reads' HO_9.out).2.1); rintro e w107 ⟨rfl, hb⟩; refine ⟨_, rfl, ?_⟩; have n0_ := Aside0.mk (Kd.R_below (by (with_reducible repeat (first | apply Kd.R_alloc | apply Kd.R_drewN | apply Kd.R_drew)); exact HO_9.out) hb); have n1_ := Aside0.mk (Kd.R_below (by (with_reducible repeat (first | apply Kd.R_alloc | apply Kd.R_drewN | apply Kd.R_drew)); exact HO_16.out) hb); have n2_ := Aside0.mk (Kd.R_below (by (with_reducible repeat (first | apply Kd.R_alloc | apply Kd.R_drewN | apply Kd.R_drew)); exact HO_17.out) hb); have n3_ := Aside0.mk (Kd.N_below (by (with_reducible repeat (first | apply Kd.N_alloc | apply Kd.N_drewN | apply Kd.N_drew)); exact HO_621000.out) hb); have n4_ := Aside0.mk (blk_below (g := gb602) (o := .cells #[.int .i64 a0_0, .int .i64 a0_1, .int .i64 a0_2] 50 (0, 0)) (by (with_reducible repeat (first | refine blk_drewN ?_ _ | refine blk_drew ?_ | refine blk_alloc ?_ _)); exact BK602.out) hb); have n5_ := Aside0.mk (blk_below (g := gb603) (o := .cells #[.int .i64 a2_0, .slice A2_1 l2_1.length c2_1, .slice A2_2 l2_2.length c2_2] 52 (0, 0)) (by (with_reducible repeat (first | refine blk_drewN ?_ _ | refine blk_drew ?_ | refine blk_alloc ?_ _)); exact BK603.out) hb); have n6_ := Aside0.mk (blk_below (g := gb620) (o := .cells #[.slice Ao41 t617.length co41] 38 (0, 0)) (by (with_reducible repeat (first | refine blk_drewN ?_ _ | refine blk_drew ?_ | refine blk_alloc ?_ _)); exact BK620.out) hb); have n7_ := Aside0.mk (below_step (by repeat (first | (with_reducible first | exact HB.out | apply below_alloc | apply pw_below_drewN | apply below_drew1 | refine below_set ?_ GE602.out | refine below_set ?_ GE603.out | refine below_set ?_ GE620.out) | exact HB.out)) hb); clear HO_9; clear HO_16; clear HO_17; clear HO_621000; clear BK602; clear BK603; clear BK620; clear HB; have HO_9 := n0_; have HO_16 := n1_; have HO_17 := n2_; have HO_621000 := n3_; have BK602 := n4_; have BK603 := n5_; have BK620 := n6_; have HB := n7_; clear n0_ n1_ n2_ n3_ n4_ n5_ n6_ n7_; (try clear hb); (try clear hb2); (try clear hk); (try clear hi)))
          have n0_ := Aside0.mk (Kd.R_drew HO_9.out)
          have n1_ := Aside0.mk (Kd.R_drew HO_16.out)
          have n2_ := Aside0.mk (Kd.R_drew HO_17.out)
          have n3_ := Aside0.mk (Kd.N_drew HO_621000.out)
          have n4_ := Aside0.mk (blk_drew BK602.out)
          have n5_ := Aside0.mk (blk_drew BK603.out)
          have n6_ := Aside0.mk (blk_drew BK620.out)
          have n7_ := Aside0.mk (below_drew1 HB.out)
          clear HO_9
          clear HO_16
          clear HO_17
          clear HO_621000
          clear BK602
          clear BK603
          clear BK620
          clear HB
          have HO_9 := n0_
          have HO_16 := n1_
          have HO_17 := n2_
          have HO_621000 := n3_
          have BK602 := n4_
          have BK603 := n5_
          have BK620 := n6_
          have HB := n7_
          clear n0_ n1_ n2_ n3_ n4_ n5_ n6_ n7_
          refine start_ (n := 33) (S := fun w' => True) (ds := []) #[false, false, false, false, false, false, false, false, false, false, false, false, false, false, false, false, false, false, false, false, false, false, false, false, false, false, false, false, false, false, false, false, false] (by kernel_rfl) rfl rfl trivial (fun hHeld => ?_); refine with_tabW mizmazetop_TopMaze.tab25 mizmazetop_TopMaze.bits25 (fun HT_ HW_ => ?_)
          generalize w107.drew = w108 at HO_9 HO_16 HO_17 HO_621000 BK602 BK603 BK620 HB hHeld ⊢
          refine pv_ 0 133 ttm23 HT_ ?_
          refine pv_ 1 134 ttm24 HT_ ?_
          refine pv_ 2 135 ttm25 HT_ ?_
          refine pv_ 3 136 ttm26 HT_ ?_
          refine pv_ 4 137 ttm27 HT_ ?_
          refine pv_ 5 138 ttm28 HT_ ?_
          refine pu_ 6 139 ttm66 HT_ ?_
          refine pu_ 7 140 ttm67 HT_ ?_
          refine pu_ 8 141 ttm68 HT_ ?_
          refine pu_ 9 142 ttm69 HT_ ?_
          refine pu_ 10 143 ttm70 HT_ ?_
          refine pu_ 11 144 ttm71 HT_ ?_
          refine pu_ 12 145 ttm35 HT_ ?_
          refine pu_ 13 146 ttm36 HT_ ?_
          refine pv_ 14 147 ttm37 HT_ ?_
          refine pv_ 15 148 ttm38 HT_ ?_
          refine pu_ 16 149 ttm56 HT_ ?_
          refine pu_ 17 150 ttm57 HT_ ?_
          refine pu_ 18 151 ttm58 HT_ ?_
          refine pu_ 19 152 ttm59 HT_ ?_
          refine pu_ 20 153 ttm60 HT_ ?_
          refine pu_ 21 154 ttm61 HT_ ?_
          refine pu_ 22 155 ttm62 HT_ ?_
          refine pu_ 23 156 ttm63 HT_ ?_
          refine pu_ 24 157 ttm64 HT_ ?_
          refine pu_ 25 158 ttm65 HT_ ?_
          refine pu_ 26 159 ttm49 HT_ ?_
          refine pu_ 27 160 ttm50 HT_ ?_
          refine pv_ 28 161 ttm51 HT_ ?_
          refine pv_ 29 162 ttm52 HT_ ?_
          refine pu_ 30 163 ttm53 HT_ ?_
          refine pv_ 31 164 ttm54 HT_ ?_
          refine pv_ 32 6 ttm55 HT_ ?_
          refine done_ (done_of HT_.out (by kernel_rfl)) ?_
          try go_wp2
          go_ret
          exact ⟨by first | rfl | (simp [errW_none, errW_some] <;> rfl) | (simp only [← hji5]; first | rfl | (simp [errW_none, errW_some] <;> rfl)) | (simp [*, errW_none, errW_some] <;> rfl), by repeat (first | (with_reducible first | exact HB.out | apply below_alloc | apply pw_below_drewN | apply below_drew1 | refine below_set ?_ GE602.out | refine below_set ?_ GE603.out | refine below_set ?_ GE620.out) | exact HB.out)⟩
         subst c62
         have H1 : ((mizmazetop_visited.f kj52 t617 t623 t610).bind fun t636 => (if t636 = (t617.length : Int) then ((mizmazetop_joined.f kj52 (([x16_34, t610, x17_52] : List (List Int)))).bind fun t640 => ((mizmazetop_visited.f kj52 t617 t623 t640).bind fun t643 => (if t643 = (t617.length : Int) then ((mizmazetop_walks.f kj52).bind fun t644 => (some t644)) else (some false)))) else (some false))) = some r := by rw [if_pos rfl] at H; exact H
         clear H
         have H := H1
         clear H1
         replace H := Option.bind_eq_some_iff.mp H
         obtain ⟨t636, A630, H⟩ := H
         replace H : (if t636 = (t617.length : Int) then ((mizmazetop_joined.f kj52 (([x16_34, t610, x17_52] : List (List Int)))).bind fun t640 => ((mizmazetop_visited.f kj52 t617 t623 t640).bind fun t643 => (if t643 = (t617.length : Int) then ((mizmazetop_walks.f kj52).bind fun t644 => (some t644)) else (some false)))) else (some false)) = some r := H
         have A63 := Aside0.mk A630
         clear A630
         by_cases c64 : t636 = (t617.length : Int)
         rotate_left
         ·rw [if_neg c64] at H
          have c64b0 : (t636 == (t617.length : Int)) = false := beq_eq_false_iff_ne.mpr c64
          have c64b1 : (t636 != (t617.length : Int)) = true := bne_iff_ne.mpr c64
          obtain rfl := Option.some.inj H
          have hnb98 := NB620_602.out
          have hnc98 := NB602_620.out
          have hnb99 := NB620_603.out
          have hnc99 := NB603_620.out
          have hcz100_0 : wc.cell? ⟨gb620, 0, none⟩ = some (.slice Ao41 t617.length co41) := (blk_cell BK620.out 0).trans rfl
          have hfz100_0 := blk_frozen BK620.out 0
          try go_wp2_with (first | ((with_reducible refine gate_callee (f := 31) rfl ?_); refine goesL_ (some 130) rfl rfl Try.func31 (by kernel_rfl) rfl #[.agg #[.slice Ao41 t617.length co41], .int .i64 t623, .slice Ao36 t610.length co36] rfl (by (try simp only [List.map_toArray, List.map_cons, List.map_nil]); first | done | rfl | (simp only [List.length_drop, List.length_take]; rfl)) ?_; (with_reducible refine (maze_Visits.calls kj52 _ _ t617 t623 _ _ t610 true t635 _ ?side1 ?side2 ?side3 ?side4 A60.out).mono ?_); (case side1 => repeat (first | exact (Kd.N_reads' HO_621000.out).2.2 | (with_reducible refine Kd.C_alloc ?_ _) | (with_reducible refine Kd.C_drewN ?_ _) | (with_reducible refine Kd.C_drew ?_))); (case side2 => exact (Kd.N_reads' HO_621000.out).2.1); (case side3 => repeat (first | exact (Kd.R_reads' HO_9.out).2.2 | (with_reducible refine Kd.C_alloc ?_ _) | (with_reducible refine Kd.C_drewN ?_ _) | (with_reducible refine Kd.C_drew ?_))); (case side4 => exact (Kd.R_reads' HO_9.out).2.1); rintro e w101 ⟨rfl, hb⟩; refine ⟨_, rfl, ?_⟩; have n0_ := Aside0.mk (Kd.R_below (by (with_reducible repeat (first | apply Kd.R_alloc | apply Kd.R_drewN | apply Kd.R_drew)); exact HO_9.out) hb); have n1_ := Aside0.mk (Kd.R_below (by (with_reducible repeat (first | apply Kd.R_alloc | apply Kd.R_drewN | apply Kd.R_drew)); exact HO_16.out) hb); have n2_ := Aside0.mk (Kd.R_below (by (with_reducible repeat (first | apply Kd.R_alloc | apply Kd.R_drewN | apply Kd.R_drew)); exact HO_17.out) hb); have n3_ := Aside0.mk (Kd.N_below (by (with_reducible repeat (first | apply Kd.N_alloc | apply Kd.N_drewN | apply Kd.N_drew)); exact HO_621000.out) hb); have n4_ := Aside0.mk (blk_below (g := gb602) (o := .cells #[.int .i64 a0_0, .int .i64 a0_1, .int .i64 a0_2] 50 (0, 0)) (by (with_reducible repeat (first | refine blk_drewN ?_ _ | refine blk_drew ?_ | refine blk_alloc ?_ _)); exact BK602.out) hb); have n5_ := Aside0.mk (blk_below (g := gb603) (o := .cells #[.int .i64 a2_0, .slice A2_1 l2_1.length c2_1, .slice A2_2 l2_2.length c2_2] 52 (0, 0)) (by (with_reducible repeat (first | refine blk_drewN ?_ _ | refine blk_drew ?_ | refine blk_alloc ?_ _)); exact BK603.out) hb); have n6_ := Aside0.mk (blk_below (g := gb620) (o := .cells #[.slice Ao41 t617.length co41] 38 (0, 0)) (by (with_reducible repeat (first | refine blk_drewN ?_ _ | refine blk_drew ?_ | refine blk_alloc ?_ _)); exact BK620.out) hb); have n7_ := Aside0.mk (below_step (by repeat (first | (with_reducible first | exact HB.out | apply below_alloc | apply pw_below_drewN | apply below_drew1 | refine below_set ?_ GE602.out | refine below_set ?_ GE603.out | refine below_set ?_ GE620.out) | exact HB.out)) hb); clear HO_9; clear HO_16; clear HO_17; clear HO_621000; clear BK602; clear BK603; clear BK620; clear HB; have HO_9 := n0_; have HO_16 := n1_; have HO_17 := n2_; have HO_621000 := n3_; have BK602 := n4_; have BK603 := n5_; have BK620 := n6_; have HB := n7_; clear n0_ n1_ n2_ n3_ n4_ n5_ n6_ n7_; (try clear hb); (try clear hb2); (try clear hk); (try clear hi)))
          have n0_ := Aside0.mk (Kd.R_drew HO_9.out)
          have n1_ := Aside0.mk (Kd.R_drew HO_16.out)
          have n2_ := Aside0.mk (Kd.R_drew HO_17.out)
          have n3_ := Aside0.mk (Kd.N_drew HO_621000.out)
          have n4_ := Aside0.mk (blk_drew BK602.out)
          have n5_ := Aside0.mk (blk_drew BK603.out)
          have n6_ := Aside0.mk (blk_drew BK620.out)
          have n7_ := Aside0.mk (below_drew1 HB.out)
          clear HO_9
          clear HO_16
          clear HO_17
          clear HO_621000
          clear BK602
          clear BK603
          clear BK620
          clear HB
          have HO_9 := n0_
          have HO_16 := n1_
          have HO_17 := n2_
          have HO_621000 := n3_
          have BK602 := n4_
          have BK603 := n5_
          have BK620 := n6_
          have HB := n7_
          clear n0_ n1_ n2_ n3_ n4_ n5_ n6_ n7_
          refine start_ (n := 33) (S := fun w' => w'.cell? ⟨gb620, 0, none⟩ = some (.slice Ao41 t617.length co41)) (ds := []) #[false, false, false, false, false, false, false, false, false, false, false, false, false, false, false, false, false, false, false, false, false, false, false, false, false, false, false, false, false, false, false, false, false] (by kernel_rfl) rfl rfl ((blk_cell BK620.out 0).trans rfl) (fun hHeld => ?_); refine with_tabW mizmazetop_TopMaze.tab25 mizmazetop_TopMaze.bits25 (fun HT_ HW_ => ?_)
          generalize w101.drew = w102 at HO_9 HO_16 HO_17 HO_621000 BK602 BK603 BK620 HB hHeld ⊢
          refine pv_ 0 133 ttm23 HT_ ?_
          refine pv_ 1 134 ttm24 HT_ ?_
          refine pv_ 2 135 ttm25 HT_ ?_
          refine pv_ 3 136 ttm26 HT_ ?_
          refine pv_ 4 137 ttm27 HT_ ?_
          refine pv_ 5 138 ttm28 HT_ ?_
          refine pv_ 7 140 ttm29 HT_ ?_
          refine pv_ 8 141 ttm30 HT_ ?_
          refine pv_ 10 143 ttm31 HT_ ?_
          refine take_ (i := 6) (N := some 139) (v := ?_) (a' := ?_) ttm32 rfl rfl (take_ofW HT_.out HW_.out (by kernel_rfl)) (fun _ _ _ h => h) (Or.inl ⟨by rfl, ?_⟩) hHeld ?_ ?_
          rotate_left
          ·intro w' s0
           go_simp
           with_reducible rfl
          rotate_left
          ·simp only [Act.put, List.setIfInBounds_toArray, List.set_cons_zero, List.set_cons_succ, i64_w, i32_w]
           rfl
          refine take_ (i := 11) (N := some 144) (v := ?_) (a' := ?_) ttm33 rfl rfl (take_ofW HT_.out HW_.out (by kernel_rfl)) (fun _ _ _ h => h) (Or.inl ⟨by rfl, ?_⟩) hHeld ?_ ?_
          rotate_left
          ·intro w' s0
           go_simp
           with_reducible rfl
          rotate_left
          ·simp only [Act.put, List.setIfInBounds_toArray, List.set_cons_zero, List.set_cons_succ, i64_w, i32_w]
           rfl
          refine pv_ 12 145 ttm34 HT_ ?_
          refine one_ (i := 9) (N := some 142) ttm35 rfl rfl (one_of HT_.out (by kernel_rfl)) (by decide) (fun K hK => ?_)
          refine goes_ Try.func32 (by kernel_rfl) rfl #[.agg #[.slice Ao41 t617.length co41], .int .i64 t623, .slice Ao36 t610.length co36] (by rfl) rfl rfl (by (try simp only [List.map_toArray, List.map_cons, List.map_nil]); first | done | rfl | (simp only [List.length_drop, List.length_take]; rfl)) ?_
          with_reducible refine (mizmazetop_visited.calls kj52 _ _ t617 t623 _ _ t610 t636 _ ?side1 ?side2 ?side3 ?side4 A63.out).mono ?_
          (case side1 => repeat (first | exact (Kd.N_reads' HO_621000.out).2.2 | (with_reducible refine Kd.C_alloc ?_ _) | (with_reducible refine Kd.C_drewN ?_ _) | (with_reducible refine Kd.C_drew ?_)))
          (case side2 => exact (Kd.N_reads' HO_621000.out).2.1)
          (case side3 => repeat (first | exact (Kd.R_reads' HO_9.out).2.2 | (with_reducible refine Kd.C_alloc ?_ _) | (with_reducible refine Kd.C_drewN ?_ _) | (with_reducible refine Kd.C_drew ?_)))
          (case side4 => exact (Kd.R_reads' HO_9.out).2.1)
          rintro e w103 ⟨rfl, hb⟩
          refine ⟨_, rfl, ?_⟩
          have n0_ := Aside0.mk (Kd.R_below (by (with_reducible repeat (first | apply Kd.R_alloc | apply Kd.R_drewN | apply Kd.R_drew)); exact HO_9.out) hb)
          have n1_ := Aside0.mk (Kd.R_below (by (with_reducible repeat (first | apply Kd.R_alloc | apply Kd.R_drewN | apply Kd.R_drew)); exact HO_16.out) hb)
          have n2_ := Aside0.mk (Kd.R_below (by (with_reducible repeat (first | apply Kd.R_alloc | apply Kd.R_drewN | apply Kd.R_drew)); exact HO_17.out) hb)
          have n3_ := Aside0.mk (Kd.N_below (by (with_reducible repeat (first | apply Kd.N_alloc | apply Kd.N_drewN | apply Kd.N_drew)); exact HO_621000.out) hb)
          have n4_ := Aside0.mk (blk_below (g := gb602) (o := .cells #[.int .i64 a0_0, .int .i64 a0_1, .int .i64 a0_2] 50 (0, 0)) (by (with_reducible repeat (first | refine blk_drewN ?_ _ | refine blk_drew ?_ | refine blk_alloc ?_ _)); exact BK602.out) hb)
          have n5_ := Aside0.mk (blk_below (g := gb603) (o := .cells #[.int .i64 a2_0, .slice A2_1 l2_1.length c2_1, .slice A2_2 l2_2.length c2_2] 52 (0, 0)) (by (with_reducible repeat (first | refine blk_drewN ?_ _ | refine blk_drew ?_ | refine blk_alloc ?_ _)); exact BK603.out) hb)
          have n6_ := Aside0.mk (blk_below (g := gb620) (o := .cells #[.slice Ao41 t617.length co41] 38 (0, 0)) (by (with_reducible repeat (first | refine blk_drewN ?_ _ | refine blk_drew ?_ | refine blk_alloc ?_ _)); exact BK620.out) hb)
          have n7_ := Aside0.mk (below_step (by repeat (first | (with_reducible first | exact HB.out | apply below_alloc | apply pw_below_drewN | apply below_drew1 | refine below_set ?_ GE602.out | refine below_set ?_ GE603.out | refine below_set ?_ GE620.out) | exact HB.out)) hb)
          clear HO_9
          clear HO_16
          clear HO_17
          clear HO_621000
          clear BK602
          clear BK603
          clear BK620
          clear HB
          have HO_9 := n0_
          have HO_16 := n1_
          have HO_17 := n2_
          have HO_621000 := n3_
          have BK602 := n4_
          have BK603 := n5_
          have BK620 := n6_
          have HB := n7_
          clear n0_ n1_ n2_ n3_ n4_ n5_ n6_ n7_
          (try clear hb)
          (try clear hb2)
          (try clear hk)
          (try clear hi)
          refine hK.out _ _ ((blk_cell BK620.out 0).trans rfl) (fun hHeld => ?_)
          clear hK K
          refine norm_ (a' := ?_) ?_ ?_
          rotate_left
          ·show Act.put _ (some 142) _ = _
           simp only [Act.put, List.setIfInBounds_toArray, List.set_cons_zero, List.set_cons_succ, i64_w, i32_w]
           rfl
          refine pv_ 13 146 ttm36 HT_ ?_
          refine pv_ 14 147 ttm37 HT_ ?_
          refine pv_ 15 148 ttm38 HT_ ?_
          refine pu_ 16 149 ttm56 HT_ ?_
          refine pu_ 17 150 ttm57 HT_ ?_
          refine pu_ 18 151 ttm58 HT_ ?_
          refine pu_ 19 152 ttm59 HT_ ?_
          refine pu_ 20 153 ttm60 HT_ ?_
          refine pu_ 21 154 ttm61 HT_ ?_
          refine pu_ 22 155 ttm62 HT_ ?_
          refine pu_ 23 156 ttm63 HT_ ?_
          refine pu_ 24 157 ttm64 HT_ ?_
          refine pu_ 25 158 ttm65 HT_ ?_
          refine pu_ 26 159 ttm49 HT_ ?_
          refine pu_ 27 160 ttm50 HT_ ?_
          refine pv_ 28 161 ttm51 HT_ ?_
          refine pv_ 29 162 ttm52 HT_ ?_
          refine pu_ 30 163 ttm53 HT_ ?_
          refine pv_ 31 164 ttm54 HT_ ?_
          refine pv_ 32 6 ttm55 HT_ ?_
          refine done_ (done_of HT_.out (by kernel_rfl)) ?_
          try go_wp2
          go_ret
          exact ⟨by first | rfl | (simp [errW_none, errW_some] <;> rfl) | (simp only [← hji5]; first | rfl | (simp [errW_none, errW_some] <;> rfl)) | (simp [*, errW_none, errW_some] <;> rfl), by repeat (first | (with_reducible first | exact HB.out | apply below_alloc | apply pw_below_drewN | apply below_drew1 | refine below_set ?_ GE602.out | refine below_set ?_ GE603.out | refine below_set ?_ GE620.out) | exact HB.out)⟩
         rw [if_pos c64] at H
         have c64b0 : (t636 == (t617.length : Int)) = true := beq_iff_eq.mpr c64
         have c64b1 : (t636 != (t617.length : Int)) = false := bne_eq_false_iff_eq.mpr c64
         clear c64
         obtain ⟨y637, hy637⟩ : ∃ y_ : List (List Int), y_ = (([x16_34, t610, x17_52] : List (List Int))) := ⟨_, rfl⟩
         replace H : ((mizmazetop_joined.f kj52 y637).bind fun t640 => ((mizmazetop_visited.f kj52 t617 t623 t640).bind fun t643 => (if t643 = (t617.length : Int) then ((mizmazetop_walks.f kj52).bind fun t644 => (some t644)) else (some false)))) = some r := by first | (rw [hy637]; with_reducible exact H) | (have H2_ := (Option.bind_some _ _).symm.trans H; rw [hy637]; with_reducible exact H2_) | (have H2_ := (Option.bind_some _ _).symm.trans H; with_reducible exact H2_) | with_reducible exact H | (rw [hy637]; exact H) | exact H
         have Ny637 := Aside0.mk hy637
         clear hy637
         replace H := Option.bind_eq_some_iff.mp H
         obtain ⟨t640, A650, H⟩ := H
         replace H : ((mizmazetop_visited.f kj52 t617 t623 t640).bind fun t643 => (if t643 = (t617.length : Int) then ((mizmazetop_walks.f kj52).bind fun t644 => (some t644)) else (some false))) = some r := H
         have A65 := Aside0.mk A650
         clear A650
         replace H := Option.bind_eq_some_iff.mp H
         obtain ⟨t643, A660, H⟩ := H
         replace H : (if t643 = (t617.length : Int) then ((mizmazetop_walks.f kj52).bind fun t644 => (some t644)) else (some false)) = some r := H
         have A66 := Aside0.mk A660
         clear A660
         by_cases c67 : t643 = (t617.length : Int)
         rotate_left
         ·rw [if_neg c67] at H
          have c67b0 : (t643 == (t617.length : Int)) = false := beq_eq_false_iff_ne.mpr c67
          have c67b1 : (t643 != (t617.length : Int)) = true := bne_iff_ne.mpr c67
          obtain rfl := Option.some.inj H
          have hnb84 := NB620_602.out
          have hnc84 := NB602_620.out
          have hnb85 := NB620_603.out
          have hnc85 := NB603_620.out
          have hcz86_0 : wc.cell? ⟨gb620, 0, none⟩ = some (.slice Ao41 t617.length co41) := (blk_cell BK620.out 0).trans rfl
          have hfz86_0 := blk_frozen BK620.out 0
          try go_wp2_with (first | ((with_reducible refine gate_callee (f := 31) rfl ?_); refine goesL_ (some 130) rfl rfl Try.func31 (by kernel_rfl) rfl #[.agg #[.slice Ao41 t617.length co41], .int .i64 t623, .slice Ao36 t610.length co36] rfl (by (try simp only [List.map_toArray, List.map_cons, List.map_nil]); first | done | rfl | (simp only [List.length_drop, List.length_take]; rfl)) ?_; (with_reducible refine (maze_Visits.calls kj52 _ _ t617 t623 _ _ t610 true t635 _ ?side1 ?side2 ?side3 ?side4 A60.out).mono ?_); (case side1 => repeat (first | exact (Kd.N_reads' HO_621000.out).2.2 | (with_reducible refine Kd.C_alloc ?_ _) | (with_reducible refine Kd.C_drewN ?_ _) | (with_reducible refine Kd.C_drew ?_))); (case side2 => exact (Kd.N_reads' HO_621000.out).2.1); (case side3 => repeat (first | exact (Kd.R_reads' HO_9.out).2.2 | (with_reducible refine Kd.C_alloc ?_ _) | (with_reducible refine Kd.C_drewN ?_ _) | (with_reducible refine Kd.C_drew ?_))); (case side4 => exact (Kd.R_reads' HO_9.out).2.1); rintro e w87 ⟨rfl, hb⟩; refine ⟨_, rfl, ?_⟩; have n0_ := Aside0.mk (Kd.R_below (by (with_reducible repeat (first | apply Kd.R_alloc | apply Kd.R_drewN | apply Kd.R_drew)); exact HO_9.out) hb); have n1_ := Aside0.mk (Kd.R_below (by (with_reducible repeat (first | apply Kd.R_alloc | apply Kd.R_drewN | apply Kd.R_drew)); exact HO_16.out) hb); have n2_ := Aside0.mk (Kd.R_below (by (with_reducible repeat (first | apply Kd.R_alloc | apply Kd.R_drewN | apply Kd.R_drew)); exact HO_17.out) hb); have n3_ := Aside0.mk (Kd.N_below (by (with_reducible repeat (first | apply Kd.N_alloc | apply Kd.N_drewN | apply Kd.N_drew)); exact HO_621000.out) hb); have n4_ := Aside0.mk (blk_below (g := gb602) (o := .cells #[.int .i64 a0_0, .int .i64 a0_1, .int .i64 a0_2] 50 (0, 0)) (by (with_reducible repeat (first | refine blk_drewN ?_ _ | refine blk_drew ?_ | refine blk_alloc ?_ _)); exact BK602.out) hb); have n5_ := Aside0.mk (blk_below (g := gb603) (o := .cells #[.int .i64 a2_0, .slice A2_1 l2_1.length c2_1, .slice A2_2 l2_2.length c2_2] 52 (0, 0)) (by (with_reducible repeat (first | refine blk_drewN ?_ _ | refine blk_drew ?_ | refine blk_alloc ?_ _)); exact BK603.out) hb); have n6_ := Aside0.mk (blk_below (g := gb620) (o := .cells #[.slice Ao41 t617.length co41] 38 (0, 0)) (by (with_reducible repeat (first | refine blk_drewN ?_ _ | refine blk_drew ?_ | refine blk_alloc ?_ _)); exact BK620.out) hb); have n7_ := Aside0.mk (below_step (by repeat (first | (with_reducible first | exact HB.out | apply below_alloc | apply pw_below_drewN | apply below_drew1 | refine below_set ?_ GE602.out | refine below_set ?_ GE603.out | refine below_set ?_ GE620.out) | exact HB.out)) hb); clear HO_9; clear HO_16; clear HO_17; clear HO_621000; clear BK602; clear BK603; clear BK620; clear HB; have HO_9 := n0_; have HO_16 := n1_; have HO_17 := n2_; have HO_621000 := n3_; have BK602 := n4_; have BK603 := n5_; have BK620 := n6_; have HB := n7_; clear n0_ n1_ n2_ n3_ n4_ n5_ n6_ n7_; (try clear hb); (try clear hb2); (try clear hk); (try clear hi)))
          have n0_ := Aside0.mk (Kd.R_drew HO_9.out)
          have n1_ := Aside0.mk (Kd.R_drew HO_16.out)
          have n2_ := Aside0.mk (Kd.R_drew HO_17.out)
          have n3_ := Aside0.mk (Kd.N_drew HO_621000.out)
          have n4_ := Aside0.mk (blk_drew BK602.out)
          have n5_ := Aside0.mk (blk_drew BK603.out)
          have n6_ := Aside0.mk (blk_drew BK620.out)
          have n7_ := Aside0.mk (below_drew1 HB.out)
          clear HO_9
          clear HO_16
          clear HO_17
          clear HO_621000
          clear BK602
          clear BK603
          clear BK620
          clear HB
          have HO_9 := n0_
          have HO_16 := n1_
          have HO_17 := n2_
          have HO_621000 := n3_
          have BK602 := n4_
          have BK603 := n5_
          have BK620 := n6_
          have HB := n7_
          clear n0_ n1_ n2_ n3_ n4_ n5_ n6_ n7_
          refine start_ (n := 33) (S := fun w' => w'.cell? ⟨gb620, 0, none⟩ = some (.slice Ao41 t617.length co41)) (ds := []) #[false, false, false, false, false, false, false, false, false, false, false, false, false, false, false, false, false, false, false, false, false, false, false, false, false, false, false, false, false, false, false, false, false] (by kernel_rfl) rfl rfl ((blk_cell BK620.out 0).trans rfl) (fun hHeld => ?_); refine with_tabW mizmazetop_TopMaze.tab25 mizmazetop_TopMaze.bits25 (fun HT_ HW_ => ?_)
          generalize w87.drew = w88 at HO_9 HO_16 HO_17 HO_621000 BK602 BK603 BK620 HB hHeld ⊢
          refine pv_ 0 133 ttm23 HT_ ?_
          refine pv_ 1 134 ttm24 HT_ ?_
          refine pv_ 2 135 ttm25 HT_ ?_
          refine pv_ 3 136 ttm26 HT_ ?_
          refine pv_ 4 137 ttm27 HT_ ?_
          refine pv_ 5 138 ttm28 HT_ ?_
          refine pv_ 7 140 ttm29 HT_ ?_
          refine pv_ 8 141 ttm30 HT_ ?_
          refine pv_ 10 143 ttm31 HT_ ?_
          refine take_ (i := 6) (N := some 139) (v := ?_) (a' := ?_) ttm32 rfl rfl (take_ofW HT_.out HW_.out (by kernel_rfl)) (fun _ _ _ h => h) (Or.inl ⟨by rfl, ?_⟩) hHeld ?_ ?_
          rotate_left
          ·intro w' s0
           go_simp
           with_reducible rfl
          rotate_left
          ·simp only [Act.put, List.setIfInBounds_toArray, List.set_cons_zero, List.set_cons_succ, i64_w, i32_w]
           rfl
          refine take_ (i := 11) (N := some 144) (v := ?_) (a' := ?_) ttm33 rfl rfl (take_ofW HT_.out HW_.out (by kernel_rfl)) (fun _ _ _ h => h) (Or.inl ⟨by rfl, ?_⟩) hHeld ?_ ?_
          rotate_left
          ·intro w' s0
           go_simp
           with_reducible rfl
          rotate_left
          ·simp only [Act.put, List.setIfInBounds_toArray, List.set_cons_zero, List.set_cons_succ, i64_w, i32_w]
           rfl
          refine pv_ 12 145 ttm34 HT_ ?_
          refine one_ (i := 9) (N := some 142) ttm35 rfl rfl (one_of HT_.out (by kernel_rfl)) (by decide) (fun K hK => ?_)
          refine goes_ Try.func32 (by kernel_rfl) rfl #[.agg #[.slice Ao41 t617.length co41], .int .i64 t623, .slice Ao36 t610.length co36] (by rfl) rfl rfl (by (try simp only [List.map_toArray, List.map_cons, List.map_nil]); first | done | rfl | (simp only [List.length_drop, List.length_take]; rfl)) ?_
          with_reducible refine (mizmazetop_visited.calls kj52 _ _ t617 t623 _ _ t610 t636 _ ?side1 ?side2 ?side3 ?side4 A63.out).mono ?_
          (case side1 => repeat (first | exact (Kd.N_reads' HO_621000.out).2.2 | (with_reducible refine Kd.C_alloc ?_ _) | (with_reducible refine Kd.C_drewN ?_ _) | (with_reducible refine Kd.C_drew ?_)))
          (case side2 => exact (Kd.N_reads' HO_621000.out).2.1)
          (case side3 => repeat (first | exact (Kd.R_reads' HO_9.out).2.2 | (with_reducible refine Kd.C_alloc ?_ _) | (with_reducible refine Kd.C_drewN ?_ _) | (with_reducible refine Kd.C_drew ?_)))
          (case side4 => exact (Kd.R_reads' HO_9.out).2.1)
          rintro e w89 ⟨rfl, hb⟩
          refine ⟨_, rfl, ?_⟩
          have n0_ := Aside0.mk (Kd.R_below (by (with_reducible repeat (first | apply Kd.R_alloc | apply Kd.R_drewN | apply Kd.R_drew)); exact HO_9.out) hb)
          have n1_ := Aside0.mk (Kd.R_below (by (with_reducible repeat (first | apply Kd.R_alloc | apply Kd.R_drewN | apply Kd.R_drew)); exact HO_16.out) hb)
          have n2_ := Aside0.mk (Kd.R_below (by (with_reducible repeat (first | apply Kd.R_alloc | apply Kd.R_drewN | apply Kd.R_drew)); exact HO_17.out) hb)
          have n3_ := Aside0.mk (Kd.N_below (by (with_reducible repeat (first | apply Kd.N_alloc | apply Kd.N_drewN | apply Kd.N_drew)); exact HO_621000.out) hb)
          have n4_ := Aside0.mk (blk_below (g := gb602) (o := .cells #[.int .i64 a0_0, .int .i64 a0_1, .int .i64 a0_2] 50 (0, 0)) (by (with_reducible repeat (first | refine blk_drewN ?_ _ | refine blk_drew ?_ | refine blk_alloc ?_ _)); exact BK602.out) hb)
          have n5_ := Aside0.mk (blk_below (g := gb603) (o := .cells #[.int .i64 a2_0, .slice A2_1 l2_1.length c2_1, .slice A2_2 l2_2.length c2_2] 52 (0, 0)) (by (with_reducible repeat (first | refine blk_drewN ?_ _ | refine blk_drew ?_ | refine blk_alloc ?_ _)); exact BK603.out) hb)
          have n6_ := Aside0.mk (blk_below (g := gb620) (o := .cells #[.slice Ao41 t617.length co41] 38 (0, 0)) (by (with_reducible repeat (first | refine blk_drewN ?_ _ | refine blk_drew ?_ | refine blk_alloc ?_ _)); exact BK620.out) hb)
          have n7_ := Aside0.mk (below_step (by repeat (first | (with_reducible first | exact HB.out | apply below_alloc | apply pw_below_drewN | apply below_drew1 | refine below_set ?_ GE602.out | refine below_set ?_ GE603.out | refine below_set ?_ GE620.out) | exact HB.out)) hb)
          clear HO_9
          clear HO_16
          clear HO_17
          clear HO_621000
          clear BK602
          clear BK603
          clear BK620
          clear HB
          have HO_9 := n0_
          have HO_16 := n1_
          have HO_17 := n2_
          have HO_621000 := n3_
          have BK602 := n4_
          have BK603 := n5_
          have BK620 := n6_
          have HB := n7_
          clear n0_ n1_ n2_ n3_ n4_ n5_ n6_ n7_
          (try clear hb)
          (try clear hb2)
          (try clear hk)
          (try clear hi)
          obtain ⟨Ao90, co90, eo90⟩ := Kd.R_slice HO_16.out
          (first | subst eo90 | (injection eo90 with f1_ f2_ f3_; have f4_ := f1_.symm; have f5_ := f3_.symm; clear f1_ f2_ f3_; subst f4_; subst f5_))
          obtain ⟨Ao91, co91, eo91⟩ := Kd.R_slice HO_17.out
          (first | subst eo91 | (injection eo91 with f1_ f2_ f3_; have f4_ := f1_.symm; have f5_ := f3_.symm; clear f1_ f2_ f3_; subst f4_; subst f5_))
          refine hK.out _ _ ((blk_cell BK620.out 0).trans rfl) (fun hHeld => ?_)
          clear hK K
          refine norm_ (a' := ?_) ?_ ?_
          rotate_left
          ·show Act.put _ (some 142) _ = _
           simp only [Act.put, List.setIfInBounds_toArray, List.set_cons_zero, List.set_cons_succ, i64_w, i32_w]
           rfl
          refine pv_ 13 146 ttm36 HT_ ?_
          refine pv_ 14 147 ttm37 HT_ ?_
          refine pv_ 15 148 ttm38 HT_ ?_
          refine pv_ 17 150 ttm39 HT_ ?_
          refine pv_ 18 151 ttm40 HT_ ?_
          refine pv_ 19 152 ttm41 HT_ ?_
          refine pv_ 20 153 ttm42 HT_ ?_
          refine pv_ 24 157 ttm43 HT_ ?_
          refine take_ (i := 16) (N := some 149) (v := ?_) (a' := ?_) ttm44 rfl rfl (take_ofW HT_.out HW_.out (by kernel_rfl)) (fun _ _ _ h => h) (Or.inl ⟨by rfl, ?_⟩) hHeld ?_ ?_
          rotate_left
          ·intro w' s0
           go_simp
           with_reducible rfl
          rotate_left
          ·simp only [Act.put, List.setIfInBounds_toArray, List.set_cons_zero, List.set_cons_succ, i64_w, i32_w]
           rfl
          refine take_ (i := 25) (N := some 158) (v := ?_) (a' := ?_) ttm45 rfl rfl (take_ofW HT_.out HW_.out (by kernel_rfl)) (fun _ _ _ h => h) (Or.inl ⟨by rfl, ?_⟩) hHeld ?_ ?_
          rotate_left
          ·intro w' s0
           go_simp
           with_reducible rfl
          rotate_left
          ·simp only [Act.put, List.setIfInBounds_toArray, List.set_cons_zero, List.set_cons_succ, i64_w, i32_w]
           rfl
          refine pv_ 26 159 ttm46 HT_ ?_
          refine one_ (i := 21) (N := some 154) ttm47 rfl rfl (one_of HT_.out (by kernel_rfl)) (by decide) (fun K hK => ?_)
          refine Kd.N_lit_step (Kd.slice 3 (Kd.int .i64)) _ 30 ?hg (N' := 154) ?hd (xs := ([x16_34, t610, x17_52] : List (List Int))) (inner := [.slice Ao90 x16_34.length co90, .slice Ao36 t610.length co36, .slice Ao91 x17_52.length co91]) (ok := (fun k_ => some k_ ≠ (.slice Ao41 t617.length co41 : Value).ownBlock ∧ k_ ≠ gb602 ∧ k_ ≠ gb603 ∧ k_ ≠ gb620)) (okp := (fun k_ => some k_ ≠ (.slice Ao41 t617.length co41 : Value).ownBlock ∧ k_ ≠ gb602 ∧ k_ ≠ gb603 ∧ k_ ≠ gb620)) ?hr ?hp (fun _ hk => hk) ((show ∀ k_, w89.heap.size ≤ k_ → (fun k_ => some k_ ≠ (.slice Ao41 t617.length co41 : Value).ownBlock ∧ k_ ≠ gb602 ∧ k_ ≠ gb603 ∧ k_ ≠ gb620) k_ from fun k_ hk => ⟨Kd.fresh' (Kd.N_lt (by (with_reducible repeat (first | apply Kd.N_alloc | apply Kd.N_drewN | apply Kd.N_drew)); exact HO_621000.out)) k_ hk, Kd.freshB (g := gb602) (o := .cells #[.int .i64 a0_0, .int .i64 a0_1, .int .i64 a0_2] 50 (0, 0)) (by (with_reducible repeat (first | refine blk_drewN ?_ _ | refine blk_drew ?_ | refine blk_alloc ?_ _)); exact BK602.out) k_ hk, Kd.freshB (g := gb603) (o := .cells #[.int .i64 a2_0, .slice A2_1 l2_1.length c2_1, .slice A2_2 l2_2.length c2_2] 52 (0, 0)) (by (with_reducible repeat (first | refine blk_drewN ?_ _ | refine blk_drew ?_ | refine blk_alloc ?_ _)); exact BK603.out) k_ hk, Kd.freshB (g := gb620) (o := .cells #[.slice Ao41 t617.length co41] 38 (0, 0)) (by (with_reducible repeat (first | refine blk_drewN ?_ _ | refine blk_drew ?_ | refine blk_alloc ?_ _)); exact BK620.out) k_ hk⟩) _ (Nat.le_refl _)) (Below.refl _ _) (Nat.le_refl _) (by simp) ?_; (case hd => rfl); (case hg => rfl); (case hr => first | (go_simp; done) | (go_simp; rfl)); (case hp => exact (Reps.one (show Kd.FK (Kd.slice 3 (Kd.int .i64)) _ _ x16_34 [.slice Ao90 x16_34.length co90] from (Kd.FK_slice_mk (Kd.R_reads' (Kd.R_mono (ok' := (fun k_ => some k_ ≠ (.slice Ao41 t617.length co41 : Value).ownBlock ∧ k_ ≠ gb602 ∧ k_ ≠ gb603 ∧ k_ ≠ gb620)) (Kd.R_types (Kd.R_types (Kd.R_types (Kd.R_apart' (HO_16.out) (Kd.N_typed HO_621000.out) (by decide)) BK602.out (by decide)) BK603.out (by decide)) BK620.out (by decide)) (fun k_ hk => ⟨hk.1.1.1.2, ⟨hk.1.1.2, ⟨hk.1.2, hk.2⟩⟩⟩))).2.1 (Kd.R_F (Kd.R_mono (ok' := (fun k_ => some k_ ≠ (.slice Ao41 t617.length co41 : Value).ownBlock ∧ k_ ≠ gb602 ∧ k_ ≠ gb603 ∧ k_ ≠ gb620)) (Kd.R_types (Kd.R_types (Kd.R_types (Kd.R_apart' (HO_16.out) (Kd.N_typed HO_621000.out) (by decide)) BK602.out (by decide)) BK603.out (by decide)) BK620.out (by decide)) (fun k_ hk => ⟨hk.1.1.1.2, ⟨hk.1.1.2, ⟨hk.1.2, hk.2⟩⟩⟩))))) (Reps.one (show Kd.FK (Kd.slice 3 (Kd.int .i64)) _ _ t610 [.slice Ao36 t610.length co36] from (Kd.FK_slice_mk (Kd.R_reads' (Kd.R_mono (ok' := (fun k_ => some k_ ≠ (.slice Ao41 t617.length co41 : Value).ownBlock ∧ k_ ≠ gb602 ∧ k_ ≠ gb603 ∧ k_ ≠ gb620)) (Kd.R_types (Kd.R_types (Kd.R_types (Kd.R_apart' (HO_9.out) (Kd.N_typed HO_621000.out) (by decide)) BK602.out (by decide)) BK603.out (by decide)) BK620.out (by decide)) (fun k_ hk => ⟨hk.1.1.1.2, ⟨hk.1.1.2, ⟨hk.1.2, hk.2⟩⟩⟩))).2.1 (Kd.R_F (Kd.R_mono (ok' := (fun k_ => some k_ ≠ (.slice Ao41 t617.length co41 : Value).ownBlock ∧ k_ ≠ gb602 ∧ k_ ≠ gb603 ∧ k_ ≠ gb620)) (Kd.R_types (Kd.R_types (Kd.R_types (Kd.R_apart' (HO_9.out) (Kd.N_typed HO_621000.out) (by decide)) BK602.out (by decide)) BK603.out (by decide)) BK620.out (by decide)) (fun k_ hk => ⟨hk.1.1.1.2, ⟨hk.1.1.2, ⟨hk.1.2, hk.2⟩⟩⟩))))) (Reps.one (show Kd.FK (Kd.slice 3 (Kd.int .i64)) _ _ x17_52 [.slice Ao91 x17_52.length co91] from (Kd.FK_slice_mk (Kd.R_reads' (Kd.R_mono (ok' := (fun k_ => some k_ ≠ (.slice Ao41 t617.length co41 : Value).ownBlock ∧ k_ ≠ gb602 ∧ k_ ≠ gb603 ∧ k_ ≠ gb620)) (Kd.R_types (Kd.R_types (Kd.R_types (Kd.R_apart' (HO_17.out) (Kd.N_typed HO_621000.out) (by decide)) BK602.out (by decide)) BK603.out (by decide)) BK620.out (by decide)) (fun k_ hk => ⟨hk.1.1.1.2, ⟨hk.1.1.2, ⟨hk.1.2, hk.2⟩⟩⟩))).2.1 (Kd.R_F (Kd.R_mono (ok' := (fun k_ => some k_ ≠ (.slice Ao41 t617.length co41 : Value).ownBlock ∧ k_ ≠ gb602 ∧ k_ ≠ gb603 ∧ k_ ≠ gb620)) (Kd.R_types (Kd.R_types (Kd.R_types (Kd.R_apart' (HO_17.out) (Kd.N_typed HO_621000.out) (by decide)) BK602.out (by decide)) BK603.out (by decide)) BK620.out (by decide)) (fun k_ hk => ⟨hk.1.1.1.2, ⟨hk.1.1.2, ⟨hk.1.2, hk.2⟩⟩⟩))))) (Reps.none _ _)))))
          intro v638 w92 ho93 hb hg_ hnew_
          clear hg_ hnew_
          (first | rw [← Ny637.out] at ho93 | (simp only [Int.reduceToNat] at ho93; rw [← Ny637.out] at ho93))
          have n0_ := Aside0.mk (Kd.N_elder' (by (with_reducible repeat (first | apply Kd.N_alloc | apply Kd.N_drewN | apply Kd.N_drew)); exact HO_621000.out) (by first | exact Kd.N_base ho93 | exact Kd.S_base ho93 | exact Kd.R_base ho93) hb)
          have n1_ := Aside0.mk (Kd.N_lower ho93 (below_size (by repeat (first | (with_reducible first | exact HB.out | apply below_alloc | apply pw_below_drewN | apply below_drew1 | refine below_set ?_ GE602.out | refine below_set ?_ GE603.out | refine below_set ?_ GE620.out) | exact HB.out))))
          have n2_ := Aside0.mk (blk_below (g := gb602) (o := .cells #[.int .i64 a0_0, .int .i64 a0_1, .int .i64 a0_2] 50 (0, 0)) (by (with_reducible repeat (first | refine blk_drewN ?_ _ | refine blk_drew ?_ | refine blk_alloc ?_ _)); exact BK602.out) hb)
          have n3_ := Aside0.mk (blk_below (g := gb603) (o := .cells #[.int .i64 a2_0, .slice A2_1 l2_1.length c2_1, .slice A2_2 l2_2.length c2_2] 52 (0, 0)) (by (with_reducible repeat (first | refine blk_drewN ?_ _ | refine blk_drew ?_ | refine blk_alloc ?_ _)); exact BK603.out) hb)
          have n4_ := Aside0.mk (blk_below (g := gb620) (o := .cells #[.slice Ao41 t617.length co41] 38 (0, 0)) (by (with_reducible repeat (first | refine blk_drewN ?_ _ | refine blk_drew ?_ | refine blk_alloc ?_ _)); exact BK620.out) hb)
          have n5_ := Aside0.mk (below_step (by repeat (first | (with_reducible first | exact HB.out | apply below_alloc | apply pw_below_drewN | apply below_drew1 | refine below_set ?_ GE602.out | refine below_set ?_ GE603.out | refine below_set ?_ GE620.out) | exact HB.out)) hb)
          clear HO_621000
          clear BK602
          clear BK603
          clear BK620
          clear HB
          clear HO_16
          clear HO_17
          clear HO_9
          have HO_621000 := n0_
          have HO639 := n1_
          have BK602 := n2_
          have BK603 := n3_
          have BK620 := n4_
          have HB := n5_
          clear n0_ n1_ n2_ n3_ n4_ n5_
          clear hb ho93
          obtain ⟨Ao94, co94, eo94⟩ := Kd.N_slice HO639.out
          (first | subst eo94 | (injection eo94 with f1_ f2_ f3_; have f4_ := f1_.symm; have f5_ := f3_.symm; clear f1_ f2_ f3_; subst f4_; subst f5_))
          refine hK.out _ _ ((blk_cell BK620.out 0).trans rfl) (fun hHeld => ?_)
          clear hK K
          refine norm_ (a' := ?_) ?_ ?_
          rotate_left
          ·show Act.put _ (some 154) _ = _
           simp only [Act.put, List.setIfInBounds_toArray, List.set_cons_zero, List.set_cons_succ, i64_w, i32_w]
           rfl
          refine one_ (i := 22) (N := some 155) ttm48 rfl rfl (one_of HT_.out (by kernel_rfl)) (by decide) (fun K hK => ?_)
          refine goes_ Try.func33 (by kernel_rfl) rfl #[.slice Ao94 y637.length co94] (by rfl) rfl rfl (by (try simp only [List.map_toArray, List.map_cons, List.map_nil]); first | done | rfl | (simp only [List.length_drop, List.length_take]; rfl)) ?_
          with_reducible refine (mizmazetop_joined.calls kj52 _ _ y637 t640 _ ?side1 ?side2 A65.out).mono ?_
          (case side1 => repeat (first | exact (Kd.N_reads' HO639.out).2.2 | (with_reducible refine Kd.C_alloc ?_ _) | (with_reducible refine Kd.C_drewN ?_ _) | (with_reducible refine Kd.C_drew ?_)))
          (case side2 => exact (Kd.N_reads' HO639.out).2.1)
          rintro e w95 ⟨v641, rfl, ho0, hb⟩
          refine ⟨_, rfl, ?_⟩
          have n0_ := Aside0.mk (Kd.N_elder' (by (with_reducible repeat (first | apply Kd.N_alloc | apply Kd.N_drewN | apply Kd.N_drew)); exact HO_621000.out) (Kd.R_base ho0) hb)
          have n1_ := Aside0.mk (Kd.N_elder' (by (with_reducible repeat (first | apply Kd.N_alloc | apply Kd.N_drewN | apply Kd.N_drew)); exact HO639.out) (Kd.R_base ho0) hb)
          have n2_ := Aside0.mk (Kd.R_lower ho0 (below_size (by repeat (first | (with_reducible first | exact HB.out | apply below_alloc | apply pw_below_drewN | apply below_drew1 | refine below_set ?_ GE602.out | refine below_set ?_ GE603.out | refine below_set ?_ GE620.out) | exact HB.out))))
          have n3_ := Aside0.mk (blk_below (g := gb602) (o := .cells #[.int .i64 a0_0, .int .i64 a0_1, .int .i64 a0_2] 50 (0, 0)) (by (with_reducible repeat (first | refine blk_drewN ?_ _ | refine blk_drew ?_ | refine blk_alloc ?_ _)); exact BK602.out) hb)
          have n4_ := Aside0.mk (blk_below (g := gb603) (o := .cells #[.int .i64 a2_0, .slice A2_1 l2_1.length c2_1, .slice A2_2 l2_2.length c2_2] 52 (0, 0)) (by (with_reducible repeat (first | refine blk_drewN ?_ _ | refine blk_drew ?_ | refine blk_alloc ?_ _)); exact BK603.out) hb)
          have n5_ := Aside0.mk (blk_below (g := gb620) (o := .cells #[.slice Ao41 t617.length co41] 38 (0, 0)) (by (with_reducible repeat (first | refine blk_drewN ?_ _ | refine blk_drew ?_ | refine blk_alloc ?_ _)); exact BK620.out) hb)
          have n6_ := Aside0.mk (below_step (by repeat (first | (with_reducible first | exact HB.out | apply below_alloc | apply pw_below_drewN | apply below_drew1 | refine below_set ?_ GE602.out | refine below_set ?_ GE603.out | refine below_set ?_ GE620.out) | exact HB.out)) hb)
          clear HO_621000
          clear HO639
          clear BK602
          clear BK603
          clear BK620
          clear HB
          have HO_621000 := n0_
          have HO639 := n1_
          have HO642 := n2_
          have BK602 := n3_
          have BK603 := n4_
          have BK620 := n5_
          have HB := n6_
          clear n0_ n1_ n2_ n3_ n4_ n5_ n6_
          (try clear hb)
          (try clear hb2)
          (try clear hk)
          (try clear hi)
          (try clear ho0)
          obtain ⟨Ao96, co96, eo96⟩ := Kd.R_slice HO642.out
          (first | subst eo96 | (injection eo96 with f1_ f2_ f3_; have f4_ := f1_.symm; have f5_ := f3_.symm; clear f1_ f2_ f3_; subst f4_; subst f5_))
          refine hK.out _ _ ((blk_cell BK620.out 0).trans rfl) (fun hHeld => ?_)
          clear hK K
          refine norm_ (a' := ?_) ?_ ?_
          rotate_left
          ·show Act.put _ (some 155) _ = _
           simp only [Act.put, List.setIfInBounds_toArray, List.set_cons_zero, List.set_cons_succ, i64_w, i32_w]
           rfl
          refine one_ (i := 23) (N := some 156) ttm49 rfl rfl (one_of HT_.out (by kernel_rfl)) (by decide) (fun K hK => ?_)
          refine goes_ Try.func32 (by kernel_rfl) rfl #[.agg #[.slice Ao41 t617.length co41], .int .i64 t623, .slice Ao96 t640.length co96] (by rfl) rfl rfl (by (try simp only [List.map_toArray, List.map_cons, List.map_nil]); first | done | rfl | (simp only [List.length_drop, List.length_take]; rfl)) ?_
          with_reducible refine (mizmazetop_visited.calls kj52 _ _ t617 t623 _ _ t640 t643 _ ?side1 ?side2 ?side3 ?side4 A66.out).mono ?_
          (case side1 => repeat (first | exact (Kd.N_reads' HO_621000.out).2.2 | (with_reducible refine Kd.C_alloc ?_ _) | (with_reducible refine Kd.C_drewN ?_ _) | (with_reducible refine Kd.C_drew ?_)))
          (case side2 => exact (Kd.N_reads' HO_621000.out).2.1)
          (case side3 => repeat (first | exact (Kd.R_reads' HO642.out).2.2 | (with_reducible refine Kd.C_alloc ?_ _) | (with_reducible refine Kd.C_drewN ?_ _) | (with_reducible refine Kd.C_drew ?_)))
          (case side4 => exact (Kd.R_reads' HO642.out).2.1)
          rintro e w97 ⟨rfl, hb⟩
          refine ⟨_, rfl, ?_⟩
          have n0_ := Aside0.mk (Kd.N_below (by (with_reducible repeat (first | apply Kd.N_alloc | apply Kd.N_drewN | apply Kd.N_drew)); exact HO_621000.out) hb)
          have n1_ := Aside0.mk (Kd.N_below (by (with_reducible repeat (first | apply Kd.N_alloc | apply Kd.N_drewN | apply Kd.N_drew)); exact HO639.out) hb)
          have n2_ := Aside0.mk (Kd.R_below (by (with_reducible repeat (first | apply Kd.R_alloc | apply Kd.R_drewN | apply Kd.R_drew)); exact HO642.out) hb)
          have n3_ := Aside0.mk (blk_below (g := gb602) (o := .cells #[.int .i64 a0_0, .int .i64 a0_1, .int .i64 a0_2] 50 (0, 0)) (by (with_reducible repeat (first | refine blk_drewN ?_ _ | refine blk_drew ?_ | refine blk_alloc ?_ _)); exact BK602.out) hb)
          have n4_ := Aside0.mk (blk_below (g := gb603) (o := .cells #[.int .i64 a2_0, .slice A2_1 l2_1.length c2_1, .slice A2_2 l2_2.length c2_2] 52 (0, 0)) (by (with_reducible repeat (first | refine blk_drewN ?_ _ | refine blk_drew ?_ | refine blk_alloc ?_ _)); exact BK603.out) hb)
          have n5_ := Aside0.mk (blk_below (g := gb620) (o := .cells #[.slice Ao41 t617.length co41] 38 (0, 0)) (by (with_reducible repeat (first | refine blk_drewN ?_ _ | refine blk_drew ?_ | refine blk_alloc ?_ _)); exact BK620.out) hb)
          have n6_ := Aside0.mk (below_step (by repeat (first | (with_reducible first | exact HB.out | apply below_alloc | apply pw_below_drewN | apply below_drew1 | refine below_set ?_ GE602.out | refine below_set ?_ GE603.out | refine below_set ?_ GE620.out) | exact HB.out)) hb)
          clear HO_621000
          clear HO639
          clear HO642
          clear BK602
          clear BK603
          clear BK620
          clear HB
          have HO_621000 := n0_
          have HO639 := n1_
          have HO642 := n2_
          have BK602 := n3_
          have BK603 := n4_
          have BK620 := n5_
          have HB := n6_
          clear n0_ n1_ n2_ n3_ n4_ n5_ n6_
          (try clear hb)
          (try clear hb2)
          (try clear hk)
          (try clear hi)
          refine hK.out _ _ ((blk_cell BK620.out 0).trans rfl) (fun hHeld => ?_)
          clear hK K
          refine norm_ (a' := ?_) ?_ ?_
          rotate_left
          ·show Act.put _ (some 156) _ = _
           simp only [Act.put, List.setIfInBounds_toArray, List.set_cons_zero, List.set_cons_succ, i64_w, i32_w]
           rfl
          refine pv_ 27 160 ttm50 HT_ ?_
          refine pv_ 28 161 ttm51 HT_ ?_
          refine pv_ 29 162 ttm52 HT_ ?_
          refine pu_ 30 163 ttm53 HT_ ?_
          refine pv_ 31 164 ttm54 HT_ ?_
          refine pv_ 32 6 ttm55 HT_ ?_
          refine done_ (done_of HT_.out (by kernel_rfl)) ?_
          try go_wp2
          go_ret
          exact ⟨by first | rfl | (simp [errW_none, errW_some] <;> rfl) | (simp only [← hji5]; first | rfl | (simp [errW_none, errW_some] <;> rfl)) | (simp [*, errW_none, errW_some] <;> rfl), by repeat (first | (with_reducible first | exact HB.out | apply below_alloc | apply pw_below_drewN | apply below_drew1 | refine below_set ?_ GE602.out | refine below_set ?_ GE603.out | refine below_set ?_ GE620.out) | exact HB.out)⟩
         rw [if_pos c67] at H
         have c67b0 : (t643 == (t617.length : Int)) = true := beq_iff_eq.mpr c67
         have c67b1 : (t643 != (t617.length : Int)) = false := bne_eq_false_iff_eq.mpr c67
         clear c67
         replace H := Option.bind_eq_some_iff.mp H
         obtain ⟨t644, A680, H⟩ := H
         replace H : (some t644) = some r := H
         have A68 := Aside0.mk A680
         clear A680
         obtain rfl := Option.some.inj H
         have hnb69 := NB620_602.out
         have hnc69 := NB602_620.out
         have hnb70 := NB620_603.out
         have hnc70 := NB603_620.out
         have hcz71_0 : wc.cell? ⟨gb620, 0, none⟩ = some (.slice Ao41 t617.length co41) := (blk_cell BK620.out 0).trans rfl
         have hfz71_0 := blk_frozen BK620.out 0
         try go_wp2_with (first | ((with_reducible refine gate_callee (f := 31) rfl ?_); refine goesL_ (some 130) rfl rfl Try.func31 (by kernel_rfl) rfl #[.agg #[.slice Ao41 t617.length co41], .int .i64 t623, .slice Ao36 t610.length co36] rfl (by (try simp only [List.map_toArray, List.map_cons, List.map_nil]); first | done | rfl | (simp only [List.length_drop, List.length_take]; rfl)) ?_; (with_reducible refine (maze_Visits.calls kj52 _ _ t617 t623 _ _ t610 true t635 _ ?side1 ?side2 ?side3 ?side4 A60.out).mono ?_); (case side1 => repeat (first | exact (Kd.N_reads' HO_621000.out).2.2 | (with_reducible refine Kd.C_alloc ?_ _) | (with_reducible refine Kd.C_drewN ?_ _) | (with_reducible refine Kd.C_drew ?_))); (case side2 => exact (Kd.N_reads' HO_621000.out).2.1); (case side3 => repeat (first | exact (Kd.R_reads' HO_9.out).2.2 | (with_reducible refine Kd.C_alloc ?_ _) | (with_reducible refine Kd.C_drewN ?_ _) | (with_reducible refine Kd.C_drew ?_))); (case side4 => exact (Kd.R_reads' HO_9.out).2.1); rintro e w72 ⟨rfl, hb⟩; refine ⟨_, rfl, ?_⟩; have n0_ := Aside0.mk (Kd.R_below (by (with_reducible repeat (first | apply Kd.R_alloc | apply Kd.R_drewN | apply Kd.R_drew)); exact HO_9.out) hb); have n1_ := Aside0.mk (Kd.R_below (by (with_reducible repeat (first | apply Kd.R_alloc | apply Kd.R_drewN | apply Kd.R_drew)); exact HO_16.out) hb); have n2_ := Aside0.mk (Kd.R_below (by (with_reducible repeat (first | apply Kd.R_alloc | apply Kd.R_drewN | apply Kd.R_drew)); exact HO_17.out) hb); have n3_ := Aside0.mk (Kd.N_below (by (with_reducible repeat (first | apply Kd.N_alloc | apply Kd.N_drewN | apply Kd.N_drew)); exact HO_621000.out) hb); have n4_ := Aside0.mk (blk_below (g := gb602) (o := .cells #[.int .i64 a0_0, .int .i64 a0_1, .int .i64 a0_2] 50 (0, 0)) (by (with_reducible repeat (first | refine blk_drewN ?_ _ | refine blk_drew ?_ | refine blk_alloc ?_ _)); exact BK602.out) hb); have n5_ := Aside0.mk (blk_below (g := gb603) (o := .cells #[.int .i64 a2_0, .slice A2_1 l2_1.length c2_1, .slice A2_2 l2_2.length c2_2] 52 (0, 0)) (by (with_reducible repeat (first | refine blk_drewN ?_ _ | refine blk_drew ?_ | refine blk_alloc ?_ _)); exact BK603.out) hb); have n6_ := Aside0.mk (blk_below (g := gb620) (o := .cells #[.slice Ao41 t617.length co41] 38 (0, 0)) (by (with_reducible repeat (first | refine blk_drewN ?_ _ | refine blk_drew ?_ | refine blk_alloc ?_ _)); exact BK620.out) hb); have n7_ := Aside0.mk (below_step (by repeat (first | (with_reducible first | exact HB.out | apply below_alloc | apply pw_below_drewN | apply below_drew1 | refine below_set ?_ GE602.out | refine below_set ?_ GE603.out | refine below_set ?_ GE620.out) | exact HB.out)) hb); clear HO_9; clear HO_16; clear HO_17; clear HO_621000; clear BK602; clear BK603; clear BK620; clear HB; have HO_9 := n0_; have HO_16 := n1_; have HO_17 := n2_; have HO_621000 := n3_; have BK602 := n4_; have BK603 := n5_; have BK620 := n6_; have HB := n7_; clear n0_ n1_ n2_ n3_ n4_ n5_ n6_ n7_; (try clear hb); (try clear hb2); (try clear hk); (try clear hi)))
         have n0_ := Aside0.mk (Kd.R_drew HO_9.out)
         have n1_ := Aside0.mk (Kd.R_drew HO_16.out)
         have n2_ := Aside0.mk (Kd.R_drew HO_17.out)
         have n3_ := Aside0.mk (Kd.N_drew HO_621000.out)
         have n4_ := Aside0.mk (blk_drew BK602.out)
         have n5_ := Aside0.mk (blk_drew BK603.out)
         have n6_ := Aside0.mk (blk_drew BK620.out)
         have n7_ := Aside0.mk (below_drew1 HB.out)
         clear HO_9
         clear HO_16
         clear HO_17
         clear HO_621000
         clear BK602
         clear BK603
         clear BK620
         clear HB
         have HO_9 := n0_
         have HO_16 := n1_
         have HO_17 := n2_
         have HO_621000 := n3_
         have BK602 := n4_
         have BK603 := n5_
         have BK620 := n6_
         have HB := n7_
         clear n0_ n1_ n2_ n3_ n4_ n5_ n6_ n7_
         refine start_ (n := 33) (S := fun w' => w'.cell? ⟨gb620, 0, none⟩ = some (.slice Ao41 t617.length co41)) (ds := []) #[false, false, false, false, false, false, false, false, false, false, false, false, false, false, false, false, false, false, false, false, false, false, false, false, false, false, false, false, false, false, false, false, false] (by kernel_rfl) rfl rfl ((blk_cell BK620.out 0).trans rfl) (fun hHeld => ?_); refine with_tabW mizmazetop_TopMaze.tab25 mizmazetop_TopMaze.bits25 (fun HT_ HW_ => ?_)
         generalize w72.drew = w73 at HO_9 HO_16 HO_17 HO_621000 BK602 BK603 BK620 HB hHeld ⊢
         refine pv_ 0 133 ttm23 HT_ ?_
         refine pv_ 1 134 ttm24 HT_ ?_
         refine pv_ 2 135 ttm25 HT_ ?_
         refine pv_ 3 136 ttm26 HT_ ?_
         refine pv_ 4 137 ttm27 HT_ ?_
         refine pv_ 5 138 ttm28 HT_ ?_
         refine pv_ 7 140 ttm29 HT_ ?_
         refine pv_ 8 141 ttm30 HT_ ?_
         refine pv_ 10 143 ttm31 HT_ ?_
         refine take_ (i := 6) (N := some 139) (v := ?_) (a' := ?_) ttm32 rfl rfl (take_ofW HT_.out HW_.out (by kernel_rfl)) (fun _ _ _ h => h) (Or.inl ⟨by rfl, ?_⟩) hHeld ?_ ?_
         rotate_left
         ·intro w' s0
          go_simp
          with_reducible rfl
         rotate_left
         ·simp only [Act.put, List.setIfInBounds_toArray, List.set_cons_zero, List.set_cons_succ, i64_w, i32_w]
          rfl
         refine take_ (i := 11) (N := some 144) (v := ?_) (a' := ?_) ttm33 rfl rfl (take_ofW HT_.out HW_.out (by kernel_rfl)) (fun _ _ _ h => h) (Or.inl ⟨by rfl, ?_⟩) hHeld ?_ ?_
         rotate_left
         ·intro w' s0
          go_simp
          with_reducible rfl
         rotate_left
         ·simp only [Act.put, List.setIfInBounds_toArray, List.set_cons_zero, List.set_cons_succ, i64_w, i32_w]
          rfl
         refine pv_ 12 145 ttm34 HT_ ?_
         refine one_ (i := 9) (N := some 142) ttm35 rfl rfl (one_of HT_.out (by kernel_rfl)) (by decide) (fun K hK => ?_)
         refine goes_ Try.func32 (by kernel_rfl) rfl #[.agg #[.slice Ao41 t617.length co41], .int .i64 t623, .slice Ao36 t610.length co36] (by rfl) rfl rfl (by (try simp only [List.map_toArray, List.map_cons, List.map_nil]); first | done | rfl | (simp only [List.length_drop, List.length_take]; rfl)) ?_
         with_reducible refine (mizmazetop_visited.calls kj52 _ _ t617 t623 _ _ t610 t636 _ ?side1 ?side2 ?side3 ?side4 A63.out).mono ?_
         (case side1 => repeat (first | exact (Kd.N_reads' HO_621000.out).2.2 | (with_reducible refine Kd.C_alloc ?_ _) | (with_reducible refine Kd.C_drewN ?_ _) | (with_reducible refine Kd.C_drew ?_)))
         (case side2 => exact (Kd.N_reads' HO_621000.out).2.1)
         (case side3 => repeat (first | exact (Kd.R_reads' HO_9.out).2.2 | (with_reducible refine Kd.C_alloc ?_ _) | (with_reducible refine Kd.C_drewN ?_ _) | (with_reducible refine Kd.C_drew ?_)))
         (case side4 => exact (Kd.R_reads' HO_9.out).2.1)
         rintro e w74 ⟨rfl, hb⟩
         refine ⟨_, rfl, ?_⟩
         have n0_ := Aside0.mk (Kd.R_below (by (with_reducible repeat (first | apply Kd.R_alloc | apply Kd.R_drewN | apply Kd.R_drew)); exact HO_9.out) hb)
         have n1_ := Aside0.mk (Kd.R_below (by (with_reducible repeat (first | apply Kd.R_alloc | apply Kd.R_drewN | apply Kd.R_drew)); exact HO_16.out) hb)
         have n2_ := Aside0.mk (Kd.R_below (by (with_reducible repeat (first | apply Kd.R_alloc | apply Kd.R_drewN | apply Kd.R_drew)); exact HO_17.out) hb)
         have n3_ := Aside0.mk (Kd.N_below (by (with_reducible repeat (first | apply Kd.N_alloc | apply Kd.N_drewN | apply Kd.N_drew)); exact HO_621000.out) hb)
         have n4_ := Aside0.mk (blk_below (g := gb602) (o := .cells #[.int .i64 a0_0, .int .i64 a0_1, .int .i64 a0_2] 50 (0, 0)) (by (with_reducible repeat (first | refine blk_drewN ?_ _ | refine blk_drew ?_ | refine blk_alloc ?_ _)); exact BK602.out) hb)
         have n5_ := Aside0.mk (blk_below (g := gb603) (o := .cells #[.int .i64 a2_0, .slice A2_1 l2_1.length c2_1, .slice A2_2 l2_2.length c2_2] 52 (0, 0)) (by (with_reducible repeat (first | refine blk_drewN ?_ _ | refine blk_drew ?_ | refine blk_alloc ?_ _)); exact BK603.out) hb)
         have n6_ := Aside0.mk (blk_below (g := gb620) (o := .cells #[.slice Ao41 t617.length co41] 38 (0, 0)) (by (with_reducible repeat (first | refine blk_drewN ?_ _ | refine blk_drew ?_ | refine blk_alloc ?_ _)); exact BK620.out) hb)
         have n7_ := Aside0.mk (below_step (by repeat (first | (with_reducible first | exact HB.out | apply below_alloc | apply pw_below_drewN | apply below_drew1 | refine below_set ?_ GE602.out | refine below_set ?_ GE603.out | refine below_set ?_ GE620.out) | exact HB.out)) hb)
         clear HO_9
         clear HO_16
         clear HO_17
         clear HO_621000
         clear BK602
         clear BK603
         clear BK620
         clear HB
         have HO_9 := n0_
         have HO_16 := n1_
         have HO_17 := n2_
         have HO_621000 := n3_
         have BK602 := n4_
         have BK603 := n5_
         have BK620 := n6_
         have HB := n7_
         clear n0_ n1_ n2_ n3_ n4_ n5_ n6_ n7_
         (try clear hb)
         (try clear hb2)
         (try clear hk)
         (try clear hi)
         obtain ⟨Ao75, co75, eo75⟩ := Kd.R_slice HO_16.out
         (first | subst eo75 | (injection eo75 with f1_ f2_ f3_; have f4_ := f1_.symm; have f5_ := f3_.symm; clear f1_ f2_ f3_; subst f4_; subst f5_))
         obtain ⟨Ao76, co76, eo76⟩ := Kd.R_slice HO_17.out
         (first | subst eo76 | (injection eo76 with f1_ f2_ f3_; have f4_ := f1_.symm; have f5_ := f3_.symm; clear f1_ f2_ f3_; subst f4_; subst f5_))
         refine hK.out _ _ ((blk_cell BK620.out 0).trans rfl) (fun hHeld => ?_)
         clear hK K
         refine norm_ (a' := ?_) ?_ ?_
         rotate_left
         ·show Act.put _ (some 142) _ = _
          simp only [Act.put, List.setIfInBounds_toArray, List.set_cons_zero, List.set_cons_succ, i64_w, i32_w]
          rfl
         refine pv_ 13 146 ttm36 HT_ ?_
         refine pv_ 14 147 ttm37 HT_ ?_
         refine pv_ 15 148 ttm38 HT_ ?_
         refine pv_ 17 150 ttm39 HT_ ?_
         refine pv_ 18 151 ttm40 HT_ ?_
         refine pv_ 19 152 ttm41 HT_ ?_
         refine pv_ 20 153 ttm42 HT_ ?_
         refine pv_ 24 157 ttm43 HT_ ?_
         refine take_ (i := 16) (N := some 149) (v := ?_) (a' := ?_) ttm44 rfl rfl (take_ofW HT_.out HW_.out (by kernel_rfl)) (fun _ _ _ h => h) (Or.inl ⟨by rfl, ?_⟩) hHeld ?_ ?_
         rotate_left
         ·intro w' s0
          go_simp
          with_reducible rfl
         rotate_left
         ·simp only [Act.put, List.setIfInBounds_toArray, List.set_cons_zero, List.set_cons_succ, i64_w, i32_w]
          rfl
         refine take_ (i := 25) (N := some 158) (v := ?_) (a' := ?_) ttm45 rfl rfl (take_ofW HT_.out HW_.out (by kernel_rfl)) (fun _ _ _ h => h) (Or.inl ⟨by rfl, ?_⟩) hHeld ?_ ?_
         rotate_left
         ·intro w' s0
          go_simp
          with_reducible rfl
         rotate_left
         ·simp only [Act.put, List.setIfInBounds_toArray, List.set_cons_zero, List.set_cons_succ, i64_w, i32_w]
          rfl
         refine pv_ 26 159 ttm46 HT_ ?_
         refine one_ (i := 21) (N := some 154) ttm47 rfl rfl (one_of HT_.out (by kernel_rfl)) (by decide) (fun K hK => ?_)
         refine Kd.N_lit_step (Kd.slice 3 (Kd.int .i64)) _ 30 ?hg (N' := 154) ?hd (xs := ([x16_34, t610, x17_52] : List (List Int))) (inner := [.slice Ao75 x16_34.length co75, .slice Ao36 t610.length co36, .slice Ao76 x17_52.length co76]) (ok := (fun k_ => some k_ ≠ (.slice Ao41 t617.length co41 : Value).ownBlock ∧ k_ ≠ gb602 ∧ k_ ≠ gb603 ∧ k_ ≠ gb620)) (okp := (fun k_ => some k_ ≠ (.slice Ao41 t617.length co41 : Value).ownBlock ∧ k_ ≠ gb602 ∧ k_ ≠ gb603 ∧ k_ ≠ gb620)) ?hr ?hp (fun _ hk => hk) ((show ∀ k_, w74.heap.size ≤ k_ → (fun k_ => some k_ ≠ (.slice Ao41 t617.length co41 : Value).ownBlock ∧ k_ ≠ gb602 ∧ k_ ≠ gb603 ∧ k_ ≠ gb620) k_ from fun k_ hk => ⟨Kd.fresh' (Kd.N_lt (by (with_reducible repeat (first | apply Kd.N_alloc | apply Kd.N_drewN | apply Kd.N_drew)); exact HO_621000.out)) k_ hk, Kd.freshB (g := gb602) (o := .cells #[.int .i64 a0_0, .int .i64 a0_1, .int .i64 a0_2] 50 (0, 0)) (by (with_reducible repeat (first | refine blk_drewN ?_ _ | refine blk_drew ?_ | refine blk_alloc ?_ _)); exact BK602.out) k_ hk, Kd.freshB (g := gb603) (o := .cells #[.int .i64 a2_0, .slice A2_1 l2_1.length c2_1, .slice A2_2 l2_2.length c2_2] 52 (0, 0)) (by (with_reducible repeat (first | refine blk_drewN ?_ _ | refine blk_drew ?_ | refine blk_alloc ?_ _)); exact BK603.out) k_ hk, Kd.freshB (g := gb620) (o := .cells #[.slice Ao41 t617.length co41] 38 (0, 0)) (by (with_reducible repeat (first | refine blk_drewN ?_ _ | refine blk_drew ?_ | refine blk_alloc ?_ _)); exact BK620.out) k_ hk⟩) _ (Nat.le_refl _)) (Below.refl _ _) (Nat.le_refl _) (by simp) ?_; (case hd => rfl); (case hg => rfl); (case hr => first | (go_simp; done) | (go_simp; rfl)); (case hp => exact (Reps.one (show Kd.FK (Kd.slice 3 (Kd.int .i64)) _ _ x16_34 [.slice Ao75 x16_34.length co75] from (Kd.FK_slice_mk (Kd.R_reads' (Kd.R_mono (ok' := (fun k_ => some k_ ≠ (.slice Ao41 t617.length co41 : Value).ownBlock ∧ k_ ≠ gb602 ∧ k_ ≠ gb603 ∧ k_ ≠ gb620)) (Kd.R_types (Kd.R_types (Kd.R_types (Kd.R_apart' (HO_16.out) (Kd.N_typed HO_621000.out) (by decide)) BK602.out (by decide)) BK603.out (by decide)) BK620.out (by decide)) (fun k_ hk => ⟨hk.1.1.1.2, ⟨hk.1.1.2, ⟨hk.1.2, hk.2⟩⟩⟩))).2.1 (Kd.R_F (Kd.R_mono (ok' := (fun k_ => some k_ ≠ (.slice Ao41 t617.length co41 : Value).ownBlock ∧ k_ ≠ gb602 ∧ k_ ≠ gb603 ∧ k_ ≠ gb620)) (Kd.R_types (Kd.R_types (Kd.R_types (Kd.R_apart' (HO_16.out) (Kd.N_typed HO_621000.out) (by decide)) BK602.out (by decide)) BK603.out (by decide)) BK620.out (by decide)) (fun k_ hk => ⟨hk.1.1.1.2, ⟨hk.1.1.2, ⟨hk.1.2, hk.2⟩⟩⟩))))) (Reps.one (show Kd.FK (Kd.slice 3 (Kd.int .i64)) _ _ t610 [.slice Ao36 t610.length co36] from (Kd.FK_slice_mk (Kd.R_reads' (Kd.R_mono (ok' := (fun k_ => some k_ ≠ (.slice Ao41 t617.length co41 : Value).ownBlock ∧ k_ ≠ gb602 ∧ k_ ≠ gb603 ∧ k_ ≠ gb620)) (Kd.R_types (Kd.R_types (Kd.R_types (Kd.R_apart' (HO_9.out) (Kd.N_typed HO_621000.out) (by decide)) BK602.out (by decide)) BK603.out (by decide)) BK620.out (by decide)) (fun k_ hk => ⟨hk.1.1.1.2, ⟨hk.1.1.2, ⟨hk.1.2, hk.2⟩⟩⟩))).2.1 (Kd.R_F (Kd.R_mono (ok' := (fun k_ => some k_ ≠ (.slice Ao41 t617.length co41 : Value).ownBlock ∧ k_ ≠ gb602 ∧ k_ ≠ gb603 ∧ k_ ≠ gb620)) (Kd.R_types (Kd.R_types (Kd.R_types (Kd.R_apart' (HO_9.out) (Kd.N_typed HO_621000.out) (by decide)) BK602.out (by decide)) BK603.out (by decide)) BK620.out (by decide)) (fun k_ hk => ⟨hk.1.1.1.2, ⟨hk.1.1.2, ⟨hk.1.2, hk.2⟩⟩⟩))))) (Reps.one (show Kd.FK (Kd.slice 3 (Kd.int .i64)) _ _ x17_52 [.slice Ao76 x17_52.length co76] from (Kd.FK_slice_mk (Kd.R_reads' (Kd.R_mono (ok' := (fun k_ => some k_ ≠ (.slice Ao41 t617.length co41 : Value).ownBlock ∧ k_ ≠ gb602 ∧ k_ ≠ gb603 ∧ k_ ≠ gb620)) (Kd.R_types (Kd.R_types (Kd.R_types (Kd.R_apart' (HO_17.out) (Kd.N_typed HO_621000.out) (by decide)) BK602.out (by decide)) BK603.out (by decide)) BK620.out (by decide)) (fun k_ hk => ⟨hk.1.1.1.2, ⟨hk.1.1.2, ⟨hk.1.2, hk.2⟩⟩⟩))).2.1 (Kd.R_F (Kd.R_mono (ok' := (fun k_ => some k_ ≠ (.slice Ao41 t617.length co41 : Value).ownBlock ∧ k_ ≠ gb602 ∧ k_ ≠ gb603 ∧ k_ ≠ gb620)) (Kd.R_types (Kd.R_types (Kd.R_types (Kd.R_apart' (HO_17.out) (Kd.N_typed HO_621000.out) (by decide)) BK602.out (by decide)) BK603.out (by decide)) BK620.out (by decide)) (fun k_ hk => ⟨hk.1.1.1.2, ⟨hk.1.1.2, ⟨hk.1.2, hk.2⟩⟩⟩))))) (Reps.none _ _)))))
         intro v638 w77 ho78 hb hg_ hnew_
         clear hg_ hnew_
         (first | rw [← Ny637.out] at ho78 | (simp only [Int.reduceToNat] at ho78; rw [← Ny637.out] at ho78))
         have n0_ := Aside0.mk (Kd.N_elder' (by (with_reducible repeat (first | apply Kd.N_alloc | apply Kd.N_drewN | apply Kd.N_drew)); exact HO_621000.out) (by first | exact Kd.N_base ho78 | exact Kd.S_base ho78 | exact Kd.R_base ho78) hb)
         have n1_ := Aside0.mk (Kd.N_lower ho78 (below_size (by repeat (first | (with_reducible first | exact HB.out | apply below_alloc | apply pw_below_drewN | apply below_drew1 | refine below_set ?_ GE602.out | refine below_set ?_ GE603.out | refine below_set ?_ GE620.out) | exact HB.out))))
         have n2_ := Aside0.mk (blk_below (g := gb602) (o := .cells #[.int .i64 a0_0, .int .i64 a0_1, .int .i64 a0_2] 50 (0, 0)) (by (with_reducible repeat (first | refine blk_drewN ?_ _ | refine blk_drew ?_ | refine blk_alloc ?_ _)); exact BK602.out) hb)
         have n3_ := Aside0.mk (blk_below (g := gb603) (o := .cells #[.int .i64 a2_0, .slice A2_1 l2_1.length c2_1, .slice A2_2 l2_2.length c2_2] 52 (0, 0)) (by (with_reducible repeat (first | refine blk_drewN ?_ _ | refine blk_drew ?_ | refine blk_alloc ?_ _)); exact BK603.out) hb)
         have n4_ := Aside0.mk (blk_below (g := gb620) (o := .cells #[.slice Ao41 t617.length co41] 38 (0, 0)) (by (with_reducible repeat (first | refine blk_drewN ?_ _ | refine blk_drew ?_ | refine blk_alloc ?_ _)); exact BK620.out) hb)
         have n5_ := Aside0.mk (below_step (by repeat (first | (with_reducible first | exact HB.out | apply below_alloc | apply pw_below_drewN | apply below_drew1 | refine below_set ?_ GE602.out | refine below_set ?_ GE603.out | refine below_set ?_ GE620.out) | exact HB.out)) hb)
         clear HO_621000
         clear BK602
         clear BK603
         clear BK620
         clear HB
         clear HO_16
         clear HO_17
         clear HO_9
         have HO_621000 := n0_
         have HO639 := n1_
         have BK602 := n2_
         have BK603 := n3_
         have BK620 := n4_
         have HB := n5_
         clear n0_ n1_ n2_ n3_ n4_ n5_
         clear hb ho78
         obtain ⟨Ao79, co79, eo79⟩ := Kd.N_slice HO639.out
         (first | subst eo79 | (injection eo79 with f1_ f2_ f3_; have f4_ := f1_.symm; have f5_ := f3_.symm; clear f1_ f2_ f3_; subst f4_; subst f5_))
         refine hK.out _ _ ((blk_cell BK620.out 0).trans rfl) (fun hHeld => ?_)
         clear hK K
         refine norm_ (a' := ?_) ?_ ?_
         rotate_left
         ·show Act.put _ (some 154) _ = _
          simp only [Act.put, List.setIfInBounds_toArray, List.set_cons_zero, List.set_cons_succ, i64_w, i32_w]
          rfl
         refine one_ (i := 22) (N := some 155) ttm48 rfl rfl (one_of HT_.out (by kernel_rfl)) (by decide) (fun K hK => ?_)
         refine goes_ Try.func33 (by kernel_rfl) rfl #[.slice Ao79 y637.length co79] (by rfl) rfl rfl (by (try simp only [List.map_toArray, List.map_cons, List.map_nil]); first | done | rfl | (simp only [List.length_drop, List.length_take]; rfl)) ?_
         with_reducible refine (mizmazetop_joined.calls kj52 _ _ y637 t640 _ ?side1 ?side2 A65.out).mono ?_
         (case side1 => repeat (first | exact (Kd.N_reads' HO639.out).2.2 | (with_reducible refine Kd.C_alloc ?_ _) | (with_reducible refine Kd.C_drewN ?_ _) | (with_reducible refine Kd.C_drew ?_)))
         (case side2 => exact (Kd.N_reads' HO639.out).2.1)
         rintro e w80 ⟨v641, rfl, ho0, hb⟩
         refine ⟨_, rfl, ?_⟩
         have n0_ := Aside0.mk (Kd.N_elder' (by (with_reducible repeat (first | apply Kd.N_alloc | apply Kd.N_drewN | apply Kd.N_drew)); exact HO_621000.out) (Kd.R_base ho0) hb)
         have n1_ := Aside0.mk (Kd.N_elder' (by (with_reducible repeat (first | apply Kd.N_alloc | apply Kd.N_drewN | apply Kd.N_drew)); exact HO639.out) (Kd.R_base ho0) hb)
         have n2_ := Aside0.mk (Kd.R_lower ho0 (below_size (by repeat (first | (with_reducible first | exact HB.out | apply below_alloc | apply pw_below_drewN | apply below_drew1 | refine below_set ?_ GE602.out | refine below_set ?_ GE603.out | refine below_set ?_ GE620.out) | exact HB.out))))
         have n3_ := Aside0.mk (blk_below (g := gb602) (o := .cells #[.int .i64 a0_0, .int .i64 a0_1, .int .i64 a0_2] 50 (0, 0)) (by (with_reducible repeat (first | refine blk_drewN ?_ _ | refine blk_drew ?_ | refine blk_alloc ?_ _)); exact BK602.out) hb)
         have n4_ := Aside0.mk (blk_below (g := gb603) (o := .cells #[.int .i64 a2_0, .slice A2_1 l2_1.length c2_1, .slice A2_2 l2_2.length c2_2] 52 (0, 0)) (by (with_reducible repeat (first | refine blk_drewN ?_ _ | refine blk_drew ?_ | refine blk_alloc ?_ _)); exact BK603.out) hb)
         have n5_ := Aside0.mk (blk_below (g := gb620) (o := .cells #[.slice Ao41 t617.length co41] 38 (0, 0)) (by (with_reducible repeat (first | refine blk_drewN ?_ _ | refine blk_drew ?_ | refine blk_alloc ?_ _)); exact BK620.out) hb)
         have n6_ := Aside0.mk (below_step (by repeat (first | (with_reducible first | exact HB.out | apply below_alloc | apply pw_below_drewN | apply below_drew1 | refine below_set ?_ GE602.out | refine below_set ?_ GE603.out | refine below_set ?_ GE620.out) | exact HB.out)) hb)
         clear HO_621000
         clear HO639
         clear BK602
         clear BK603
         clear BK620
         clear HB
         have HO_621000 := n0_
         have HO639 := n1_
         have HO642 := n2_
         have BK602 := n3_
         have BK603 := n4_
         have BK620 := n5_
         have HB := n6_
         clear n0_ n1_ n2_ n3_ n4_ n5_ n6_
         (try clear hb)
         (try clear hb2)
         (try clear hk)
         (try clear hi)
         (try clear ho0)
         obtain ⟨Ao81, co81, eo81⟩ := Kd.R_slice HO642.out
         (first | subst eo81 | (injection eo81 with f1_ f2_ f3_; have f4_ := f1_.symm; have f5_ := f3_.symm; clear f1_ f2_ f3_; subst f4_; subst f5_))
         refine hK.out _ _ ((blk_cell BK620.out 0).trans rfl) (fun hHeld => ?_)
         clear hK K
         refine norm_ (a' := ?_) ?_ ?_
         rotate_left
         ·show Act.put _ (some 155) _ = _
          simp only [Act.put, List.setIfInBounds_toArray, List.set_cons_zero, List.set_cons_succ, i64_w, i32_w]
          rfl
         refine one_ (i := 23) (N := some 156) ttm49 rfl rfl (one_of HT_.out (by kernel_rfl)) (by decide) (fun K hK => ?_)
         refine goes_ Try.func32 (by kernel_rfl) rfl #[.agg #[.slice Ao41 t617.length co41], .int .i64 t623, .slice Ao81 t640.length co81] (by rfl) rfl rfl (by (try simp only [List.map_toArray, List.map_cons, List.map_nil]); first | done | rfl | (simp only [List.length_drop, List.length_take]; rfl)) ?_
         with_reducible refine (mizmazetop_visited.calls kj52 _ _ t617 t623 _ _ t640 t643 _ ?side1 ?side2 ?side3 ?side4 A66.out).mono ?_
         (case side1 => repeat (first | exact (Kd.N_reads' HO_621000.out).2.2 | (with_reducible refine Kd.C_alloc ?_ _) | (with_reducible refine Kd.C_drewN ?_ _) | (with_reducible refine Kd.C_drew ?_)))
         (case side2 => exact (Kd.N_reads' HO_621000.out).2.1)
         (case side3 => repeat (first | exact (Kd.R_reads' HO642.out).2.2 | (with_reducible refine Kd.C_alloc ?_ _) | (with_reducible refine Kd.C_drewN ?_ _) | (with_reducible refine Kd.C_drew ?_)))
         (case side4 => exact (Kd.R_reads' HO642.out).2.1)
         rintro e w82 ⟨rfl, hb⟩
         refine ⟨_, rfl, ?_⟩
         have n0_ := Aside0.mk (Kd.N_below (by (with_reducible repeat (first | apply Kd.N_alloc | apply Kd.N_drewN | apply Kd.N_drew)); exact HO_621000.out) hb)
         have n1_ := Aside0.mk (Kd.N_below (by (with_reducible repeat (first | apply Kd.N_alloc | apply Kd.N_drewN | apply Kd.N_drew)); exact HO639.out) hb)
         have n2_ := Aside0.mk (Kd.R_below (by (with_reducible repeat (first | apply Kd.R_alloc | apply Kd.R_drewN | apply Kd.R_drew)); exact HO642.out) hb)
         have n3_ := Aside0.mk (blk_below (g := gb602) (o := .cells #[.int .i64 a0_0, .int .i64 a0_1, .int .i64 a0_2] 50 (0, 0)) (by (with_reducible repeat (first | refine blk_drewN ?_ _ | refine blk_drew ?_ | refine blk_alloc ?_ _)); exact BK602.out) hb)
         have n4_ := Aside0.mk (blk_below (g := gb603) (o := .cells #[.int .i64 a2_0, .slice A2_1 l2_1.length c2_1, .slice A2_2 l2_2.length c2_2] 52 (0, 0)) (by (with_reducible repeat (first | refine blk_drewN ?_ _ | refine blk_drew ?_ | refine blk_alloc ?_ _)); exact BK603.out) hb)
         have n5_ := Aside0.mk (blk_below (g := gb620) (o := .cells #[.slice Ao41 t617.length co41] 38 (0, 0)) (by (with_reducible repeat (first | refine blk_drewN ?_ _ | refine blk_drew ?_ | refine blk_alloc ?_ _)); exact BK620.out) hb)
         have n6_ := Aside0.mk (below_step (by repeat (first | (with_reducible first | exact HB.out | apply below_alloc | apply pw_below_drewN | apply below_drew1 | refine below_set ?_ GE602.out | refine below_set ?_ GE603.out | refine below_set ?_ GE620.out) | exact HB.out)) hb)
         clear HO_621000
         clear HO639
         clear HO642
         clear BK602
         clear BK603
         clear BK620
         clear HB
         have HO_621000 := n0_
         have HO639 := n1_
         have HO642 := n2_
         have BK602 := n3_
         have BK603 := n4_
         have BK620 := n5_
         have HB := n6_
         clear n0_ n1_ n2_ n3_ n4_ n5_ n6_
         (try clear hb)
         (try clear hb2)
         (try clear hk)
         (try clear hi)
         refine hK.out _ _ ((blk_cell BK620.out 0).trans rfl) (fun hHeld => ?_)
         clear hK K
         refine norm_ (a' := ?_) ?_ ?_
         rotate_left
         ·show Act.put _ (some 156) _ = _
          simp only [Act.put, List.setIfInBounds_toArray, List.set_cons_zero, List.set_cons_succ, i64_w, i32_w]
          rfl
         refine pv_ 27 160 ttm50 HT_ ?_
         refine pv_ 28 161 ttm51 HT_ ?_
         refine pv_ 29 162 ttm52 HT_ ?_
         refine one_ (i := 30) (N := some 163) ttm53 rfl rfl (one_of HT_.out (by kernel_rfl)) (by decide) (fun K hK => ?_)
         refine goes_ Try.func30 (by kernel_rfl) rfl #[] (by rfl) rfl rfl (by (try simp only [List.map_toArray, List.map_cons, List.map_nil]); first | done | rfl | (simp only [List.length_drop, List.length_take]; rfl)) ?_
         with_reducible refine (mizmazetop_walks.calls kj52  t644 _ A68.out).mono ?_
         rintro e w83 ⟨rfl, hb⟩
         refine ⟨_, rfl, ?_⟩
         have n0_ := Aside0.mk (Kd.N_below (by (with_reducible repeat (first | apply Kd.N_alloc | apply Kd.N_drewN | apply Kd.N_drew)); exact HO_621000.out) hb)
         have n1_ := Aside0.mk (Kd.N_below (by (with_reducible repeat (first | apply Kd.N_alloc | apply Kd.N_drewN | apply Kd.N_drew)); exact HO639.out) hb)
         have n2_ := Aside0.mk (Kd.R_below (by (with_reducible repeat (first | apply Kd.R_alloc | apply Kd.R_drewN | apply Kd.R_drew)); exact HO642.out) hb)
         have n3_ := Aside0.mk (blk_below (g := gb602) (o := .cells #[.int .i64 a0_0, .int .i64 a0_1, .int .i64 a0_2] 50 (0, 0)) (by (with_reducible repeat (first | refine blk_drewN ?_ _ | refine blk_drew ?_ | refine blk_alloc ?_ _)); exact BK602.out) hb)
         have n4_ := Aside0.mk (blk_below (g := gb603) (o := .cells #[.int .i64 a2_0, .slice A2_1 l2_1.length c2_1, .slice A2_2 l2_2.length c2_2] 52 (0, 0)) (by (with_reducible repeat (first | refine blk_drewN ?_ _ | refine blk_drew ?_ | refine blk_alloc ?_ _)); exact BK603.out) hb)
         have n5_ := Aside0.mk (blk_below (g := gb620) (o := .cells #[.slice Ao41 t617.length co41] 38 (0, 0)) (by (with_reducible repeat (first | refine blk_drewN ?_ _ | refine blk_drew ?_ | refine blk_alloc ?_ _)); exact BK620.out) hb)
         have n6_ := Aside0.mk (below_step (by repeat (first | (with_reducible first | exact HB.out | apply below_alloc | apply pw_below_drewN | apply below_drew1 | refine below_set ?_ GE602.out | refine below_set ?_ GE603.out | refine below_set ?_ GE620.out) | exact HB.out)) hb)
         clear HO_621000
         clear HO639
         clear HO642
         clear BK602
         clear BK603
         clear BK620
         clear HB
         have HO_621000 := n0_
         have HO639 := n1_
         have HO642 := n2_
         have BK602 := n3_
         have BK603 := n4_
         have BK620 := n5_
         have HB := n6_
         clear n0_ n1_ n2_ n3_ n4_ n5_ n6_
         (try clear hb)
         (try clear hb2)
         (try clear hk)
         (try clear hi)
         refine hK.out _ _ ((blk_cell BK620.out 0).trans rfl) (fun hHeld => ?_)
         clear hK K
         refine norm_ (a' := ?_) ?_ ?_
         rotate_left
         ·show Act.put _ (some 163) _ = _
          simp only [Act.put, List.setIfInBounds_toArray, List.set_cons_zero, List.set_cons_succ, i64_w, i32_w]
          rfl
         refine pv_ 31 164 ttm54 HT_ ?_
         refine pv_ 32 6 ttm55 HT_ ?_
         refine done_ (done_of HT_.out (by kernel_rfl)) ?_
         try go_wp2
         go_ret
         exact ⟨by first | rfl | (simp [errW_none, errW_some] <;> rfl) | (simp only [← hji5]; first | rfl | (simp [errW_none, errW_some] <;> rfl)) | (simp [*, errW_none, errW_some] <;> rfl), by repeat (first | (with_reducible first | exact HB.out | apply below_alloc | apply pw_below_drewN | apply below_drew1 | refine below_set ?_ GE602.out | refine below_set ?_ GE603.out | refine below_set ?_ GE620.out) | exact HB.out)⟩
end Go.Proofs.Ytgbjbgdnldklpaa.Q
end
