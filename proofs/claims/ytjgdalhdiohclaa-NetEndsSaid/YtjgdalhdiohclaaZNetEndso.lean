/- NetEnds returns true for every input of its row; no further conditions. (text 15 of 17) -/
import Derived.Test.YtjgdalhdiohclaaZNetEndse
import Derived.Test.YtjgdalhdiohclaaZNetEndsg
import Derived.Test.YtjgdalhdiohclaaZNetEndsm
import Derived.Test.YtjgdalhdiohclaaZNetEndsf
import Derived.Test.YtjgdalhdiohclaaZNetEndsl
/-! Part QLaw02NetEnds -/
section
-- Written by xprint.py, a program of this session's, over the kit's print. Lean checks it.
namespace Go.Proofs.Ytjgdalhdiohclaa.Q
open Go.RowKit Go.Proofs.YtjgdalhdiohclaaW.PrintWords Go.Proofs.YtjgdalhdiohclaaW.PrintLast Go.Proofs.YtjgdalhdiohclaaW.PrintMore
attribute [local go_sem] max2_int min2_int max_two min_two max_three min_three max_four min_four
set_option linter.unusedVariables false
set_option linter.unusedSimpArgs false

/-! ### mizmazelaw02_NetEnds: function 7 -/
mutual
def mizmazelaw02_NetEnds.j0 : Nat → Int → Bool → List (List Int) → Option (Bool)
  | 0, _, _, _ => none
  | k + 1, x1, x26, x444000 => if x26 = true then ((mizmazelaw02_awake.f k).bind fun t446 => (some t446)) else ((net_Sinks.f k x444000).bind fun bt447 => (if bt447.2 = 0 then (mizmazelaw02_NetEnds.j1 k x1 bt447.1 ((bt447.1.length : Int) == 0) x444000) else (mizmazelaw02_NetEnds.j1 k x1 bt447.1 true x444000)))
def mizmazelaw02_NetEnds.j1 : Nat → Int → List (List Int) → Bool → List (List Int) → Option (Bool)
  | 0, _, _, _, _ => none
  | k + 1, x1, x5, x39, x444000 => if x39 = true then (some false) else (mizmazelaw02_NetEnds.l0 k x1 x5 false 0 x444000)
def mizmazelaw02_NetEnds.l0 : Nat → Int → List (List Int) → Bool → Int → List (List Int) → Option (Bool)
  | 0, _, _, _, _, _ => none
  | k + 1, x1, x5, x7, x8, x444000 => if x8 < (x5.length : Int) then (mizmazelaw02_NetEnds.l1 k x1 x5 x7 x8 0 x444000) else (if x7 = true then ((mizmazelaw02_awake.f k).bind fun t451 => (some t451)) else (some false))
def mizmazelaw02_NetEnds.l1 : Nat → Int → List (List Int) → Bool → Int → Int → List (List Int) → Option (Bool)
  | 0, _, _, _, _, _, _ => none
  | k + 1, x1, x5, x7, x8, x9, x444000 => if 0 ≤ x8 then (if x8 < (x5.length : Int) then (if x9 < ((rd_L1 x5 x8).length : Int) then (if 0 ≤ x9 then ((mizmazeref01_State.f x444000 (rd (rd_L1 x5 x8) x9)).bind fun t455 => (if t455 = true then (if 0 ≤ (rd (rd_L1 x5 x8) x9) then (if (rd (rd_L1 x5 x8) x9) < (x444000.length : Int) then ((mizmazeref01_Below.f k (rd_L1 x444000 (rd (rd_L1 x5 x8) x9)) (x444000.length : Int)).bind fun t457 => (mizmazelaw02_NetEnds.j4 k x1 x5 x7 x8 x9 (rd (rd_L1 x5 x8) x9) (!t457) x444000)) else (none)) else (none)) else (mizmazelaw02_NetEnds.j4 k x1 x5 x7 x8 x9 (rd (rd_L1 x5 x8) x9) true x444000))) else (none)) else (mizmazelaw02_NetEnds.l0 k x1 x5 x7 (wrap64 (x8 + 1)) x444000)) else (none)) else (none)
def mizmazelaw02_NetEnds.j4 : Nat → Int → List (List Int) → Bool → Int → Int → Int → Bool → List (List Int) → Option (Bool)
  | 0, _, _, _, _, _, _, _, _ => none
  | k + 1, x1, x5, x7, x8, x9, x10, x77, x444000 => if x77 = true then (some false) else (mizmazelaw02_NetEnds.l2 k x1 x5 x7 x8 x9 x10 0 x444000)
def mizmazelaw02_NetEnds.l2 : Nat → Int → List (List Int) → Bool → Int → Int → Int → Int → List (List Int) → Option (Bool)
  | 0, _, _, _, _, _, _, _, _ => none
  | k + 1, x1, x5, x7, x8, x9, x10, x11, x444000 => (mizmazeref01_Letters.f x444000).bind fun t458 => (if x11 < t458 then (if 0 ≤ x8 then (if x8 < (x5.length : Int) then (if 0 ≤ x10 then (if x10 < (x444000.length : Int) then (if 0 ≤ x11 then (if x11 < ((rd_L1 x444000 x10).length : Int) then ((mizmazeref01_Has.f k (rd_L1 x5 x8) (rd (rd_L1 x444000 x10) x11)).bind fun t462 => (if t462 = true then (mizmazelaw02_NetEnds.l2 k x1 x5 x7 x8 x9 x10 (wrap64 (x11 + 1)) x444000) else (some false))) else (none)) else (none)) else (none)) else (none)) else (none)) else (none)) else ((net_Path.f k x444000 x1 x10).bind fun bt463 => (if bt463.2 = 0 then ((auto_Run.f k x444000 x1 bt463.1).bind fun bt467 => (if bt467.2 = 0 then (if bt467.1 = x10 then (mizmazelaw02_NetEnds.j6 k x1 x5 x7 x8 x9 x10 bt463.2 x444000) else (some false)) else (some false))) else (mizmazelaw02_NetEnds.j6 k x1 x5 x7 x8 x9 x10 bt463.2 x444000))))
def mizmazelaw02_NetEnds.j6 : Nat → Int → List (List Int) → Bool → Int → Int → Int → Int → List (List Int) → Option (Bool)
  | 0, _, _, _, _, _, _, _, _ => none
  | k + 1, x1, x5, x7, x8, x9, x10, x13, x444000 => if x7 = true then (mizmazelaw02_NetEnds.j7 k x1 x5 true x8 x9 x10 x444000) else (mizmazelaw02_NetEnds.j7 k x1 x5 (x13 == 0) x8 x9 x10 x444000)
def mizmazelaw02_NetEnds.j7 : Nat → Int → List (List Int) → Bool → Int → Int → Int → List (List Int) → Option (Bool)
  | 0, _, _, _, _, _, _, _ => none
  | k + 1, x1, x5, x7, x8, x9, x10, x444000 => (net_Path.f k x444000 x10 x1).bind fun bt469 => (if 0 ≤ x8 then (if x8 < (x5.length : Int) then ((mizmazeref01_Has.f k (rd_L1 x5 x8) x1).bind fun t474 => (if ((bt469.2 == 0) != t474) = true then (some false) else (mizmazelaw02_NetEnds.l1 k x1 x5 x7 x8 (wrap64 (x9 + 1)) x444000))) else (none)) else (none))
end
def mizmazelaw02_NetEnds.f (k : Nat) (l0_0 : List (List Int)) (a1 : Int) : Option (Bool) := (mizmazeref01_Valid.f k l0_0).bind fun t444 => (if t444 = true then ((mizmazeref01_State.f l0_0 a1).bind fun t445 => (mizmazelaw02_NetEnds.j0 k a1 (!t445) l0_0)) else (mizmazelaw02_NetEnds.j0 k a1 true l0_0))
theorem mizmazelaw02_NetEnds.mono_l : ∀ k, (∀ y0 y1 y2, LeO (mizmazelaw02_NetEnds.j0 k y0 y1 y2) (mizmazelaw02_NetEnds.j0 (k + 1) y0 y1 y2)) ∧ (∀ y0 y1 y2 y3, LeO (mizmazelaw02_NetEnds.j1 k y0 y1 y2 y3) (mizmazelaw02_NetEnds.j1 (k + 1) y0 y1 y2 y3)) ∧ (∀ y0 y1 y2 y3 y4, LeO (mizmazelaw02_NetEnds.l0 k y0 y1 y2 y3 y4) (mizmazelaw02_NetEnds.l0 (k + 1) y0 y1 y2 y3 y4)) ∧ (∀ y0 y1 y2 y3 y4 y5, LeO (mizmazelaw02_NetEnds.l1 k y0 y1 y2 y3 y4 y5) (mizmazelaw02_NetEnds.l1 (k + 1) y0 y1 y2 y3 y4 y5)) ∧ (∀ y0 y1 y2 y3 y4 y5 y6 y7, LeO (mizmazelaw02_NetEnds.j4 k y0 y1 y2 y3 y4 y5 y6 y7) (mizmazelaw02_NetEnds.j4 (k + 1) y0 y1 y2 y3 y4 y5 y6 y7)) ∧ (∀ y0 y1 y2 y3 y4 y5 y6 y7, LeO (mizmazelaw02_NetEnds.l2 k y0 y1 y2 y3 y4 y5 y6 y7) (mizmazelaw02_NetEnds.l2 (k + 1) y0 y1 y2 y3 y4 y5 y6 y7)) ∧ (∀ y0 y1 y2 y3 y4 y5 y6 y7, LeO (mizmazelaw02_NetEnds.j6 k y0 y1 y2 y3 y4 y5 y6 y7) (mizmazelaw02_NetEnds.j6 (k + 1) y0 y1 y2 y3 y4 y5 y6 y7)) ∧ (∀ y0 y1 y2 y3 y4 y5 y6, LeO (mizmazelaw02_NetEnds.j7 k y0 y1 y2 y3 y4 y5 y6) (mizmazelaw02_NetEnds.j7 (k + 1) y0 y1 y2 y3 y4 y5 y6))
  | 0 => ⟨fun _ _ _ r h => by simp [mizmazelaw02_NetEnds.j0] at h, fun _ _ _ _ r h => by simp [mizmazelaw02_NetEnds.j1] at h, fun _ _ _ _ _ r h => by simp [mizmazelaw02_NetEnds.l0] at h, fun _ _ _ _ _ _ r h => by simp [mizmazelaw02_NetEnds.l1] at h, fun _ _ _ _ _ _ _ _ r h => by simp [mizmazelaw02_NetEnds.j4] at h, fun _ _ _ _ _ _ _ _ r h => by simp [mizmazelaw02_NetEnds.l2] at h, fun _ _ _ _ _ _ _ _ r h => by simp [mizmazelaw02_NetEnds.j6] at h, fun _ _ _ _ _ _ _ r h => by simp [mizmazelaw02_NetEnds.j7] at h⟩
  | k + 1 => by
    obtain ⟨ih0, ih1, ih2, ih3, ih4, ih5, ih6, ih7⟩ := mizmazelaw02_NetEnds.mono_l k
    refine ⟨?_, ?_, ?_, ?_, ?_, ?_, ?_, ?_⟩
    · intro y0 y1 y2
      unfold mizmazelaw02_NetEnds.j0
      repeat' first
      | (with_reducible exact ih0 _ _ _)
      | (with_reducible exact ih1 _ _ _ _)
      | (with_reducible exact ih2 _ _ _ _ _)
      | (with_reducible exact ih3 _ _ _ _ _ _)
      | (with_reducible exact ih4 _ _ _ _ _ _ _ _)
      | (with_reducible exact ih5 _ _ _ _ _ _ _ _)
      | (with_reducible exact ih6 _ _ _ _ _ _ _ _)
      | (with_reducible exact ih7 _ _ _ _ _ _ _)
      | (with_reducible exact auto_Run.mono _ _ _ _)
      | (with_reducible exact mizmazelaw02_awake.mono _)
      | (with_reducible exact mizmazeref01_Below.mono _ _ _)
      | (with_reducible exact mizmazeref01_Has.mono _ _ _)
      | (with_reducible exact mizmazeref01_Valid.mono _ _)
      | (with_reducible exact net_Path.mono _ _ _ _)
      | (with_reducible exact net_Sinks.mono _ _)
      | (with_reducible exact LeO.refl _)
      | (with_reducible exact LeO.none _)
      | (with_reducible refine LeO.ite ?_ ?_)
      | (with_reducible refine LeO.bind ?_ (fun _ => ?_))
      | exact ih0 _ _ _
      | exact ih1 _ _ _ _
      | exact ih2 _ _ _ _ _
      | exact ih3 _ _ _ _ _ _
      | exact ih4 _ _ _ _ _ _ _ _
      | exact ih5 _ _ _ _ _ _ _ _
      | exact ih6 _ _ _ _ _ _ _ _
      | exact ih7 _ _ _ _ _ _ _
      | exact auto_Run.mono _ _ _ _
      | exact mizmazelaw02_awake.mono _
      | exact mizmazeref01_Below.mono _ _ _
      | exact mizmazeref01_Has.mono _ _ _
      | exact mizmazeref01_Valid.mono _ _
      | exact net_Path.mono _ _ _ _
      | exact net_Sinks.mono _ _
      | exact LeO.none _
      | refine LeO.ite ?_ ?_
      | refine LeO.bind ?_ (fun _ => ?_)
    · intro y0 y1 y2 y3
      unfold mizmazelaw02_NetEnds.j1
      repeat' first
      | (with_reducible exact ih0 _ _ _)
      | (with_reducible exact ih1 _ _ _ _)
      | (with_reducible exact ih2 _ _ _ _ _)
      | (with_reducible exact ih3 _ _ _ _ _ _)
      | (with_reducible exact ih4 _ _ _ _ _ _ _ _)
      | (with_reducible exact ih5 _ _ _ _ _ _ _ _)
      | (with_reducible exact ih6 _ _ _ _ _ _ _ _)
      | (with_reducible exact ih7 _ _ _ _ _ _ _)
      | (with_reducible exact auto_Run.mono _ _ _ _)
      | (with_reducible exact mizmazelaw02_awake.mono _)
      | (with_reducible exact mizmazeref01_Below.mono _ _ _)
      | (with_reducible exact mizmazeref01_Has.mono _ _ _)
      | (with_reducible exact mizmazeref01_Valid.mono _ _)
      | (with_reducible exact net_Path.mono _ _ _ _)
      | (with_reducible exact net_Sinks.mono _ _)
      | (with_reducible exact LeO.refl _)
      | (with_reducible exact LeO.none _)
      | (with_reducible refine LeO.ite ?_ ?_)
      | (with_reducible refine LeO.bind ?_ (fun _ => ?_))
      | exact ih0 _ _ _
      | exact ih1 _ _ _ _
      | exact ih2 _ _ _ _ _
      | exact ih3 _ _ _ _ _ _
      | exact ih4 _ _ _ _ _ _ _ _
      | exact ih5 _ _ _ _ _ _ _ _
      | exact ih6 _ _ _ _ _ _ _ _
      | exact ih7 _ _ _ _ _ _ _
      | exact auto_Run.mono _ _ _ _
      | exact mizmazelaw02_awake.mono _
      | exact mizmazeref01_Below.mono _ _ _
      | exact mizmazeref01_Has.mono _ _ _
      | exact mizmazeref01_Valid.mono _ _
      | exact net_Path.mono _ _ _ _
      | exact net_Sinks.mono _ _
      | exact LeO.none _
      | refine LeO.ite ?_ ?_
      | refine LeO.bind ?_ (fun _ => ?_)
    · intro y0 y1 y2 y3 y4
      unfold mizmazelaw02_NetEnds.l0
      repeat' first
      | (with_reducible exact ih0 _ _ _)
      | (with_reducible exact ih1 _ _ _ _)
      | (with_reducible exact ih2 _ _ _ _ _)
      | (with_reducible exact ih3 _ _ _ _ _ _)
      | (with_reducible exact ih4 _ _ _ _ _ _ _ _)
      | (with_reducible exact ih5 _ _ _ _ _ _ _ _)
      | (with_reducible exact ih6 _ _ _ _ _ _ _ _)
      | (with_reducible exact ih7 _ _ _ _ _ _ _)
      | (with_reducible exact auto_Run.mono _ _ _ _)
      | (with_reducible exact mizmazelaw02_awake.mono _)
      | (with_reducible exact mizmazeref01_Below.mono _ _ _)
      | (with_reducible exact mizmazeref01_Has.mono _ _ _)
      | (with_reducible exact mizmazeref01_Valid.mono _ _)
      | (with_reducible exact net_Path.mono _ _ _ _)
      | (with_reducible exact net_Sinks.mono _ _)
      | (with_reducible exact LeO.refl _)
      | (with_reducible exact LeO.none _)
      | (with_reducible refine LeO.ite ?_ ?_)
      | (with_reducible refine LeO.bind ?_ (fun _ => ?_))
      | exact ih0 _ _ _
      | exact ih1 _ _ _ _
      | exact ih2 _ _ _ _ _
      | exact ih3 _ _ _ _ _ _
      | exact ih4 _ _ _ _ _ _ _ _
      | exact ih5 _ _ _ _ _ _ _ _
      | exact ih6 _ _ _ _ _ _ _ _
      | exact ih7 _ _ _ _ _ _ _
      | exact auto_Run.mono _ _ _ _
      | exact mizmazelaw02_awake.mono _
      | exact mizmazeref01_Below.mono _ _ _
      | exact mizmazeref01_Has.mono _ _ _
      | exact mizmazeref01_Valid.mono _ _
      | exact net_Path.mono _ _ _ _
      | exact net_Sinks.mono _ _
      | exact LeO.none _
      | refine LeO.ite ?_ ?_
      | refine LeO.bind ?_ (fun _ => ?_)
    · intro y0 y1 y2 y3 y4 y5
      unfold mizmazelaw02_NetEnds.l1
      repeat' first
      | (with_reducible exact ih0 _ _ _)
      | (with_reducible exact ih1 _ _ _ _)
      | (with_reducible exact ih2 _ _ _ _ _)
      | (with_reducible exact ih3 _ _ _ _ _ _)
      | (with_reducible exact ih4 _ _ _ _ _ _ _ _)
      | (with_reducible exact ih5 _ _ _ _ _ _ _ _)
      | (with_reducible exact ih6 _ _ _ _ _ _ _ _)
      | (with_reducible exact ih7 _ _ _ _ _ _ _)
      | (with_reducible exact auto_Run.mono _ _ _ _)
      | (with_reducible exact mizmazelaw02_awake.mono _)
      | (with_reducible exact mizmazeref01_Below.mono _ _ _)
      | (with_reducible exact mizmazeref01_Has.mono _ _ _)
      | (with_reducible exact mizmazeref01_Valid.mono _ _)
      | (with_reducible exact net_Path.mono _ _ _ _)
      | (with_reducible exact net_Sinks.mono _ _)
      | (with_reducible exact LeO.refl _)
      | (with_reducible exact LeO.none _)
      | (with_reducible refine LeO.ite ?_ ?_)
      | (with_reducible refine LeO.bind ?_ (fun _ => ?_))
      | exact ih0 _ _ _
      | exact ih1 _ _ _ _
      | exact ih2 _ _ _ _ _
      | exact ih3 _ _ _ _ _ _
      | exact ih4 _ _ _ _ _ _ _ _
      | exact ih5 _ _ _ _ _ _ _ _
      | exact ih6 _ _ _ _ _ _ _ _
      | exact ih7 _ _ _ _ _ _ _
      | exact auto_Run.mono _ _ _ _
      | exact mizmazelaw02_awake.mono _
      | exact mizmazeref01_Below.mono _ _ _
      | exact mizmazeref01_Has.mono _ _ _
      | exact mizmazeref01_Valid.mono _ _
      | exact net_Path.mono _ _ _ _
      | exact net_Sinks.mono _ _
      | exact LeO.none _
      | refine LeO.ite ?_ ?_
      | refine LeO.bind ?_ (fun _ => ?_)
    · intro y0 y1 y2 y3 y4 y5 y6 y7
      unfold mizmazelaw02_NetEnds.j4
      repeat' first
      | (with_reducible exact ih0 _ _ _)
      | (with_reducible exact ih1 _ _ _ _)
      | (with_reducible exact ih2 _ _ _ _ _)
      | (with_reducible exact ih3 _ _ _ _ _ _)
      | (with_reducible exact ih4 _ _ _ _ _ _ _ _)
      | (with_reducible exact ih5 _ _ _ _ _ _ _ _)
      | (with_reducible exact ih6 _ _ _ _ _ _ _ _)
      | (with_reducible exact ih7 _ _ _ _ _ _ _)
      | (with_reducible exact auto_Run.mono _ _ _ _)
      | (with_reducible exact mizmazelaw02_awake.mono _)
      | (with_reducible exact mizmazeref01_Below.mono _ _ _)
      | (with_reducible exact mizmazeref01_Has.mono _ _ _)
      | (with_reducible exact mizmazeref01_Valid.mono _ _)
      | (with_reducible exact net_Path.mono _ _ _ _)
      | (with_reducible exact net_Sinks.mono _ _)
      | (with_reducible exact LeO.refl _)
      | (with_reducible exact LeO.none _)
      | (with_reducible refine LeO.ite ?_ ?_)
      | (with_reducible refine LeO.bind ?_ (fun _ => ?_))
      | exact ih0 _ _ _
      | exact ih1 _ _ _ _
      | exact ih2 _ _ _ _ _
      | exact ih3 _ _ _ _ _ _
      | exact ih4 _ _ _ _ _ _ _ _
      | exact ih5 _ _ _ _ _ _ _ _
      | exact ih6 _ _ _ _ _ _ _ _
      | exact ih7 _ _ _ _ _ _ _
      | exact auto_Run.mono _ _ _ _
      | exact mizmazelaw02_awake.mono _
      | exact mizmazeref01_Below.mono _ _ _
      | exact mizmazeref01_Has.mono _ _ _
      | exact mizmazeref01_Valid.mono _ _
      | exact net_Path.mono _ _ _ _
      | exact net_Sinks.mono _ _
      | exact LeO.none _
      | refine LeO.ite ?_ ?_
      | refine LeO.bind ?_ (fun _ => ?_)
    · intro y0 y1 y2 y3 y4 y5 y6 y7
      unfold mizmazelaw02_NetEnds.l2
      repeat' first
      | (with_reducible exact ih0 _ _ _)
      | (with_reducible exact ih1 _ _ _ _)
      | (with_reducible exact ih2 _ _ _ _ _)
      | (with_reducible exact ih3 _ _ _ _ _ _)
      | (with_reducible exact ih4 _ _ _ _ _ _ _ _)
      | (with_reducible exact ih5 _ _ _ _ _ _ _ _)
      | (with_reducible exact ih6 _ _ _ _ _ _ _ _)
      | (with_reducible exact ih7 _ _ _ _ _ _ _)
      | (with_reducible exact auto_Run.mono _ _ _ _)
      | (with_reducible exact mizmazelaw02_awake.mono _)
      | (with_reducible exact mizmazeref01_Below.mono _ _ _)
      | (with_reducible exact mizmazeref01_Has.mono _ _ _)
      | (with_reducible exact mizmazeref01_Valid.mono _ _)
      | (with_reducible exact net_Path.mono _ _ _ _)
      | (with_reducible exact net_Sinks.mono _ _)
      | (with_reducible exact LeO.refl _)
      | (with_reducible exact LeO.none _)
      | (with_reducible refine LeO.ite ?_ ?_)
      | (with_reducible refine LeO.bind ?_ (fun _ => ?_))
      | exact ih0 _ _ _
      | exact ih1 _ _ _ _
      | exact ih2 _ _ _ _ _
      | exact ih3 _ _ _ _ _ _
      | exact ih4 _ _ _ _ _ _ _ _
      | exact ih5 _ _ _ _ _ _ _ _
      | exact ih6 _ _ _ _ _ _ _ _
      | exact ih7 _ _ _ _ _ _ _
      | exact auto_Run.mono _ _ _ _
      | exact mizmazelaw02_awake.mono _
      | exact mizmazeref01_Below.mono _ _ _
      | exact mizmazeref01_Has.mono _ _ _
      | exact mizmazeref01_Valid.mono _ _
      | exact net_Path.mono _ _ _ _
      | exact net_Sinks.mono _ _
      | exact LeO.none _
      | refine LeO.ite ?_ ?_
      | refine LeO.bind ?_ (fun _ => ?_)
    · intro y0 y1 y2 y3 y4 y5 y6 y7
      unfold mizmazelaw02_NetEnds.j6
      repeat' first
      | (with_reducible exact ih0 _ _ _)
      | (with_reducible exact ih1 _ _ _ _)
      | (with_reducible exact ih2 _ _ _ _ _)
      | (with_reducible exact ih3 _ _ _ _ _ _)
      | (with_reducible exact ih4 _ _ _ _ _ _ _ _)
      | (with_reducible exact ih5 _ _ _ _ _ _ _ _)
      | (with_reducible exact ih6 _ _ _ _ _ _ _ _)
      | (with_reducible exact ih7 _ _ _ _ _ _ _)
      | (with_reducible exact auto_Run.mono _ _ _ _)
      | (with_reducible exact mizmazelaw02_awake.mono _)
      | (with_reducible exact mizmazeref01_Below.mono _ _ _)
      | (with_reducible exact mizmazeref01_Has.mono _ _ _)
      | (with_reducible exact mizmazeref01_Valid.mono _ _)
      | (with_reducible exact net_Path.mono _ _ _ _)
      | (with_reducible exact net_Sinks.mono _ _)
      | (with_reducible exact LeO.refl _)
      | (with_reducible exact LeO.none _)
      | (with_reducible refine LeO.ite ?_ ?_)
      | (with_reducible refine LeO.bind ?_ (fun _ => ?_))
      | exact ih0 _ _ _
      | exact ih1 _ _ _ _
      | exact ih2 _ _ _ _ _
      | exact ih3 _ _ _ _ _ _
      | exact ih4 _ _ _ _ _ _ _ _
      | exact ih5 _ _ _ _ _ _ _ _
      | exact ih6 _ _ _ _ _ _ _ _
      | exact ih7 _ _ _ _ _ _ _
      | exact auto_Run.mono _ _ _ _
      | exact mizmazelaw02_awake.mono _
      | exact mizmazeref01_Below.mono _ _ _
      | exact mizmazeref01_Has.mono _ _ _
      | exact mizmazeref01_Valid.mono _ _
      | exact net_Path.mono _ _ _ _
      | exact net_Sinks.mono _ _
      | exact LeO.none _
      | refine LeO.ite ?_ ?_
      | refine LeO.bind ?_ (fun _ => ?_)
    · intro y0 y1 y2 y3 y4 y5 y6
      unfold mizmazelaw02_NetEnds.j7
      repeat' first
      | (with_reducible exact ih0 _ _ _)
      | (with_reducible exact ih1 _ _ _ _)
      | (with_reducible exact ih2 _ _ _ _ _)
      | (with_reducible exact ih3 _ _ _ _ _ _)
      | (with_reducible exact ih4 _ _ _ _ _ _ _ _)
      | (with_reducible exact ih5 _ _ _ _ _ _ _ _)
      | (with_reducible exact ih6 _ _ _ _ _ _ _ _)
      | (with_reducible exact ih7 _ _ _ _ _ _ _)
      | (with_reducible exact auto_Run.mono _ _ _ _)
      | (with_reducible exact mizmazelaw02_awake.mono _)
      | (with_reducible exact mizmazeref01_Below.mono _ _ _)
      | (with_reducible exact mizmazeref01_Has.mono _ _ _)
      | (with_reducible exact mizmazeref01_Valid.mono _ _)
      | (with_reducible exact net_Path.mono _ _ _ _)
      | (with_reducible exact net_Sinks.mono _ _)
      | (with_reducible exact LeO.refl _)
      | (with_reducible exact LeO.none _)
      | (with_reducible refine LeO.ite ?_ ?_)
      | (with_reducible refine LeO.bind ?_ (fun _ => ?_))
      | exact ih0 _ _ _
      | exact ih1 _ _ _ _
      | exact ih2 _ _ _ _ _
      | exact ih3 _ _ _ _ _ _
      | exact ih4 _ _ _ _ _ _ _ _
      | exact ih5 _ _ _ _ _ _ _ _
      | exact ih6 _ _ _ _ _ _ _ _
      | exact ih7 _ _ _ _ _ _ _
      | exact auto_Run.mono _ _ _ _
      | exact mizmazelaw02_awake.mono _
      | exact mizmazeref01_Below.mono _ _ _
      | exact mizmazeref01_Has.mono _ _ _
      | exact mizmazeref01_Valid.mono _ _
      | exact net_Path.mono _ _ _ _
      | exact net_Sinks.mono _ _
      | exact LeO.none _
      | refine LeO.ite ?_ ?_
      | refine LeO.bind ?_ (fun _ => ?_)
theorem mizmazelaw02_NetEnds.mono : ∀ a0 a1 k, LeO (mizmazelaw02_NetEnds.f k a0 a1) (mizmazelaw02_NetEnds.f (k + 1) a0 a1) := by
  intro a0 a1 k
  obtain ⟨ih0, ih1, ih2, ih3, ih4, ih5, ih6, ih7⟩ := mizmazelaw02_NetEnds.mono_l k
  unfold mizmazelaw02_NetEnds.f
  repeat' first
      | (with_reducible exact ih0 _ _ _)
      | (with_reducible exact ih1 _ _ _ _)
      | (with_reducible exact ih2 _ _ _ _ _)
      | (with_reducible exact ih3 _ _ _ _ _ _)
      | (with_reducible exact ih4 _ _ _ _ _ _ _ _)
      | (with_reducible exact ih5 _ _ _ _ _ _ _ _)
      | (with_reducible exact ih6 _ _ _ _ _ _ _ _)
      | (with_reducible exact ih7 _ _ _ _ _ _ _)
      | (with_reducible exact auto_Run.mono _ _ _ _)
      | (with_reducible exact mizmazelaw02_awake.mono _)
      | (with_reducible exact mizmazeref01_Below.mono _ _ _)
      | (with_reducible exact mizmazeref01_Has.mono _ _ _)
      | (with_reducible exact mizmazeref01_Valid.mono _ _)
      | (with_reducible exact net_Path.mono _ _ _ _)
      | (with_reducible exact net_Sinks.mono _ _)
      | (with_reducible exact LeO.refl _)
      | (with_reducible exact LeO.none _)
      | (with_reducible refine LeO.ite ?_ ?_)
      | (with_reducible refine LeO.bind ?_ (fun _ => ?_))
      | exact ih0 _ _ _
      | exact ih1 _ _ _ _
      | exact ih2 _ _ _ _ _
      | exact ih3 _ _ _ _ _ _
      | exact ih4 _ _ _ _ _ _ _ _
      | exact ih5 _ _ _ _ _ _ _ _
      | exact ih6 _ _ _ _ _ _ _ _
      | exact ih7 _ _ _ _ _ _ _
      | exact auto_Run.mono _ _ _ _
      | exact mizmazelaw02_awake.mono _
      | exact mizmazeref01_Below.mono _ _ _
      | exact mizmazeref01_Has.mono _ _ _
      | exact mizmazeref01_Valid.mono _ _
      | exact net_Path.mono _ _ _ _
      | exact net_Sinks.mono _ _
      | exact LeO.none _
      | refine LeO.ite ?_ ?_
      | refine LeO.bind ?_ (fun _ => ?_)
def mizmazelaw02_NetEnds.T14 : Bool × List (List Nat × List Nat) := (true, [([], []), ([], []), ([0, 1], [0, 1]), ([2], [2]), ([3, 2], [3]), ([4], [4]), ([5, 4], [4, 5]), ([4], [4]), ([6, 7, 4], [4, 6, 7]), ([8, 4], [4, 8]), ([4], [4]), ([10, 4], [4, 10]), ([11, 4], [4, 11]), ([9, 12, 4, 4], [4, 9, 12]), ([13, 4], [4, 13]), ([4, 14], [4, 14])])
def mizmazelaw02_NetEnds.B14 : List Nat := [0, 0, 3, 7, 15, 31, 63, 31, 255, 511, 31, 1055, 3103, 8191, 16383, 32767]
theorem mizmazelaw02_NetEnds.tab14 : rtab .any (opsOf Try.f7 14) = mizmazelaw02_NetEnds.T14 := by kernel_rfl
theorem mizmazelaw02_NetEnds.bits14 : waitsOk mizmazelaw02_NetEnds.T14.2 mizmazelaw02_NetEnds.B14 = true := by kernel_rfl
def mizmazelaw02_NetEnds.T19 : Bool × List (List Nat × List Nat) := (true, [([], []), ([], []), ([0, 1], [0, 1]), ([2], [2]), ([], []), ([4], [4]), ([], []), ([5, 6], [5, 6]), ([7], [7]), ([], []), ([8, 9], [8, 9]), ([10], [10]), ([3, 11], [3, 11]), ([12], [12])])
def mizmazelaw02_NetEnds.B19 : List Nat := [0, 0, 3, 7, 0, 16, 0, 112, 240, 0, 1008, 2032, 4095, 8191]
theorem mizmazelaw02_NetEnds.tab19 : rtab .any (opsOf Try.f7 19) = mizmazelaw02_NetEnds.T19 := by kernel_rfl
theorem mizmazelaw02_NetEnds.bits19 : waitsOk mizmazelaw02_NetEnds.T19.2 mizmazelaw02_NetEnds.B19 = true := by kernel_rfl
set_option maxHeartbeats 8000000 in
set_option maxRecDepth 100000 in
theorem mizmazelaw02_NetEnds.calls (k : Nat) (A0_0 : Option Addr) (c0_0 : Nat) (l0_0 : List (List Int)) (a1 : Int) (r : Bool) (w : World) (hr0_0 : Kd.C (Kd.slice 3 (Kd.int .i64)) w A0_0 l0_0.length l0_0) (hc0_0 : l0_0.length ≤ c0_0) (h : mizmazelaw02_NetEnds.f k l0_0 a1 = some r) :
    Calls Try.prog 7 #[.agg #[.slice A0_0 l0_0.length c0_0], .int .i64 a1] w fun e w' => e = .returned (.bool r) ∧ Below w.heap.size w w' := by
  have hu24 := Try.underlying24
  have HR0_0 := Aside0.mk hr0_0
  have HC0_0 := Aside0.mk hc0_0
  clear hr0_0 hc0_0
  have HB := Aside0.mk (Below.refl w.heap.size w)
  have H : ((mizmazeref01_Valid.f k l0_0).bind fun t444 => (if t444 = true then ((mizmazeref01_State.f l0_0 a1).bind fun t445 => (mizmazelaw02_NetEnds.j0 k a1 (!t445) l0_0)) else (mizmazelaw02_NetEnds.j0 k a1 true l0_0))) = some r := h
  clear h
  have HC3 := Aside0.mk H
  clear H
  go_enter Try.func7, Try.ntmps7
  go_upto_region 1 with (first | ((with_reducible refine gate_dst (N := 2) rfl ?_); (try (refine gate_guard (by rfl) ?_; dsimp only)); refine box_event ?hg (N := 2) ?hd (cs := #[.slice A0_0 l0_0.length c0_0]) (t := 24) ?hr ?_; (case hd => rfl); (case hg => rfl); (case hr => first | (go_simp; done) | (go_simp; rfl)); intro gb443 hg w4 hbox hb; have n0_ := Aside0.mk (below_step (by repeat (first | (with_reducible first | exact HB.out | apply below_alloc | apply pw_below_drewN | apply below_drew1) | exact HB.out)) hb); have n1_ := Aside0.mk (hbox); have n2_ := Aside0.mk ((by rw [hg]; exact (below_size (by repeat (first | (with_reducible first | exact HB.out | apply below_alloc | apply pw_below_drewN | apply below_drew1) | exact HB.out))) : w.heap.size ≤ gb443)); have n3_ := Aside0.mk ((by rw [hg]; exact (below_size (by repeat (first | (with_reducible first | exact HB.out | apply below_alloc | apply pw_below_drewN | apply below_drew1) | exact HB.out))) : w.heap.size ≤ gb443)); clear HB; have HB := n0_; have BK443 := n1_; have GW443 := n2_; have GE443 := n3_; clear n0_ n1_ n2_ n3_; clear hb hbox hg))
  (try simp only [Act.put, List.setIfInBounds_toArray, List.set_cons_zero, List.set_cons_succ])
  go_cut [26] (fun v26 wc => ∃ (kq : Nat) (x26_2 : Bool), v26 = .bool x26_2 ∧ Aside0 (mizmazelaw02_NetEnds.j0 kq a1 x26_2 l0_0 = some r) ∧ Aside0 (kq ≤ k) ∧ Aside0 (wc.heap[gb443]? = some (.cells #[(.slice A0_0 l0_0.length c0_0)] 24 (0, 0))) ∧ Aside0 (Below w.heap.size w wc))
  case first =>
    have H := HC3.out
    clear HC3
    replace H := Option.bind_eq_some_iff.mp H
    obtain ⟨t444, A50, H⟩ := H
    replace H : (if t444 = true then ((mizmazeref01_State.f l0_0 a1).bind fun t445 => (mizmazelaw02_NetEnds.j0 k a1 (!t445) l0_0)) else (mizmazelaw02_NetEnds.j0 k a1 true l0_0)) = some r := H
    have A5 := Aside0.mk A50
    clear A50
    by_cases c6 : t444 = true
    · subst c6
      have H1 : ((mizmazeref01_State.f l0_0 a1).bind fun t445 => (mizmazelaw02_NetEnds.j0 k a1 (!t445) l0_0)) = some r := by rw [if_pos rfl] at H; exact H
      clear H
      have H := H1
      clear H1
      replace H := Option.bind_eq_some_iff.mp H
      obtain ⟨t445, A70, H⟩ := H
      replace H : (mizmazelaw02_NetEnds.j0 k a1 (!t445) l0_0) = some r := H
      have A7 := Aside0.mk A70
      clear A70
      have H' := Aside0.mk H
      clear H
      have hcz8_0 : w4.cell? ⟨gb443, 0, none⟩ = some (.slice A0_0 l0_0.length c0_0) := (blk_cell BK443.out 0).trans rfl
      have hfz8_0 := blk_frozen BK443.out 0
      go_wp2_with (first | ((with_reducible refine gate_callee (f := 18) rfl ?_); refine goesL_ (some 19) rfl rfl Try.func18 (by kernel_rfl) rfl #[.agg #[.slice A0_0 l0_0.length c0_0]] rfl (by (try simp only [List.map_toArray, List.map_cons, List.map_nil]); first | done | rfl | (simp only [List.length_drop, List.length_take]; rfl)) ?_; (with_reducible refine (mizmazeref01_Valid.calls k _ _ l0_0 true _ ?side1 ?side2 A5.out).mono ?_); (case side1 => repeat (first | exact (Kd.C_below HR0_0.out HB.out) | (with_reducible refine Kd.C_alloc ?_ _) | (with_reducible refine Kd.C_drewN ?_ _) | (with_reducible refine Kd.C_drew ?_))); (case side2 => exact HC0_0.out); rintro e w9 ⟨rfl, hb⟩; refine ⟨_, rfl, ?_⟩; have n0_ := Aside0.mk (blk_below (g := gb443) (o := .cells #[.slice A0_0 l0_0.length c0_0] 24 (0, 0)) (by (with_reducible repeat (first | refine blk_drewN ?_ _ | refine blk_drew ?_ | refine blk_alloc ?_ _)); exact BK443.out) hb); have n1_ := Aside0.mk (below_step (by repeat (first | (with_reducible first | exact HB.out | apply below_alloc | apply pw_below_drewN | apply below_drew1 | refine below_set ?_ GE443.out) | exact HB.out)) hb); clear BK443; clear HB; have BK443 := n0_; have HB := n1_; clear n0_ n1_; (try clear hb); (try clear hb2); (try clear hk); (try clear hi); have hcz10_0 : w9.cell? ⟨gb443, 0, none⟩ = some (.slice A0_0 l0_0.length c0_0) := (blk_cell BK443.out 0).trans rfl; have hfz10_0 := blk_frozen BK443.out 0) | (go_at_call 21; (with_reducible refine (mizmazeref01_State.calls _ _ l0_0 a1 t445 _ ?side1 ?side2 A7.out).mono ?_); (case side1 => repeat (first | exact (Kd.C_below HR0_0.out HB.out) | (with_reducible refine Kd.C_alloc ?_ _) | (with_reducible refine Kd.C_drewN ?_ _) | (with_reducible refine Kd.C_drew ?_))); (case side2 => exact HC0_0.out); rintro e w11 ⟨rfl, hb⟩; have n0_ := Aside0.mk (blk_below (g := gb443) (o := .cells #[.slice A0_0 l0_0.length c0_0] 24 (0, 0)) (by (with_reducible repeat (first | refine blk_drewN ?_ _ | refine blk_drew ?_ | refine blk_alloc ?_ _)); exact BK443.out) hb); have n1_ := Aside0.mk (below_step (by repeat (first | (with_reducible first | exact HB.out | apply below_alloc | apply pw_below_drewN | apply below_drew1 | refine below_set ?_ GE443.out) | exact HB.out)) hb); clear BK443; clear HB; have BK443 := n0_; have HB := n1_; clear n0_ n1_; (try clear hb); (try clear hb2); (try clear hk); (try clear hi)))
      go_meet
      case rel => exact ⟨_, (!t445), (by first | rfl | (simp; done) | (simp [*]; done)), H', ⟨by first | omega | exact Nat.le_refl _⟩, ⟨by (with_reducible repeat (first | refine blk_drewN ?_ _ | refine blk_drew ?_ | refine blk_alloc ?_ _)); exact BK443.out⟩, ⟨by repeat (first | (with_reducible first | exact HB.out | apply below_alloc | apply pw_below_drewN | apply below_drew1 | refine below_set ?_ GE443.out) | exact HB.out)⟩⟩
    · replace c6 := Bool.eq_false_iff.mpr c6
      subst c6
      have H1 : (mizmazelaw02_NetEnds.j0 k a1 true l0_0) = some r := by rw [if_neg (show ¬ (false = true) by decide)] at H; exact H
      clear H
      have H := H1
      clear H1
      have H' := Aside0.mk H
      clear H
      have hcz12_0 : w4.cell? ⟨gb443, 0, none⟩ = some (.slice A0_0 l0_0.length c0_0) := (blk_cell BK443.out 0).trans rfl
      have hfz12_0 := blk_frozen BK443.out 0
      go_wp2_with (first | ((with_reducible refine gate_callee (f := 18) rfl ?_); refine goesL_ (some 19) rfl rfl Try.func18 (by kernel_rfl) rfl #[.agg #[.slice A0_0 l0_0.length c0_0]] rfl (by (try simp only [List.map_toArray, List.map_cons, List.map_nil]); first | done | rfl | (simp only [List.length_drop, List.length_take]; rfl)) ?_; (with_reducible refine (mizmazeref01_Valid.calls k _ _ l0_0 false _ ?side1 ?side2 A5.out).mono ?_); (case side1 => repeat (first | exact (Kd.C_below HR0_0.out HB.out) | (with_reducible refine Kd.C_alloc ?_ _) | (with_reducible refine Kd.C_drewN ?_ _) | (with_reducible refine Kd.C_drew ?_))); (case side2 => exact HC0_0.out); rintro e w13 ⟨rfl, hb⟩; refine ⟨_, rfl, ?_⟩; have n0_ := Aside0.mk (blk_below (g := gb443) (o := .cells #[.slice A0_0 l0_0.length c0_0] 24 (0, 0)) (by (with_reducible repeat (first | refine blk_drewN ?_ _ | refine blk_drew ?_ | refine blk_alloc ?_ _)); exact BK443.out) hb); have n1_ := Aside0.mk (below_step (by repeat (first | (with_reducible first | exact HB.out | apply below_alloc | apply pw_below_drewN | apply below_drew1 | refine below_set ?_ GE443.out) | exact HB.out)) hb); clear BK443; clear HB; have BK443 := n0_; have HB := n1_; clear n0_ n1_; (try clear hb); (try clear hb2); (try clear hk); (try clear hi)))
      go_meet
      case rel => exact ⟨_, (true), (by first | rfl | (simp; done) | (simp [*]; done)), H', ⟨by first | omega | exact Nat.le_refl _⟩, ⟨by (with_reducible repeat (first | refine blk_drewN ?_ _ | refine blk_drew ?_ | refine blk_alloc ?_ _)); exact BK443.out⟩, ⟨by repeat (first | (with_reducible first | exact HB.out | apply below_alloc | apply pw_below_drewN | apply below_drew1 | refine below_set ?_ GE443.out) | exact HB.out)⟩⟩
  case rest =>
    clear HC3
    try clear c1
    try clear p2
    try clear c6
    try clear c7
    try clear hcz10_0
    try clear hcz12_0
    try clear hcz8_0
    try clear hfz10_0
    try clear hfz12_0
    try clear hfz8_0
    obtain ⟨kq, x26_2, rfl, HA, HJ2, BK443, HB⟩ := hcut
    cases kq with
    | zero => exact absurd HA.out (by simp [mizmazelaw02_NetEnds.j0])
    | succ kj2 =>
      have H := HA.out
      clear HA
      simp only [mizmazelaw02_NetEnds.j0] at H
      by_cases c14 : x26_2 = true
      · subst c14
        have H1 : ((mizmazelaw02_awake.f kj2).bind fun t446 => (some t446)) = some r := by rw [if_pos rfl] at H; exact H
        clear H
        have H := H1
        clear H1
        replace H := Option.bind_eq_some_iff.mp H
        obtain ⟨t446, A150, H⟩ := H
        replace H : (some t446) = some r := H
        have A15 := Aside0.mk A150
        clear A150
        obtain rfl := Option.some.inj H
        go_wp2_with (first | ((with_reducible refine gate_callee (f := 19) rfl ?_); refine goesL_ (some 27) rfl rfl Try.func19 (by kernel_rfl) rfl #[] rfl (by (try simp only [List.map_toArray, List.map_cons, List.map_nil]); first | done | rfl | (simp only [List.length_drop, List.length_take]; rfl)) ?_; (with_reducible refine (mizmazelaw02_awake.calls kj2  t446 _ A15.out).mono ?_); rintro e w16 ⟨rfl, hb⟩; refine ⟨_, rfl, ?_⟩; have n0_ := Aside0.mk (blk_below (g := gb443) (o := .cells #[.slice A0_0 l0_0.length c0_0] 24 (0, 0)) (by (with_reducible repeat (first | refine blk_drewN ?_ _ | refine blk_drew ?_ | refine blk_alloc ?_ _)); exact BK443.out) hb); have n1_ := Aside0.mk (below_step (by repeat (first | (with_reducible first | exact HB.out | apply below_alloc | apply pw_below_drewN | apply below_drew1 | refine below_set ?_ GE443.out) | exact HB.out)) hb); clear BK443; clear HB; have BK443 := n0_; have HB := n1_; clear n0_ n1_; (try clear hb); (try clear hb2); (try clear hk); (try clear hi)))
        go_ret
        exact ⟨by first | rfl | (simp [errW_none, errW_some] <;> rfl) | (simp [*, errW_none, errW_some] <;> rfl), by repeat (first | (with_reducible first | exact HB.out | apply below_alloc | apply pw_below_drewN | apply below_drew1 | refine below_set ?_ GE443.out) | exact HB.out)⟩
      · replace c14 := Bool.eq_false_iff.mpr c14
        subst c14
        have H1 : ((net_Sinks.f kj2 l0_0).bind fun bt447 => (if bt447.2 = 0 then (mizmazelaw02_NetEnds.j1 kj2 a1 bt447.1 ((bt447.1.length : Int) == 0) l0_0) else (mizmazelaw02_NetEnds.j1 kj2 a1 bt447.1 true l0_0))) = some r := by rw [if_neg (show ¬ (false = true) by decide)] at H; exact H
        clear H
        have H := H1
        clear H1
        replace H := Option.bind_eq_some_iff.mp H
        obtain ⟨⟨t447, t450⟩, A170, H⟩ := H
        replace H : (if t450 = 0 then (mizmazelaw02_NetEnds.j1 kj2 a1 t447 ((t447.length : Int) == 0) l0_0) else (mizmazelaw02_NetEnds.j1 kj2 a1 t447 true l0_0)) = some r := H
        have A17 := Aside0.mk A170
        clear A170
        have HC18 := Aside0.mk H
        clear H
        have hcz19_0 : wc.cell? ⟨gb443, 0, none⟩ = some (.slice A0_0 l0_0.length c0_0) := (blk_cell BK443.out 0).trans rfl
        have hfz19_0 := blk_frozen BK443.out 0
        go_upto_region 4 with (first | ((with_reducible refine gate_callee (f := 24) rfl ?_); refine goesL_ (some 30) rfl rfl Try.func24 (by kernel_rfl) rfl #[.agg #[.slice A0_0 l0_0.length c0_0]] rfl (by (try simp only [List.map_toArray, List.map_cons, List.map_nil]); first | done | rfl | (simp only [List.length_drop, List.length_take]; rfl)) ?_; (with_reducible refine (net_Sinks.calls kj2 _ _ l0_0 t447 t450 _ ?side1 ?side2 A17.out).mono ?_); (case side1 => repeat (first | exact (Kd.C_below HR0_0.out HB.out) | (with_reducible refine Kd.C_alloc ?_ _) | (with_reducible refine Kd.C_drewN ?_ _) | (with_reducible refine Kd.C_drew ?_))); (case side2 => exact HC0_0.out); rintro e w20 ⟨v448, rfl, ho0, hb⟩; refine ⟨_, rfl, ?_⟩; have n0_ := Aside0.mk (Kd.S_lower ho0 (below_size (by repeat (first | (with_reducible first | exact HB.out | apply below_alloc | apply pw_below_drewN | apply below_drew1 | refine below_set ?_ GE443.out) | exact HB.out)))); have n1_ := Aside0.mk (blk_below (g := gb443) (o := .cells #[.slice A0_0 l0_0.length c0_0] 24 (0, 0)) (by (with_reducible repeat (first | refine blk_drewN ?_ _ | refine blk_drew ?_ | refine blk_alloc ?_ _)); exact BK443.out) hb); have n2_ := Aside0.mk (below_step (by repeat (first | (with_reducible first | exact HB.out | apply below_alloc | apply pw_below_drewN | apply below_drew1 | refine below_set ?_ GE443.out) | exact HB.out)) hb); clear BK443; clear HB; have HO449 := n0_; have BK443 := n1_; have HB := n2_; clear n0_ n1_ n2_; (try clear hb); (try clear hb2); (try clear hk); (try clear hi); (try clear ho0)))
        (try simp only [Act.put, List.setIfInBounds_toArray, List.set_cons_zero, List.set_cons_succ])
        go_cut [39] (fun v39 wc => ∃ (kq : Nat) (x39_17 : Bool), v39 = .bool x39_17 ∧ Aside0 (mizmazelaw02_NetEnds.j1 kq a1 t447 x39_17 l0_0 = some r) ∧ Aside0 (kq ≤ kj2) ∧ Aside0 (Kd.S (Kd.slice 3 (Kd.int .i64)) 28 wc w.heap.size (fun _ => True) v448 t447) ∧ Aside0 (wc.heap[gb443]? = some (.cells #[(.slice A0_0 l0_0.length c0_0)] 24 (0, 0))) ∧ Aside0 (Below w.heap.size w wc))
        case first =>
          have H := HC18.out
          clear HC18
          by_cases c21 : t450 = 0
          · rw [if_pos c21] at H
            have c21b0 : (t450 == 0) = true := beq_iff_eq.mpr c21
            have c21b1 : (t450 != 0) = false := bne_eq_false_iff_eq.mpr c21
            clear c21
            (first | rw [c21b0] | (simp only [i64_w, i32_w]; rw [c21b0]) | skip)
            have H' := Aside0.mk H
            clear H
            obtain ⟨Ao22, co22, eo22⟩ := Kd.S_slice HO449.out
            subst eo22
            go_wp2
            go_meet
            case rel => exact ⟨_, (((t447.length : Int) == 0)), (by first | rfl | (simp; done) | (simp [*]; done)), H', ⟨by have := HJ2.out; first | omega | exact Nat.le_refl _⟩, ⟨by (with_reducible repeat (first | apply Kd.S_alloc | apply Kd.S_drewN | apply Kd.S_drew)); exact HO449.out⟩, ⟨by (with_reducible repeat (first | refine blk_drewN ?_ _ | refine blk_drew ?_ | refine blk_alloc ?_ _)); exact BK443.out⟩, ⟨by repeat (first | (with_reducible first | exact HB.out | apply below_alloc | apply pw_below_drewN | apply below_drew1 | refine below_set ?_ GE443.out) | exact HB.out)⟩⟩
          · rw [if_neg c21] at H
            have c21b0 : (t450 == 0) = false := beq_eq_false_iff_ne.mpr c21
            have c21b1 : (t450 != 0) = true := bne_iff_ne.mpr c21
            (first | rw [c21b0] | (simp only [i64_w, i32_w]; rw [c21b0]) | skip)
            have H' := Aside0.mk H
            clear H
            go_wp2
            go_meet
            case rel => exact ⟨_, (true), (by first | rfl | (simp; done) | (simp [*]; done)), H', ⟨by have := HJ2.out; first | omega | exact Nat.le_refl _⟩, ⟨by (with_reducible repeat (first | apply Kd.S_alloc | apply Kd.S_drewN | apply Kd.S_drew)); exact HO449.out⟩, ⟨by (with_reducible repeat (first | refine blk_drewN ?_ _ | refine blk_drew ?_ | refine blk_alloc ?_ _)); exact BK443.out⟩, ⟨by repeat (first | (with_reducible first | exact HB.out | apply below_alloc | apply pw_below_drewN | apply below_drew1 | refine below_set ?_ GE443.out) | exact HB.out)⟩⟩
        case rest =>
          clear HC18
          try clear c1
          try clear c2
          try clear p2
          try clear c6
          try clear c7
          try clear c14
          try clear c18
          try clear c19
          try clear c21
          try clear c21b0
          try clear c21b1
          try clear hcz10_0
          try clear hcz12_0
          try clear hcz19_0
          try clear hcz8_0
          try clear hfz10_0
          try clear hfz12_0
          try clear hfz19_0
          try clear hfz8_0
          try clear p2
          obtain ⟨kq, x39_17, rfl, HA, HJ17, HO_5, BK443, HB⟩ := hcut
          cases kq with
          | zero => exact absurd HA.out (by simp [mizmazelaw02_NetEnds.j1])
          | succ kj17 =>
            have H := HA.out
            clear HA
            simp only [mizmazelaw02_NetEnds.j1] at H
            by_cases c23 : x39_17 = true
            · subst c23
              have H1 : (some false) = some r := by rw [if_pos rfl] at H; exact H
              clear H
              have H := H1
              clear H1
              obtain rfl := Option.some.inj H
              go_wp2
              go_ret
              exact ⟨by first | rfl | (simp [errW_none, errW_some] <;> rfl) | (simp [*, errW_none, errW_some] <;> rfl), by repeat (first | (with_reducible first | exact HB.out | apply below_alloc | apply pw_below_drewN | apply below_drew1 | refine below_set ?_ GE443.out) | exact HB.out)⟩
            · replace c23 := Bool.eq_false_iff.mpr c23
              subst c23
              have H1 : (mizmazelaw02_NetEnds.l0 kj17 a1 t447 false 0 l0_0) = some r := by rw [if_neg (show ¬ (false = true) by decide)] at H; exact H
              clear H
              have H := H1
              clear H1
              have H' := Aside0.mk H
              clear H
              go_wp2
              go_loopg [7, 8] kj17 (fun kq v7 v8 w' => ∃ (x7_3 : Bool) (x8_3 : Int), v7 = .bool x7_3 ∧ v8 = .int .i64 x8_3 ∧ Aside0 (mizmazelaw02_NetEnds.l0 kq a1 t447 x7_3 x8_3 l0_0 = some r) ∧ Aside0 (kq ≤ kj17) ∧ Aside0 (Kd.S (Kd.slice 3 (Kd.int .i64)) 28 w' w.heap.size (fun _ => True) v448 t447) ∧ Aside0 (w'.heap[gb443]? = some (.cells #[(.slice A0_0 l0_0.length c0_0)] 24 (0, 0))) ∧ Aside0 (Below w.heap.size w w'))
              case atStart => exact ⟨(false), (0), (by first | rfl | (simp; done) | (simp [*]; done)), (by first | rfl | (simp; done) | (simp [*]; done)), H', ⟨Nat.le_refl _⟩, ⟨by (with_reducible repeat (first | apply Kd.S_alloc | apply Kd.S_drewN | apply Kd.S_drew)); exact HO_5.out⟩, ⟨by (with_reducible repeat (first | refine blk_drewN ?_ _ | refine blk_drew ?_ | refine blk_alloc ?_ _)); exact BK443.out⟩, ⟨by repeat (first | (with_reducible first | exact HB.out | apply below_alloc | apply pw_below_drewN | apply below_drew1 | refine below_set ?_ GE443.out) | exact HB.out)⟩⟩
              case round =>
                clear H'
                try clear c1
                try clear c2
                try clear p2
                try clear c6
                try clear c7
                try clear c14
                try clear c18
                try clear c19
                try clear c21
                try clear c21b0
                try clear c21b1
                try clear c23
                try clear hcz10_0
                try clear hcz12_0
                try clear hcz19_0
                try clear hcz8_0
                try clear hfz10_0
                try clear hfz12_0
                try clear hfz19_0
                try clear hfz8_0
                try clear p2
                obtain ⟨x7_3, x8_3, rfl, rfl, HA, HK3, HO_5, BK443, HB⟩ := hrel
                cases gk with
                | zero => exact absurd HA.out (by simp [mizmazelaw02_NetEnds.l0])
                | succ k3 =>
                  have H := HA.out
                  clear HA
                  simp only [mizmazelaw02_NetEnds.l0] at H
                  by_cases c24 : x8_3 < (t447.length : Int)
                  · rw [if_pos c24] at H
                    have c24b0 : decide (x8_3 < (t447.length : Int)) = true := decide_eq_true c24
                    clear c24
                    have H' := Aside0.mk H
                    clear H
                    obtain ⟨Ao25, co25, eo25⟩ := Kd.S_slice HO_5.out
                    subst eo25
                    go_wp2
                    go_loopg [7, 9] k3 (fun kq v7 v9 w' => ∃ (x7_4 : Bool) (x9_4 : Int), v7 = .bool x7_4 ∧ v9 = .int .i64 x9_4 ∧ Aside0 (mizmazelaw02_NetEnds.l1 kq a1 t447 x7_4 x8_3 x9_4 l0_0 = some r) ∧ Aside0 (kq ≤ k3) ∧ Aside0 (Kd.S (Kd.slice 3 (Kd.int .i64)) 28 w' w.heap.size (fun _ => True) (.slice Ao25 t447.length co25) t447) ∧ Aside0 (w'.heap[gb443]? = some (.cells #[(.slice A0_0 l0_0.length c0_0)] 24 (0, 0))) ∧ Aside0 (Below w.heap.size w w'))
                    case atStart => exact ⟨(x7_3), (0), (by first | rfl | (simp; done) | (simp [*]; done)), (by first | rfl | (simp; done) | (simp [*]; done)), H', ⟨Nat.le_refl _⟩, ⟨by (with_reducible repeat (first | apply Kd.S_alloc | apply Kd.S_drewN | apply Kd.S_drew)); exact HO_5.out⟩, ⟨by (with_reducible repeat (first | refine blk_drewN ?_ _ | refine blk_drew ?_ | refine blk_alloc ?_ _)); exact BK443.out⟩, ⟨by repeat (first | (with_reducible first | exact HB.out | apply below_alloc | apply pw_below_drewN | apply below_drew1 | refine below_set ?_ GE443.out) | exact HB.out)⟩⟩
                    case round =>
                      clear H'
                      try clear c1
                      try clear c2
                      try clear p2
                      try clear c6
                      try clear c7
                      try clear c14
                      try clear c18
                      try clear c19
                      try clear c21
                      try clear c21b0
                      try clear c21b1
                      try clear c23
                      try clear c24
                      try clear c24b0
                      try clear hcz10_0
                      try clear hcz12_0
                      try clear hcz19_0
                      try clear hcz8_0
                      try clear hfz10_0
                      try clear hfz12_0
                      try clear hfz19_0
                      try clear hfz8_0
                      try clear p2
                      obtain ⟨x7_4, x9_4, rfl, rfl, HA, HK4, HO_5, BK443, HB⟩ := hrel
                      cases gk with
                      | zero => exact absurd HA.out (by simp [mizmazelaw02_NetEnds.l1])
                      | succ k4 =>
                        have H := HA.out
                        clear HA
                        simp only [mizmazelaw02_NetEnds.l1] at H
                        by_cases c26 : 0 ≤ x8_3
                        · rw [if_pos c26] at H
                          have c26b0 : decide (0 ≤ x8_3) = true := decide_eq_true c26
                          clear c26
                          by_cases c27 : x8_3 < (t447.length : Int)
                          · rw [if_pos c27] at H
                            have c27b0 : decide (x8_3 < (t447.length : Int)) = true := decide_eq_true c27
                            clear c27
                            by_cases c28 : x9_4 < ((rd_L1 t447 x8_3).length : Int)
                            · rw [if_pos c28] at H
                              have c28b0 : decide (x9_4 < ((rd_L1 t447 x8_3).length : Int)) = true := decide_eq_true c28
                              clear c28
                              by_cases c29 : 0 ≤ x9_4
                              · rw [if_pos c29] at H
                                have c29b0 : decide (0 ≤ x9_4) = true := decide_eq_true c29
                                clear c29
                                have HC30 := Aside0.mk H
                                clear H
                                have p452 : 0 ≤ (x8_3 : Int) := of_decide_eq_true (by first | (with_reducible assumption) | assumption)
                                have q452 : x8_3 < (t447.length : Int) := of_decide_eq_true (by first | (with_reducible assumption) | assumption)
                                obtain ⟨ad452, A452_0, c452_0, e452, hx452_0, hl452_0, hi452_0⟩ := at_L1 (Kd.S_reads' HO_5.out).2.2 x8_3 p452 q452
                                cases e452
                                obtain ⟨ce452, hce452, hMe452, hcc452⟩ := Kd.S_get HO_5.out [] x8_3 p452 (by first | exact q452 | exact of_decide_eq_true (by first | (with_reducible assumption) | assumption) | (have e_ := (Kd.S_reads' HO_5.out).1; omega))
                                obtain ⟨ve452_0, rfl, ge452_0⟩ := hMe452
                                have hv452_0 := hcc452 0 _ rfl
                                rw [Nat.add_zero, show ((Kd.slice 3 (Kd.int .i64))).sz = 1 from rfl, Nat.mul_one] at hv452_0
                                replace hv452_0 := Option.some.inj (hv452_0.symm.trans hx452_0)
                                rw [hv452_0] at ge452_0
                                have HL452_0 := Aside0.mk (show Kd.R (Kd.int .i64) 3 _ _ _ _ (rd_L1 t447 x8_3) from ge452_0)
                                clear hv452_0 ge452_0
                                clear hcc452 hce452
                                have HR452_0 := Aside0.mk hi452_0
                                have HC452_0 := Aside0.mk hl452_0
                                clear hi452_0 hl452_0
                                replace p452 := eq_true p452
                                replace q452 := eq_true q452
                                have p453 : 0 ≤ (x8_3 : Int) := of_decide_eq_true (by first | (with_reducible assumption) | assumption)
                                have q453 : x8_3 < (t447.length : Int) := of_decide_eq_true (by first | (with_reducible assumption) | assumption)
                                obtain ⟨ad453, A453_0, c453_0, e453, hx453_0, hl453_0, hi453_0⟩ := at_L1 (Kd.S_reads' HO_5.out).2.2 x8_3 p453 q453
                                obtain rfl : ad452 = ad453 := (by injection e453)
                                obtain ⟨ce453, hce453, hMe453, hcc453⟩ := Kd.S_get HO_5.out [] x8_3 p453 (by first | exact q453 | exact of_decide_eq_true (by first | (with_reducible assumption) | assumption) | (have e_ := (Kd.S_reads' HO_5.out).1; omega))
                                obtain ⟨ve453_0, rfl, ge453_0⟩ := hMe453
                                have hv453_0 := hcc453 0 _ rfl
                                rw [Nat.add_zero, show ((Kd.slice 3 (Kd.int .i64))).sz = 1 from rfl, Nat.mul_one] at hv453_0
                                replace hv453_0 := Option.some.inj (hv453_0.symm.trans hx453_0)
                                rw [hv453_0] at ge453_0
                                have HL453_0 := Aside0.mk (show Kd.R (Kd.int .i64) 3 _ _ _ _ (rd_L1 t447 x8_3) from ge453_0)
                                clear hv453_0 ge453_0
                                clear hcc453 hce453
                                have HR453_0 := Aside0.mk hi453_0
                                have HC453_0 := Aside0.mk hl453_0
                                clear hi453_0 hl453_0
                                replace p453 := eq_true p453
                                replace q453 := eq_true q453
                                have ea_ := Option.some.inj (hx452_0.symm.trans hx453_0)
                                injection ea_ with ea_ en_ ec_
                                subst ea_
                                subst ec_
                                clear en_
                                have p454 : 0 ≤ (x9_4 : Int) := of_decide_eq_true (by first | (with_reducible assumption) | assumption)
                                have q454 : x9_4 < ((rd_L1 t447 x8_3).length : Int) := of_decide_eq_true (by first | (with_reducible assumption) | assumption)
                                obtain ⟨ad454, e454, hx454_0⟩ := Kd.at_int (by repeat (first | (with_reducible exact HR453_0.out) | (with_reducible refine Kd.C_alloc ?_ _) | (with_reducible refine Kd.C_drewN ?_ _) | (with_reducible refine Kd.C_drew ?_) | exact HR453_0.out)) x9_4 p454 q454
                                cases e454
                                replace p454 := eq_true p454
                                replace q454 := eq_true q454
                                go_upto_region 14 with (fail)
                                go_cut [77] (fun v77 wc => ∃ (kq : Nat) (x77_29 : Bool), v77 = .bool x77_29 ∧ Aside0 (mizmazelaw02_NetEnds.j4 kq a1 t447 x7_4 x8_3 x9_4 (rd (rd_L1 t447 x8_3) x9_4) x77_29 l0_0 = some r) ∧ Aside0 (kq ≤ k4) ∧ Aside0 (Kd.S (Kd.slice 3 (Kd.int .i64)) 28 wc w.heap.size (fun _ => True) (.slice (some ad452) t447.length co25) t447) ∧ Aside0 (wc.heap[gb443]? = some (.cells #[(.slice A0_0 l0_0.length c0_0)] 24 (0, 0))) ∧ Aside0 (Kd.C (Kd.int .i64) wc (some ad454) (rd_L1 t447 x8_3).length (rd_L1 t447 x8_3)) ∧ Aside0 (Kd.C (Kd.int .i64) wc (some ad454) (rd_L1 t447 x8_3).length (rd_L1 t447 x8_3)) ∧ Aside0 (Below w.heap.size w wc))
                                case first =>
                                  have H := HC30.out
                                  clear HC30
                                  replace H := Option.bind_eq_some_iff.mp H
                                  obtain ⟨t455, A310, H⟩ := H
                                  replace H : (if t455 = true then (if 0 ≤ (rd (rd_L1 t447 x8_3) x9_4) then (if (rd (rd_L1 t447 x8_3) x9_4) < (l0_0.length : Int) then ((mizmazeref01_Below.f k4 (rd_L1 l0_0 (rd (rd_L1 t447 x8_3) x9_4)) (l0_0.length : Int)).bind fun t457 => (mizmazelaw02_NetEnds.j4 k4 a1 t447 x7_4 x8_3 x9_4 (rd (rd_L1 t447 x8_3) x9_4) (!t457) l0_0)) else (none)) else (none)) else (mizmazelaw02_NetEnds.j4 k4 a1 t447 x7_4 x8_3 x9_4 (rd (rd_L1 t447 x8_3) x9_4) true l0_0)) = some r := H
                                  have A31 := Aside0.mk A310
                                  clear A310
                                  by_cases c32 : t455 = true
                                  · subst c32
                                    have H1 : (if 0 ≤ (rd (rd_L1 t447 x8_3) x9_4) then (if (rd (rd_L1 t447 x8_3) x9_4) < (l0_0.length : Int) then ((mizmazeref01_Below.f k4 (rd_L1 l0_0 (rd (rd_L1 t447 x8_3) x9_4)) (l0_0.length : Int)).bind fun t457 => (mizmazelaw02_NetEnds.j4 k4 a1 t447 x7_4 x8_3 x9_4 (rd (rd_L1 t447 x8_3) x9_4) (!t457) l0_0)) else (none)) else (none)) = some r := by rw [if_pos rfl] at H; exact H
                                    clear H
                                    have H := H1
                                    clear H1
                                    by_cases c33 : 0 ≤ (rd (rd_L1 t447 x8_3) x9_4)
                                    · rw [if_pos c33] at H
                                      have c33b0 : decide (0 ≤ (rd (rd_L1 t447 x8_3) x9_4)) = true := decide_eq_true c33
                                      clear c33
                                      (first | rw [c33b0] | (simp only [i64_w, i32_w]; rw [c33b0]) | skip)
                                      by_cases c34 : (rd (rd_L1 t447 x8_3) x9_4) < (l0_0.length : Int)
                                      · rw [if_pos c34] at H
                                        have c34b0 : decide ((rd (rd_L1 t447 x8_3) x9_4) < (l0_0.length : Int)) = true := decide_eq_true c34
                                        clear c34
                                        replace H := Option.bind_eq_some_iff.mp H
                                        obtain ⟨t457, A350, H⟩ := H
                                        replace H : (mizmazelaw02_NetEnds.j4 k4 a1 t447 x7_4 x8_3 x9_4 (rd (rd_L1 t447 x8_3) x9_4) (!t457) l0_0) = some r := H
                                        have A35 := Aside0.mk A350
                                        clear A350
                                        have H' := Aside0.mk H
                                        clear H
                                        try go_wp2
                                        have n0_ := Aside0.mk (Kd.S_drew HO_5.out)
                                        have n1_ := Aside0.mk (Kd.R_drew HL452_0.out)
                                        have n2_ := Aside0.mk (Kd.R_drew HL453_0.out)
                                        have n3_ := Aside0.mk (blk_drew BK443.out)
                                        have n4_ := Aside0.mk (Kd.C_drew HR452_0.out)
                                        have n5_ := Aside0.mk (Kd.C_drew HR453_0.out)
                                        have n6_ := Aside0.mk (below_drew1 HB.out)
                                        clear HO_5
                                        clear HL452_0
                                        clear HL453_0
                                        clear BK443
                                        clear HR452_0
                                        clear HR453_0
                                        clear HB
                                        have HO_5 := n0_
                                        have HL452_0 := n1_
                                        have HL453_0 := n2_
                                        have BK443 := n3_
                                        have HR452_0 := n4_
                                        have HR453_0 := n5_
                                        have HB := n6_
                                        clear n0_ n1_ n2_ n3_ n4_ n5_ n6_
                                        have p456 : 0 ≤ ((rd (rd_L1 t447 x8_3) x9_4) : Int) := of_decide_eq_true (by first | (with_reducible assumption) | assumption)
                                        have q456 : (rd (rd_L1 t447 x8_3) x9_4) < (l0_0.length : Int) := of_decide_eq_true (by first | (with_reducible assumption) | assumption)
                                        obtain ⟨ad456, A456_0, c456_0, e456, hx456_0, hl456_0, hi456_0⟩ := at_L1 HR0_0.out (rd (rd_L1 t447 x8_3) x9_4) p456 q456
                                        have hw456_0 := hx456_0
                                        cases e456
                                        replace hx456_0 := (HB.out.cell (World.block_lt_of_cell? w _ hx456_0)).trans hx456_0
                                        have HR456_0 := Aside0.mk hi456_0
                                        have HC456_0 := Aside0.mk hl456_0
                                        clear hi456_0 hl456_0
                                        replace p456 := eq_true p456
                                        replace q456 := eq_true q456
                                        refine start_ (n := 16) (S := fun w' => w'.cell? ⟨gb443, 0, none⟩ = some (.slice (some ad456) l0_0.length c0_0) ∧ w'.cell? (ad456.add ((rd (rd_L1 t447 x8_3) x9_4)).toNat) = some (.slice A456_0 (rd_L1 l0_0 (rd (rd_L1 t447 x8_3) x9_4)).length c456_0)) (ds := []) #[false, false, false, false, false, false, false, false, false, false, false, false, false, false, false, false] (by kernel_rfl) rfl rfl ⟨(blk_cell BK443.out 0).trans rfl, ((HB.out.cell (World.block_lt_of_cell? w _ hw456_0)).trans hw456_0)⟩ (fun hHeld => ?_); refine with_tabW mizmazelaw02_NetEnds.tab14 mizmazelaw02_NetEnds.bits14 (fun HT_ HW_ => ?_)
                                        generalize wr.drew = w36 at HO_5 HL452_0 HL453_0 BK443 HR452_0 HR453_0 HB HR456_0 hx456_0 hHeld ⊢
                                        refine pure_ (i := 1) (N := some 63) (v := ?_) (a' := ?_) #[false, true, false, false, false, false, false, false, false, false, false, false, false, false, false, false] rfl rfl (any_of HT_.out (by kernel_rfl)) (fun _ _ _ h => h) (Or.inl ⟨by rfl, ?_⟩) ?_ ?_
                                        rotate_left
                                        · intro w'
                                          go_simp
                                          with_reducible rfl
                                        rotate_left
                                        · simp only [Act.put, List.setIfInBounds_toArray, List.set_cons_zero, List.set_cons_succ, i64_w, i32_w]
                                          rfl
                                        refine take_ (i := 0) (N := some 62) (v := ?_) (a' := ?_) #[true, true, false, false, false, false, false, false, false, false, false, false, false, false, false, false] rfl rfl (take_ofW HT_.out HW_.out (by kernel_rfl)) (fun _ _ _ h => h) (Or.inl ⟨by rfl, ?_⟩) hHeld ?_ ?_
                                        rotate_left
                                        · rintro w' ⟨s0, s1⟩
                                          go_simp
                                          with_reducible rfl
                                        rotate_left
                                        · simp only [Act.put, List.setIfInBounds_toArray, List.set_cons_zero, List.set_cons_succ, i64_w, i32_w]
                                          rfl
                                        refine one_ (i := 2) (N := some 64) #[true, true, true, false, false, false, false, false, false, false, false, false, false, false, false, false] rfl rfl (one_of HT_.out (by kernel_rfl)) (by decide) (fun K hK => ?_)
                                        refine goes_ Try.func21 (by kernel_rfl) rfl #[.agg #[.slice (some ad456) l0_0.length c0_0], .int .i64 (rd (rd_L1 t447 x8_3) x9_4)] (by rfl) rfl rfl (by (try simp only [List.map_toArray, List.map_cons, List.map_nil]); first | done | rfl | (simp only [List.length_drop, List.length_take]; rfl)) ?_
                                        with_reducible refine (mizmazeref01_State.calls _ _ l0_0 (rd (rd_L1 t447 x8_3) x9_4) true _ ?side1 ?side2 A31.out).mono ?_
                                        (case side1 => repeat (first | exact (Kd.C_below HR0_0.out HB.out) | (with_reducible refine Kd.C_alloc ?_ _) | (with_reducible refine Kd.C_drewN ?_ _) | (with_reducible refine Kd.C_drew ?_)))
                                        (case side2 => exact HC0_0.out)
                                        rintro e w37 ⟨rfl, hb⟩
                                        refine ⟨_, rfl, ?_⟩
                                        have n0_ := Aside0.mk (Kd.S_below (by (with_reducible repeat (first | apply Kd.S_alloc | apply Kd.S_drewN | apply Kd.S_drew)); exact HO_5.out) hb)
                                        have n1_ := Aside0.mk (Kd.R_below (by (with_reducible repeat (first | apply Kd.R_alloc | apply Kd.R_drewN | apply Kd.R_drew)); exact HL452_0.out) hb)
                                        have n2_ := Aside0.mk (Kd.R_below (by (with_reducible repeat (first | apply Kd.R_alloc | apply Kd.R_drewN | apply Kd.R_drew)); exact HL453_0.out) hb)
                                        have n3_ := Aside0.mk (blk_below (g := gb443) (o := .cells #[.slice (some ad456) l0_0.length c0_0] 24 (0, 0)) (by (with_reducible repeat (first | refine blk_drewN ?_ _ | refine blk_drew ?_ | refine blk_alloc ?_ _)); exact BK443.out) hb)
                                        have n4_ := Aside0.mk (Kd.C_below (by repeat (first | (with_reducible exact HR452_0.out) | (with_reducible refine Kd.C_alloc ?_ _) | (with_reducible refine Kd.C_drewN ?_ _) | (with_reducible refine Kd.C_drew ?_) | exact HR452_0.out)) hb)
                                        have n5_ := Aside0.mk (Kd.C_below (by repeat (first | (with_reducible exact HR453_0.out) | (with_reducible refine Kd.C_alloc ?_ _) | (with_reducible refine Kd.C_drewN ?_ _) | (with_reducible refine Kd.C_drew ?_) | exact HR453_0.out)) hb)
                                        have n6_ := Aside0.mk (below_step (by repeat (first | (with_reducible first | exact HB.out | apply below_alloc | apply pw_below_drewN | apply below_drew1 | refine below_set ?_ GE443.out) | exact HB.out)) hb)
                                        clear HO_5
                                        clear HL452_0
                                        clear HL453_0
                                        clear BK443
                                        clear HR452_0
                                        clear HR453_0
                                        clear HB
                                        have HO_5 := n0_
                                        have HL452_0 := n1_
                                        have HL453_0 := n2_
                                        have BK443 := n3_
                                        have HR452_0 := n4_
                                        have HR453_0 := n5_
                                        have HB := n6_
                                        clear n0_ n1_ n2_ n3_ n4_ n5_ n6_
                                        (try clear hb)
                                        (try clear hb2)
                                        (try clear hk)
                                        (try clear hi)
                                        refine hK.out _ _ ⟨(blk_cell BK443.out 0).trans rfl, ((HB.out.cell (World.block_lt_of_cell? w _ hw456_0)).trans hw456_0)⟩ (fun hHeld => ?_)
                                        clear hK K
                                        refine norm_ (a' := ?_) ?_ ?_
                                        rotate_left
                                        · show Act.put _ (some 64) _ = _
                                          simp only [Act.put, List.setIfInBounds_toArray, List.set_cons_zero, List.set_cons_succ, i64_w, i32_w]
                                          rfl
                                        refine pure_ (i := 3) (N := some 65) (v := ?_) (a' := ?_) #[true, true, true, true, false, false, false, false, false, false, false, false, false, false, false, false] rfl rfl (any_of HT_.out (by kernel_rfl)) (fun _ _ _ h => h) (Or.inl ⟨by rfl, ?_⟩) ?_ ?_
                                        rotate_left
                                        · intro w'
                                          go_simp
                                          with_reducible rfl
                                        rotate_left
                                        · simp only [Act.put, List.setIfInBounds_toArray, List.set_cons_zero, List.set_cons_succ, i64_w, i32_w]
                                          rfl
                                        refine pure_ (i := 4) (N := some 66) (v := ?_) (a' := ?_) #[true, true, true, true, true, false, false, false, false, false, false, false, false, false, false, false] rfl rfl (any_of HT_.out (by kernel_rfl)) (fun _ _ _ h => h) (Or.inl ⟨by rfl, ?_⟩) ?_ ?_
                                        rotate_left
                                        · intro w'
                                          go_simp
                                          with_reducible rfl
                                        rotate_left
                                        · simp only [Act.put, List.setIfInBounds_toArray, List.set_cons_zero, List.set_cons_succ, i64_w, i32_w]
                                          rfl
                                        refine pure_ (i := 5) (N := some 67) (v := ?_) (a' := ?_) #[true, true, true, true, true, true, false, false, false, false, false, false, false, false, false, false] rfl rfl (any_of HT_.out (by kernel_rfl)) (fun _ _ _ h => h) (Or.inl ⟨by rfl, ?_⟩) ?_ ?_
                                        rotate_left
                                        · intro w'
                                          go_simp
                                          with_reducible rfl
                                        rotate_left
                                        · simp only [Act.put, List.setIfInBounds_toArray, List.set_cons_zero, List.set_cons_succ, i64_w, i32_w]
                                          rfl
                                        refine pure_ (i := 7) (N := some 69) (v := ?_) (a' := ?_) #[true, true, true, true, true, true, false, true, false, false, false, false, false, false, false, false] rfl rfl (any_of HT_.out (by kernel_rfl)) (fun _ _ _ h => h) (Or.inl ⟨by rfl, ?_⟩) ?_ ?_
                                        rotate_left
                                        · intro w'
                                          go_simp
                                          with_reducible rfl
                                        rotate_left
                                        · simp only [Act.put, List.setIfInBounds_toArray, List.set_cons_zero, List.set_cons_succ, i64_w, i32_w]
                                          rfl
                                        refine pure_ (i := 10) (N := some 72) (v := ?_) (a' := ?_) #[true, true, true, true, true, true, false, true, false, false, true, false, false, false, false, false] rfl rfl (any_of HT_.out (by kernel_rfl)) (fun _ _ _ h => h) (Or.inl ⟨by rfl, ?_⟩) ?_ ?_
                                        rotate_left
                                        · intro w'
                                          go_simp
                                          with_reducible rfl
                                        rotate_left
                                        · simp only [Act.put, List.setIfInBounds_toArray, List.set_cons_zero, List.set_cons_succ, i64_w, i32_w]
                                          rfl
                                        refine take_ (i := 6) (N := some 68) (v := ?_) (a' := ?_) #[true, true, true, true, true, true, true, true, false, false, true, false, false, false, false, false] rfl rfl (take_ofW HT_.out HW_.out (by kernel_rfl)) (fun _ _ _ h => h) (Or.inl ⟨by rfl, ?_⟩) hHeld ?_ ?_
                                        rotate_left
                                        · rintro w' ⟨s0, s1⟩
                                          go_simp
                                          with_reducible rfl
                                        rotate_left
                                        · simp only [Act.put, List.setIfInBounds_toArray, List.set_cons_zero, List.set_cons_succ, i64_w, i32_w]
                                          rfl
                                        refine pure_ (i := 8) (N := some 70) (v := ?_) (a' := ?_) #[true, true, true, true, true, true, true, true, true, false, true, false, false, false, false, false] rfl rfl (any_of HT_.out (by kernel_rfl)) (fun _ _ _ h => h) (Or.inl ⟨by rfl, ?_⟩) ?_ ?_
                                        rotate_left
                                        · intro w'
                                          go_simp
                                          with_reducible rfl
                                        rotate_left
                                        · simp only [Act.put, List.setIfInBounds_toArray, List.set_cons_zero, List.set_cons_succ, i64_w, i32_w]
                                          rfl
                                        refine take_ (i := 9) (N := some 71) (v := ?_) (a' := ?_) #[true, true, true, true, true, true, true, true, true, true, true, false, false, false, false, false] rfl rfl (take_ofW HT_.out HW_.out (by kernel_rfl)) (fun _ _ _ h => h) (Or.inl ⟨by rfl, ?_⟩) hHeld ?_ ?_
                                        rotate_left
                                        · rintro w' ⟨s0, s1⟩
                                          go_simp
                                          with_reducible rfl
                                        rotate_left
                                        · simp only [Act.put, List.setIfInBounds_toArray, List.set_cons_zero, List.set_cons_succ, i64_w, i32_w]
                                          rfl
                                        refine take_ (i := 11) (N := some 73) (v := ?_) (a' := ?_) #[true, true, true, true, true, true, true, true, true, true, true, true, false, false, false, false] rfl rfl (take_ofW HT_.out HW_.out (by kernel_rfl)) (fun _ _ _ h => h) (Or.inl ⟨by rfl, ?_⟩) hHeld ?_ ?_
                                        rotate_left
                                        · rintro w' ⟨s0, s1⟩
                                          go_simp
                                          with_reducible rfl
                                        rotate_left
                                        · simp only [Act.put, List.setIfInBounds_toArray, List.set_cons_zero, List.set_cons_succ, i64_w, i32_w]
                                          rfl
                                        refine pure_ (i := 12) (N := some 74) (v := ?_) (a' := ?_) #[true, true, true, true, true, true, true, true, true, true, true, true, true, false, false, false] rfl rfl (any_of HT_.out (by kernel_rfl)) (fun _ _ _ h => h) (Or.inl ⟨by rfl, ?_⟩) ?_ ?_
                                        rotate_left
                                        · intro w'
                                          go_simp
                                          with_reducible rfl
                                        rotate_left
                                        · simp only [Act.put, List.setIfInBounds_toArray, List.set_cons_zero, List.set_cons_succ, i64_w, i32_w]
                                          rfl
                                        refine one_ (i := 13) (N := some 75) #[true, true, true, true, true, true, true, true, true, true, true, true, true, true, false, false] rfl rfl (one_of HT_.out (by kernel_rfl)) (by decide) (fun K hK => ?_)
                                        refine goes_ Try.func37 (by kernel_rfl) rfl #[.slice A456_0 (rd_L1 l0_0 (rd (rd_L1 t447 x8_3) x9_4)).length c456_0, .int .i64 (l0_0.length : Int)] (by rfl) rfl rfl (by (try simp only [List.map_toArray, List.map_cons, List.map_nil]); first | done | rfl | (simp only [List.length_drop, List.length_take]; rfl)) ?_
                                        with_reducible refine (mizmazeref01_Below.calls k4 _ _ (rd_L1 l0_0 (rd (rd_L1 t447 x8_3) x9_4)) (l0_0.length : Int) t457 _ ?side1 ?side2 A35.out).mono ?_
                                        (case side1 => repeat (first | exact (Kd.C_below HR456_0.out HB.out) | (with_reducible refine Kd.C_alloc ?_ _) | (with_reducible refine Kd.C_drewN ?_ _) | (with_reducible refine Kd.C_drew ?_)))
                                        (case side2 => exact HC456_0.out)
                                        rintro e w' ⟨rfl, ⟨nd, rfl⟩⟩
                                        refine ⟨_, rfl, ?_⟩
                                        refine hK.out _ _ ⟨(blk_cell BK443.out 0).trans rfl, ((HB.out.cell (World.block_lt_of_cell? w _ hw456_0)).trans hw456_0)⟩ (fun hHeld => ?_)
                                        clear hK K
                                        refine norm_ (a' := ?_) ?_ ?_
                                        rotate_left
                                        · show Act.put _ (some 75) _ = _
                                          simp only [Act.put, List.setIfInBounds_toArray, List.set_cons_zero, List.set_cons_succ, i64_w, i32_w]
                                          rfl
                                        refine pure_ (i := 14) (N := some 76) (v := ?_) (a' := ?_) #[true, true, true, true, true, true, true, true, true, true, true, true, true, true, true, false] rfl rfl (any_of HT_.out (by kernel_rfl)) (fun _ _ _ h => h) (Or.inl ⟨by rfl, ?_⟩) ?_ ?_
                                        rotate_left
                                        · intro w'
                                          go_simp
                                          with_reducible rfl
                                        rotate_left
                                        · simp only [Act.put, List.setIfInBounds_toArray, List.set_cons_zero, List.set_cons_succ, i64_w, i32_w]
                                          rfl
                                        refine pure_ (i := 15) (N := some 77) (v := ?_) (a' := ?_) #[true, true, true, true, true, true, true, true, true, true, true, true, true, true, true, true] rfl rfl (any_of HT_.out (by kernel_rfl)) (fun _ _ _ h => h) (Or.inl ⟨by rfl, ?_⟩) ?_ ?_
                                        rotate_left
                                        · intro w'
                                          go_simp
                                          with_reducible rfl
                                        rotate_left
                                        · simp only [Act.put, List.setIfInBounds_toArray, List.set_cons_zero, List.set_cons_succ, i64_w, i32_w]
                                          rfl
                                        refine done_ (done_of HT_.out (by kernel_rfl)) ?_
                                        try go_wp2
                                        go_meet
                                        case rel => exact ⟨_, (!t457), (by first | rfl | (simp; done) | (simp [*]; done)), H', ⟨by have := HJ2.out; have := HJ17.out; have := HK3.out; have := HK4.out; first | omega | exact Nat.le_refl _⟩, ⟨by (with_reducible repeat (first | apply Kd.S_alloc | apply Kd.S_drewN | apply Kd.S_drew)); exact HO_5.out⟩, ⟨by (with_reducible repeat (first | refine blk_drewN ?_ _ | refine blk_drew ?_ | refine blk_alloc ?_ _)); exact BK443.out⟩, ⟨by repeat (first | (with_reducible exact HR452_0.out) | (with_reducible refine Kd.C_alloc ?_ _) | (with_reducible refine Kd.C_drewN ?_ _) | (with_reducible refine Kd.C_drew ?_) | exact HR452_0.out)⟩, ⟨by repeat (first | (with_reducible exact HR453_0.out) | (with_reducible refine Kd.C_alloc ?_ _) | (with_reducible refine Kd.C_drewN ?_ _) | (with_reducible refine Kd.C_drew ?_) | exact HR453_0.out)⟩, ⟨by repeat (first | (with_reducible first | exact HB.out | apply below_alloc | apply pw_below_drewN | apply below_drew1 | refine below_set ?_ GE443.out) | exact HB.out)⟩⟩
                                      · rw [if_neg c34] at H
                                        exact absurd H (by simp)
                                    · rw [if_neg c33] at H
                                      exact absurd H (by simp)
                                  · replace c32 := Bool.eq_false_iff.mpr c32
                                    subst c32
                                    have H1 : (mizmazelaw02_NetEnds.j4 k4 a1 t447 x7_4 x8_3 x9_4 (rd (rd_L1 t447 x8_3) x9_4) true l0_0) = some r := by rw [if_neg (show ¬ (false = true) by decide)] at H; exact H
                                    clear H
                                    have H := H1
                                    clear H1
                                    have H' := Aside0.mk H
                                    clear H
                                    try go_wp2
                                    have n0_ := Aside0.mk (Kd.S_drew HO_5.out)
                                    have n1_ := Aside0.mk (Kd.R_drew HL452_0.out)
                                    have n2_ := Aside0.mk (Kd.R_drew HL453_0.out)
                                    have n3_ := Aside0.mk (blk_drew BK443.out)
                                    have n4_ := Aside0.mk (Kd.C_drew HR452_0.out)
                                    have n5_ := Aside0.mk (Kd.C_drew HR453_0.out)
                                    have n6_ := Aside0.mk (below_drew1 HB.out)
                                    clear HO_5
                                    clear HL452_0
                                    clear HL453_0
                                    clear BK443
                                    clear HR452_0
                                    clear HR453_0
                                    clear HB
                                    have HO_5 := n0_
                                    have HL452_0 := n1_
                                    have HL453_0 := n2_
                                    have BK443 := n3_
                                    have HR452_0 := n4_
                                    have HR453_0 := n5_
                                    have HB := n6_
                                    clear n0_ n1_ n2_ n3_ n4_ n5_ n6_
                                    refine start_ (n := 16) (S := fun w' => w'.cell? ⟨gb443, 0, none⟩ = some (.slice A0_0 l0_0.length c0_0)) (ds := []) #[false, false, false, false, false, false, false, false, false, false, false, false, false, false, false, false] (by kernel_rfl) rfl rfl ((blk_cell BK443.out 0).trans rfl) (fun hHeld => ?_); refine with_tabW mizmazelaw02_NetEnds.tab14 mizmazelaw02_NetEnds.bits14 (fun HT_ HW_ => ?_)
                                    generalize wr.drew = w38 at HO_5 HL452_0 HL453_0 BK443 HR452_0 HR453_0 HB hHeld ⊢
                                    refine pure_ (i := 1) (N := some 63) (v := ?_) (a' := ?_) #[false, true, false, false, false, false, false, false, false, false, false, false, false, false, false, false] rfl rfl (any_of HT_.out (by kernel_rfl)) (fun _ _ _ h => h) (Or.inl ⟨by rfl, ?_⟩) ?_ ?_
                                    rotate_left
                                    · intro w'
                                      go_simp
                                      with_reducible rfl
                                    rotate_left
                                    · simp only [Act.put, List.setIfInBounds_toArray, List.set_cons_zero, List.set_cons_succ, i64_w, i32_w]
                                      rfl
                                    refine take_ (i := 0) (N := some 62) (v := ?_) (a' := ?_) #[true, true, false, false, false, false, false, false, false, false, false, false, false, false, false, false] rfl rfl (take_ofW HT_.out HW_.out (by kernel_rfl)) (fun _ _ _ h => h) (Or.inl ⟨by rfl, ?_⟩) hHeld ?_ ?_
                                    rotate_left
                                    · intro w' s0
                                      go_simp
                                      with_reducible rfl
                                    rotate_left
                                    · simp only [Act.put, List.setIfInBounds_toArray, List.set_cons_zero, List.set_cons_succ, i64_w, i32_w]
                                      rfl
                                    refine one_ (i := 2) (N := some 64) #[true, true, true, false, false, false, false, false, false, false, false, false, false, false, false, false] rfl rfl (one_of HT_.out (by kernel_rfl)) (by decide) (fun K hK => ?_)
                                    refine goes_ Try.func21 (by kernel_rfl) rfl #[.agg #[.slice A0_0 l0_0.length c0_0], .int .i64 (rd (rd_L1 t447 x8_3) x9_4)] (by rfl) rfl rfl (by (try simp only [List.map_toArray, List.map_cons, List.map_nil]); first | done | rfl | (simp only [List.length_drop, List.length_take]; rfl)) ?_
                                    with_reducible refine (mizmazeref01_State.calls _ _ l0_0 (rd (rd_L1 t447 x8_3) x9_4) false _ ?side1 ?side2 A31.out).mono ?_
                                    (case side1 => repeat (first | exact (Kd.C_below HR0_0.out HB.out) | (with_reducible refine Kd.C_alloc ?_ _) | (with_reducible refine Kd.C_drewN ?_ _) | (with_reducible refine Kd.C_drew ?_)))
                                    (case side2 => exact HC0_0.out)
                                    rintro e w39 ⟨rfl, hb⟩
                                    refine ⟨_, rfl, ?_⟩
                                    have n0_ := Aside0.mk (Kd.S_below (by (with_reducible repeat (first | apply Kd.S_alloc | apply Kd.S_drewN | apply Kd.S_drew)); exact HO_5.out) hb)
                                    have n1_ := Aside0.mk (Kd.R_below (by (with_reducible repeat (first | apply Kd.R_alloc | apply Kd.R_drewN | apply Kd.R_drew)); exact HL452_0.out) hb)
                                    have n2_ := Aside0.mk (Kd.R_below (by (with_reducible repeat (first | apply Kd.R_alloc | apply Kd.R_drewN | apply Kd.R_drew)); exact HL453_0.out) hb)
                                    have n3_ := Aside0.mk (blk_below (g := gb443) (o := .cells #[.slice A0_0 l0_0.length c0_0] 24 (0, 0)) (by (with_reducible repeat (first | refine blk_drewN ?_ _ | refine blk_drew ?_ | refine blk_alloc ?_ _)); exact BK443.out) hb)
                                    have n4_ := Aside0.mk (Kd.C_below (by repeat (first | (with_reducible exact HR452_0.out) | (with_reducible refine Kd.C_alloc ?_ _) | (with_reducible refine Kd.C_drewN ?_ _) | (with_reducible refine Kd.C_drew ?_) | exact HR452_0.out)) hb)
                                    have n5_ := Aside0.mk (Kd.C_below (by repeat (first | (with_reducible exact HR453_0.out) | (with_reducible refine Kd.C_alloc ?_ _) | (with_reducible refine Kd.C_drewN ?_ _) | (with_reducible refine Kd.C_drew ?_) | exact HR453_0.out)) hb)
                                    have n6_ := Aside0.mk (below_step (by repeat (first | (with_reducible first | exact HB.out | apply below_alloc | apply pw_below_drewN | apply below_drew1 | refine below_set ?_ GE443.out) | exact HB.out)) hb)
                                    clear HO_5
                                    clear HL452_0
                                    clear HL453_0
                                    clear BK443
                                    clear HR452_0
                                    clear HR453_0
                                    clear HB
                                    have HO_5 := n0_
                                    have HL452_0 := n1_
                                    have HL453_0 := n2_
                                    have BK443 := n3_
                                    have HR452_0 := n4_
                                    have HR453_0 := n5_
                                    have HB := n6_
                                    clear n0_ n1_ n2_ n3_ n4_ n5_ n6_
                                    (try clear hb)
                                    (try clear hb2)
                                    (try clear hk)
                                    (try clear hi)
                                    refine hK.out _ _ ((blk_cell BK443.out 0).trans rfl) (fun hHeld => ?_)
                                    clear hK K
                                    refine norm_ (a' := ?_) ?_ ?_
                                    rotate_left
                                    · show Act.put _ (some 64) _ = _
                                      simp only [Act.put, List.setIfInBounds_toArray, List.set_cons_zero, List.set_cons_succ, i64_w, i32_w]
                                      rfl
                                    refine pure_ (i := 3) (N := some 65) (v := ?_) (a' := ?_) #[true, true, true, true, false, false, false, false, false, false, false, false, false, false, false, false] rfl rfl (any_of HT_.out (by kernel_rfl)) (fun _ _ _ h => h) (Or.inl ⟨by rfl, ?_⟩) ?_ ?_
                                    rotate_left
                                    · intro w'
                                      go_simp
                                      with_reducible rfl
                                    rotate_left
                                    · simp only [Act.put, List.setIfInBounds_toArray, List.set_cons_zero, List.set_cons_succ, i64_w, i32_w]
                                      rfl
                                    refine pure_ (i := 4) (N := some 66) (v := ?_) (a' := ?_) #[true, true, true, true, true, false, false, false, false, false, false, false, false, false, false, false] rfl rfl (any_of HT_.out (by kernel_rfl)) (fun _ _ _ h => h) (Or.inl ⟨by rfl, ?_⟩) ?_ ?_
                                    rotate_left
                                    · intro w'
                                      go_simp
                                      with_reducible rfl
                                    rotate_left
                                    · simp only [Act.put, List.setIfInBounds_toArray, List.set_cons_zero, List.set_cons_succ, i64_w, i32_w]
                                      rfl
                                    refine pure_ (i := 5) (N := some 67) (v := undef) (a' := ?_) #[true, true, true, true, true, true, false, false, false, false, false, false, false, false, false, false] rfl rfl (any_of HT_.out (by kernel_rfl)) (fun _ _ _ h => h) (Or.inr ⟨by rfl, rfl⟩) ?_ ?_
                                    rotate_left
                                    · simp only [Act.put, List.setIfInBounds_toArray, List.set_cons_zero, List.set_cons_succ, i64_w, i32_w]
                                      rfl
                                    refine pure_ (i := 6) (N := some 68) (v := undef) (a' := ?_) #[true, true, true, true, true, true, true, false, false, false, false, false, false, false, false, false] rfl rfl (any_of HT_.out (by kernel_rfl)) (fun _ _ _ h => h) (Or.inr ⟨by rfl, rfl⟩) ?_ ?_
                                    rotate_left
                                    · simp only [Act.put, List.setIfInBounds_toArray, List.set_cons_zero, List.set_cons_succ, i64_w, i32_w]
                                      rfl
                                    refine pure_ (i := 7) (N := some 69) (v := undef) (a' := ?_) #[true, true, true, true, true, true, true, true, false, false, false, false, false, false, false, false] rfl rfl (any_of HT_.out (by kernel_rfl)) (fun _ _ _ h => h) (Or.inr ⟨by rfl, rfl⟩) ?_ ?_
                                    rotate_left
                                    · simp only [Act.put, List.setIfInBounds_toArray, List.set_cons_zero, List.set_cons_succ, i64_w, i32_w]
                                      rfl
                                    refine pure_ (i := 8) (N := some 70) (v := undef) (a' := ?_) #[true, true, true, true, true, true, true, true, true, false, false, false, false, false, false, false] rfl rfl (any_of HT_.out (by kernel_rfl)) (fun _ _ _ h => h) (Or.inr ⟨by rfl, rfl⟩) ?_ ?_
                                    rotate_left
                                    · simp only [Act.put, List.setIfInBounds_toArray, List.set_cons_zero, List.set_cons_succ, i64_w, i32_w]
                                      rfl
                                    refine pure_ (i := 9) (N := some 71) (v := undef) (a' := ?_) #[true, true, true, true, true, true, true, true, true, true, false, false, false, false, false, false] rfl rfl (any_of HT_.out (by kernel_rfl)) (fun _ _ _ h => h) (Or.inr ⟨by rfl, rfl⟩) ?_ ?_
                                    rotate_left
                                    · simp only [Act.put, List.setIfInBounds_toArray, List.set_cons_zero, List.set_cons_succ, i64_w, i32_w]
                                      rfl
                                    refine pure_ (i := 10) (N := some 72) (v := undef) (a' := ?_) #[true, true, true, true, true, true, true, true, true, true, true, false, false, false, false, false] rfl rfl (any_of HT_.out (by kernel_rfl)) (fun _ _ _ h => h) (Or.inr ⟨by rfl, rfl⟩) ?_ ?_
                                    rotate_left
                                    · simp only [Act.put, List.setIfInBounds_toArray, List.set_cons_zero, List.set_cons_succ, i64_w, i32_w]
                                      rfl
                                    refine pure_ (i := 11) (N := some 73) (v := undef) (a' := ?_) #[true, true, true, true, true, true, true, true, true, true, true, true, false, false, false, false] rfl rfl (any_of HT_.out (by kernel_rfl)) (fun _ _ _ h => h) (Or.inr ⟨by rfl, rfl⟩) ?_ ?_
                                    rotate_left
                                    · simp only [Act.put, List.setIfInBounds_toArray, List.set_cons_zero, List.set_cons_succ, i64_w, i32_w]
                                      rfl
                                    refine pure_ (i := 12) (N := some 74) (v := undef) (a' := ?_) #[true, true, true, true, true, true, true, true, true, true, true, true, true, false, false, false] rfl rfl (any_of HT_.out (by kernel_rfl)) (fun _ _ _ h => h) (Or.inr ⟨by rfl, rfl⟩) ?_ ?_
                                    rotate_left
                                    · simp only [Act.put, List.setIfInBounds_toArray, List.set_cons_zero, List.set_cons_succ, i64_w, i32_w]
                                      rfl
                                    refine pure_ (i := 13) (N := some 75) (v := undef) (a' := ?_) #[true, true, true, true, true, true, true, true, true, true, true, true, true, true, false, false] rfl rfl (any_of HT_.out (by kernel_rfl)) (fun _ _ _ h => h) (Or.inr ⟨by rfl, rfl⟩) ?_ ?_
                                    rotate_left
                                    · simp only [Act.put, List.setIfInBounds_toArray, List.set_cons_zero, List.set_cons_succ, i64_w, i32_w]
                                      rfl
                                    refine pure_ (i := 14) (N := some 76) (v := undef) (a' := ?_) #[true, true, true, true, true, true, true, true, true, true, true, true, true, true, true, false] rfl rfl (any_of HT_.out (by kernel_rfl)) (fun _ _ _ h => h) (Or.inr ⟨by rfl, rfl⟩) ?_ ?_
                                    rotate_left
                                    · simp only [Act.put, List.setIfInBounds_toArray, List.set_cons_zero, List.set_cons_succ, i64_w, i32_w]
                                      rfl
                                    refine pure_ (i := 15) (N := some 77) (v := ?_) (a' := ?_) #[true, true, true, true, true, true, true, true, true, true, true, true, true, true, true, true] rfl rfl (any_of HT_.out (by kernel_rfl)) (fun _ _ _ h => h) (Or.inl ⟨by rfl, ?_⟩) ?_ ?_
                                    rotate_left
                                    · intro w'
                                      go_simp
                                      with_reducible rfl
                                    rotate_left
                                    · simp only [Act.put, List.setIfInBounds_toArray, List.set_cons_zero, List.set_cons_succ, i64_w, i32_w]
                                      rfl
                                    refine done_ (done_of HT_.out (by kernel_rfl)) ?_
                                    try go_wp2
                                    go_meet
                                    case rel => exact ⟨_, (true), (by first | rfl | (simp; done) | (simp [*]; done)), H', ⟨by have := HJ2.out; have := HJ17.out; have := HK3.out; have := HK4.out; first | omega | exact Nat.le_refl _⟩, ⟨by (with_reducible repeat (first | apply Kd.S_alloc | apply Kd.S_drewN | apply Kd.S_drew)); exact HO_5.out⟩, ⟨by (with_reducible repeat (first | refine blk_drewN ?_ _ | refine blk_drew ?_ | refine blk_alloc ?_ _)); exact BK443.out⟩, ⟨by repeat (first | (with_reducible exact HR452_0.out) | (with_reducible refine Kd.C_alloc ?_ _) | (with_reducible refine Kd.C_drewN ?_ _) | (with_reducible refine Kd.C_drew ?_) | exact HR452_0.out)⟩, ⟨by repeat (first | (with_reducible exact HR453_0.out) | (with_reducible refine Kd.C_alloc ?_ _) | (with_reducible refine Kd.C_drewN ?_ _) | (with_reducible refine Kd.C_drew ?_) | exact HR453_0.out)⟩, ⟨by repeat (first | (with_reducible first | exact HB.out | apply below_alloc | apply pw_below_drewN | apply below_drew1 | refine below_set ?_ GE443.out) | exact HB.out)⟩⟩
                                case rest =>
                                  clear HC30
                                  try clear c1
                                  try clear c2
                                  try clear p2
                                  try clear c3
                                  try clear c4
                                  try clear p4
                                  try clear q4
                                  try clear hx4
                                  try clear c6
                                  try clear c7
                                  try clear c14
                                  try clear c18
                                  try clear c19
                                  try clear c21
                                  try clear c21b0
                                  try clear c21b1
                                  try clear c23
                                  try clear c24
                                  try clear c24b0
                                  try clear c26
                                  try clear c26b0
                                  try clear c27
                                  try clear c27b0
                                  try clear c28
                                  try clear c28b0
                                  try clear c29
                                  try clear c29b0
                                  try clear c32
                                  try clear c33
                                  try clear c33b0
                                  try clear c34
                                  try clear c34b0
                                  try clear c37
                                  try clear hcz10_0
                                  try clear hcz12_0
                                  try clear hcz19_0
                                  try clear hcz8_0
                                  try clear hfz10_0
                                  try clear hfz12_0
                                  try clear hfz19_0
                                  try clear hfz8_0
                                  try clear hx452_0
                                  try clear hx453_0
                                  try clear hx454_0
                                  try clear hx456_0
                                  try clear p2
                                  try clear p452
                                  try clear p453
                                  try clear p454
                                  try clear p456
                                  try clear q452
                                  try clear q453
                                  try clear q454
                                  try clear q456
                                  obtain ⟨kq, x77_29, rfl, HA, HJ29, HO_5, BK443, HR452_0, HR453_0, HB⟩ := hcut
                                  cases kq with
                                  | zero => exact absurd HA.out (by simp [mizmazelaw02_NetEnds.j4])
                                  | succ kj29 =>
                                    have H := HA.out
                                    clear HA
                                    simp only [mizmazelaw02_NetEnds.j4] at H
                                    by_cases c40 : x77_29 = true
                                    · subst c40
                                      have H1 : (some false) = some r := by rw [if_pos rfl] at H; exact H
                                      clear H
                                      have H := H1
                                      clear H1
                                      obtain rfl := Option.some.inj H
                                      go_wp2
                                      go_ret
                                      exact ⟨by first | rfl | (simp [errW_none, errW_some] <;> rfl) | (simp [*, errW_none, errW_some] <;> rfl), by repeat (first | (with_reducible first | exact HB.out | apply below_alloc | apply pw_below_drewN | apply below_drew1 | refine below_set ?_ GE443.out) | exact HB.out)⟩
                                    · replace c40 := Bool.eq_false_iff.mpr c40
                                      subst c40
                                      have H1 : (mizmazelaw02_NetEnds.l2 kj29 a1 t447 x7_4 x8_3 x9_4 (rd (rd_L1 t447 x8_3) x9_4) 0 l0_0) = some r := by rw [if_neg (show ¬ (false = true) by decide)] at H; exact H
                                      clear H
                                      have H := H1
                                      clear H1
                                      have H' := Aside0.mk H
                                      clear H
                                      go_wp2
                                      go_loopg [11] kj29 (fun kq v11 w' => ∃ (x11_6 : Int), v11 = .int .i64 x11_6 ∧ Aside0 (mizmazelaw02_NetEnds.l2 kq a1 t447 x7_4 x8_3 x9_4 (rd (rd_L1 t447 x8_3) x9_4) x11_6 l0_0 = some r) ∧ Aside0 (kq ≤ kj29) ∧ Aside0 (Kd.S (Kd.slice 3 (Kd.int .i64)) 28 w' w.heap.size (fun _ => True) (.slice (some ad452) t447.length co25) t447) ∧ Aside0 (w'.heap[gb443]? = some (.cells #[(.slice A0_0 l0_0.length c0_0)] 24 (0, 0))) ∧ Aside0 (Kd.C (Kd.int .i64) w' (some ad454) (rd_L1 t447 x8_3).length (rd_L1 t447 x8_3)) ∧ Aside0 (Kd.C (Kd.int .i64) w' (some ad454) (rd_L1 t447 x8_3).length (rd_L1 t447 x8_3)) ∧ Aside0 (Below w.heap.size w w'))
                                      case atStart => exact ⟨(0), (by first | rfl | (simp; done) | (simp [*]; done)), H', ⟨Nat.le_refl _⟩, ⟨by (with_reducible repeat (first | apply Kd.S_alloc | apply Kd.S_drewN | apply Kd.S_drew)); exact HO_5.out⟩, ⟨by (with_reducible repeat (first | refine blk_drewN ?_ _ | refine blk_drew ?_ | refine blk_alloc ?_ _)); exact BK443.out⟩, ⟨by repeat (first | (with_reducible exact HR452_0.out) | (with_reducible refine Kd.C_alloc ?_ _) | (with_reducible refine Kd.C_drewN ?_ _) | (with_reducible refine Kd.C_drew ?_) | exact HR452_0.out)⟩, ⟨by repeat (first | (with_reducible exact HR453_0.out) | (with_reducible refine Kd.C_alloc ?_ _) | (with_reducible refine Kd.C_drewN ?_ _) | (with_reducible refine Kd.C_drew ?_) | exact HR453_0.out)⟩, ⟨by repeat (first | (with_reducible first | exact HB.out | apply below_alloc | apply pw_below_drewN | apply below_drew1 | refine below_set ?_ GE443.out) | exact HB.out)⟩⟩
                                      case round =>
                                        clear H'
                                        try clear c1
                                        try clear c2
                                        try clear p2
                                        try clear c3
                                        try clear c4
                                        try clear p4
                                        try clear q4
                                        try clear hx4
                                        try clear c6
                                        try clear c7
                                        try clear c14
                                        try clear c18
                                        try clear c19
                                        try clear c21
                                        try clear c21b0
                                        try clear c21b1
                                        try clear c23
                                        try clear c24
                                        try clear c24b0
                                        try clear c26
                                        try clear c26b0
                                        try clear c27
                                        try clear c27b0
                                        try clear c28
                                        try clear c28b0
                                        try clear c29
                                        try clear c29b0
                                        try clear c32
                                        try clear c33
                                        try clear c33b0
                                        try clear c34
                                        try clear c34b0
                                        try clear c37
                                        try clear c40
                                        try clear hcz10_0
                                        try clear hcz12_0
                                        try clear hcz19_0
                                        try clear hcz8_0
                                        try clear hfz10_0
                                        try clear hfz12_0
                                        try clear hfz19_0
                                        try clear hfz8_0
                                        try clear hx452_0
                                        try clear hx453_0
                                        try clear hx454_0
                                        try clear hx456_0
                                        try clear p2
                                        try clear p4
                                        try clear p452
                                        try clear p453
                                        try clear p454
                                        try clear p456
                                        try clear q4
                                        try clear q452
                                        try clear q453
                                        try clear q454
                                        try clear q456
                                        obtain ⟨x11_6, rfl, HA, HK6, HO_5, BK443, HR452_0, HR453_0, HB⟩ := hrel
                                        cases gk with
                                        | zero => exact absurd HA.out (by simp [mizmazelaw02_NetEnds.l2])
                                        | succ k6 =>
                                          have H := HA.out
                                          clear HA
                                          simp only [mizmazelaw02_NetEnds.l2] at H
                                          replace H := Option.bind_eq_some_iff.mp H
                                          obtain ⟨t458, A410, H⟩ := H
                                          replace H : (if x11_6 < t458 then (if 0 ≤ x8_3 then (if x8_3 < (t447.length : Int) then (if 0 ≤ (rd (rd_L1 t447 x8_3) x9_4) then (if (rd (rd_L1 t447 x8_3) x9_4) < (l0_0.length : Int) then (if 0 ≤ x11_6 then (if x11_6 < ((rd_L1 l0_0 (rd (rd_L1 t447 x8_3) x9_4)).length : Int) then ((mizmazeref01_Has.f k6 (rd_L1 t447 x8_3) (rd (rd_L1 l0_0 (rd (rd_L1 t447 x8_3) x9_4)) x11_6)).bind fun t462 => (if t462 = true then (mizmazelaw02_NetEnds.l2 k6 a1 t447 x7_4 x8_3 x9_4 (rd (rd_L1 t447 x8_3) x9_4) (wrap64 (x11_6 + 1)) l0_0) else (some false))) else (none)) else (none)) else (none)) else (none)) else (none)) else (none)) else ((net_Path.f k6 l0_0 a1 (rd (rd_L1 t447 x8_3) x9_4)).bind fun bt463 => (if bt463.2 = 0 then ((auto_Run.f k6 l0_0 a1 bt463.1).bind fun bt467 => (if bt467.2 = 0 then (if bt467.1 = (rd (rd_L1 t447 x8_3) x9_4) then (mizmazelaw02_NetEnds.j6 k6 a1 t447 x7_4 x8_3 x9_4 (rd (rd_L1 t447 x8_3) x9_4) bt463.2 l0_0) else (some false)) else (some false))) else (mizmazelaw02_NetEnds.j6 k6 a1 t447 x7_4 x8_3 x9_4 (rd (rd_L1 t447 x8_3) x9_4) bt463.2 l0_0)))) = some r := H
                                          have A41 := Aside0.mk A410
                                          clear A410
                                          by_cases c42 : x11_6 < t458
                                          · rw [if_pos c42] at H
                                            have c42b0 : decide (x11_6 < t458) = true := decide_eq_true c42
                                            clear c42
                                            by_cases c43 : 0 ≤ x8_3
                                            · rw [if_pos c43] at H
                                              have c43b0 : decide (0 ≤ x8_3) = true := decide_eq_true c43
                                              clear c43
                                              by_cases c44 : x8_3 < (t447.length : Int)
                                              · rw [if_pos c44] at H
                                                have c44b0 : decide (x8_3 < (t447.length : Int)) = true := decide_eq_true c44
                                                clear c44
                                                by_cases c45 : 0 ≤ (rd (rd_L1 t447 x8_3) x9_4)
                                                · rw [if_pos c45] at H
                                                  have c45b0 : decide (0 ≤ (rd (rd_L1 t447 x8_3) x9_4)) = true := decide_eq_true c45
                                                  clear c45
                                                  by_cases c46 : (rd (rd_L1 t447 x8_3) x9_4) < (l0_0.length : Int)
                                                  · rw [if_pos c46] at H
                                                    have c46b0 : decide ((rd (rd_L1 t447 x8_3) x9_4) < (l0_0.length : Int)) = true := decide_eq_true c46
                                                    clear c46
                                                    by_cases c47 : 0 ≤ x11_6
                                                    · rw [if_pos c47] at H
                                                      have c47b0 : decide (0 ≤ x11_6) = true := decide_eq_true c47
                                                      clear c47
                                                      by_cases c48 : x11_6 < ((rd_L1 l0_0 (rd (rd_L1 t447 x8_3) x9_4)).length : Int)
                                                      · rw [if_pos c48] at H
                                                        have c48b0 : decide (x11_6 < ((rd_L1 l0_0 (rd (rd_L1 t447 x8_3) x9_4)).length : Int)) = true := decide_eq_true c48
                                                        clear c48
                                                        replace H := Option.bind_eq_some_iff.mp H
                                                        obtain ⟨t462, A490, H⟩ := H
                                                        replace H : (if t462 = true then (mizmazelaw02_NetEnds.l2 k6 a1 t447 x7_4 x8_3 x9_4 (rd (rd_L1 t447 x8_3) x9_4) (wrap64 (x11_6 + 1)) l0_0) else (some false)) = some r := H
                                                        have A49 := Aside0.mk A490
                                                        clear A490
                                                        by_cases c50 : t462 = true
                                                        · subst c50
                                                          have H1 : (mizmazelaw02_NetEnds.l2 k6 a1 t447 x7_4 x8_3 x9_4 (rd (rd_L1 t447 x8_3) x9_4) (wrap64 (x11_6 + 1)) l0_0) = some r := by rw [if_pos rfl] at H; exact H
                                                          clear H
                                                          have H := H1
                                                          clear H1
                                                          have H' := Aside0.mk H
                                                          clear H
                                                          have hcz51_0 : wr.cell? ⟨gb443, 0, none⟩ = some (.slice A0_0 l0_0.length c0_0) := (blk_cell BK443.out 0).trans rfl
                                                          have hfz51_0 := blk_frozen BK443.out 0
                                                          try go_wp2_with (first | ((with_reducible refine gate_callee (f := 38) rfl ?_); refine goesL_ (some 80) rfl rfl Try.func38 (by kernel_rfl) rfl #[.agg #[.slice A0_0 l0_0.length c0_0]] rfl (by (try simp only [List.map_toArray, List.map_cons, List.map_nil]); first | done | rfl | (simp only [List.length_drop, List.length_take]; rfl)) ?_; (with_reducible refine (mizmazeref01_Letters.calls _ _ l0_0 t458 _ ?side1 ?side2 A41.out).mono ?_); (case side1 => repeat (first | exact (Kd.C_below HR0_0.out HB.out) | (with_reducible refine Kd.C_alloc ?_ _) | (with_reducible refine Kd.C_drewN ?_ _) | (with_reducible refine Kd.C_drew ?_))); (case side2 => exact HC0_0.out); rintro e w52 ⟨rfl, hb⟩; refine ⟨_, rfl, ?_⟩; have n0_ := Aside0.mk (Kd.S_below (by (with_reducible repeat (first | apply Kd.S_alloc | apply Kd.S_drewN | apply Kd.S_drew)); exact HO_5.out) hb); have n1_ := Aside0.mk (blk_below (g := gb443) (o := .cells #[.slice A0_0 l0_0.length c0_0] 24 (0, 0)) (by (with_reducible repeat (first | refine blk_drewN ?_ _ | refine blk_drew ?_ | refine blk_alloc ?_ _)); exact BK443.out) hb); have n2_ := Aside0.mk (Kd.C_below (by repeat (first | (with_reducible exact HR452_0.out) | (with_reducible refine Kd.C_alloc ?_ _) | (with_reducible refine Kd.C_drewN ?_ _) | (with_reducible refine Kd.C_drew ?_) | exact HR452_0.out)) hb); have n3_ := Aside0.mk (Kd.C_below (by repeat (first | (with_reducible exact HR453_0.out) | (with_reducible refine Kd.C_alloc ?_ _) | (with_reducible refine Kd.C_drewN ?_ _) | (with_reducible refine Kd.C_drew ?_) | exact HR453_0.out)) hb); have n4_ := Aside0.mk (below_step (by repeat (first | (with_reducible first | exact HB.out | apply below_alloc | apply pw_below_drewN | apply below_drew1 | refine below_set ?_ GE443.out) | exact HB.out)) hb); clear HO_5; clear BK443; clear HR452_0; clear HR453_0; clear HB; have HO_5 := n0_; have BK443 := n1_; have HR452_0 := n2_; have HR453_0 := n3_; have HB := n4_; clear n0_ n1_ n2_ n3_ n4_; (try clear hb); (try clear hb2); (try clear hk); (try clear hi)))
                                                          have n0_ := Aside0.mk (Kd.S_drew HO_5.out)
                                                          have n1_ := Aside0.mk (blk_drew BK443.out)
                                                          have n2_ := Aside0.mk (Kd.C_drew HR452_0.out)
                                                          have n3_ := Aside0.mk (Kd.C_drew HR453_0.out)
                                                          have n4_ := Aside0.mk (below_drew1 HB.out)
                                                          clear HO_5
                                                          clear BK443
                                                          clear HR452_0
                                                          clear HR453_0
                                                          clear HB
                                                          have HO_5 := n0_
                                                          have BK443 := n1_
                                                          have HR452_0 := n2_
                                                          have HR453_0 := n3_
                                                          have HB := n4_
                                                          clear n0_ n1_ n2_ n3_ n4_
                                                          have p459 : 0 ≤ (x8_3 : Int) := of_decide_eq_true (by first | (with_reducible assumption) | assumption)
                                                          have q459 : x8_3 < (t447.length : Int) := of_decide_eq_true (by first | (with_reducible assumption) | assumption)
                                                          obtain ⟨ad459, A459_0, c459_0, e459, hx459_0, hl459_0, hi459_0⟩ := at_L1 (Kd.S_reads' HO_5.out).2.2 x8_3 p459 q459
                                                          obtain rfl : ad452 = ad459 := (by injection e459)
                                                          obtain ⟨ce459, hce459, hMe459, hcc459⟩ := Kd.S_get HO_5.out [] x8_3 p459 (by first | exact q459 | exact of_decide_eq_true (by first | (with_reducible assumption) | assumption) | (have e_ := (Kd.S_reads' HO_5.out).1; omega))
                                                          obtain ⟨ve459_0, rfl, ge459_0⟩ := hMe459
                                                          have hv459_0 := hcc459 0 _ rfl
                                                          rw [Nat.add_zero, show ((Kd.slice 3 (Kd.int .i64))).sz = 1 from rfl, Nat.mul_one] at hv459_0
                                                          replace hv459_0 := Option.some.inj (hv459_0.symm.trans hx459_0)
                                                          rw [hv459_0] at ge459_0
                                                          have HL459_0 := Aside0.mk (show Kd.R (Kd.int .i64) 3 _ _ _ _ (rd_L1 t447 x8_3) from ge459_0)
                                                          clear hv459_0 ge459_0
                                                          clear hcc459 hce459
                                                          have HR459_0 := Aside0.mk hi459_0
                                                          have HC459_0 := Aside0.mk hl459_0
                                                          clear hi459_0 hl459_0
                                                          replace p459 := eq_true p459
                                                          replace q459 := eq_true q459
                                                          have p460 : 0 ≤ ((rd (rd_L1 t447 x8_3) x9_4) : Int) := of_decide_eq_true (by first | (with_reducible assumption) | assumption)
                                                          have q460 : (rd (rd_L1 t447 x8_3) x9_4) < (l0_0.length : Int) := of_decide_eq_true (by first | (with_reducible assumption) | assumption)
                                                          obtain ⟨ad460, A460_0, c460_0, e460, hx460_0, hl460_0, hi460_0⟩ := at_L1 HR0_0.out (rd (rd_L1 t447 x8_3) x9_4) p460 q460
                                                          have hw460_0 := hx460_0
                                                          cases e460
                                                          replace hx460_0 := (HB.out.cell (World.block_lt_of_cell? w _ hx460_0)).trans hx460_0
                                                          have HR460_0 := Aside0.mk hi460_0
                                                          have HC460_0 := Aside0.mk hl460_0
                                                          clear hi460_0 hl460_0
                                                          replace p460 := eq_true p460
                                                          replace q460 := eq_true q460
                                                          have p461 : 0 ≤ (x11_6 : Int) := of_decide_eq_true (by first | (with_reducible assumption) | assumption)
                                                          have q461 : x11_6 < ((rd_L1 l0_0 (rd (rd_L1 t447 x8_3) x9_4)).length : Int) := of_decide_eq_true (by first | (with_reducible assumption) | assumption)
                                                          obtain ⟨ad461, e461, hx461_0⟩ := Kd.at_int HR460_0.out x11_6 p461 q461
                                                          have hw461_0 := hx461_0
                                                          cases e461
                                                          replace hx461_0 := (HB.out.cell (World.block_lt_of_cell? w _ hx461_0)).trans hx461_0
                                                          replace p461 := eq_true p461
                                                          replace q461 := eq_true q461
                                                          refine start_ (n := 14) (S := fun w' => w'.cell? ⟨gb443, 0, none⟩ = some (.slice (some ad460) l0_0.length c0_0) ∧ w'.cell? (ad452.add (x8_3).toNat) = some (.slice A459_0 (rd_L1 t447 x8_3).length c459_0) ∧ w'.cell? (ad460.add ((rd (rd_L1 t447 x8_3) x9_4)).toNat) = some (.slice (some ad461) (rd_L1 l0_0 (rd (rd_L1 t447 x8_3) x9_4)).length c460_0) ∧ w'.cell? (ad461.add (x11_6).toNat) = some (.int .i64 (rd (rd_L1 l0_0 (rd (rd_L1 t447 x8_3) x9_4)) x11_6))) (ds := []) #[false, false, false, false, false, false, false, false, false, false, false, false, false, false] (by kernel_rfl) rfl rfl ⟨(blk_cell BK443.out 0).trans rfl, hx459_0, ((HB.out.cell (World.block_lt_of_cell? w _ hw460_0)).trans hw460_0), ((HB.out.cell (World.block_lt_of_cell? w _ hw461_0)).trans hw461_0)⟩ (fun hHeld => ?_); refine with_tabW mizmazelaw02_NetEnds.tab19 mizmazelaw02_NetEnds.bits19 (fun HT_ HW_ => ?_)
                                                          generalize w52.drew = w53 at HO_5 BK443 HR452_0 HR453_0 HB HL459_0 HR459_0 HR460_0 hx459_0 hx460_0 hx461_0 hHeld ⊢
                                                          refine pure_ (i := 0) (N := some 84) (v := ?_) (a' := ?_) #[true, false, false, false, false, false, false, false, false, false, false, false, false, false] rfl rfl (any_of HT_.out (by kernel_rfl)) (fun _ _ _ h => h) (Or.inl ⟨by rfl, ?_⟩) ?_ ?_
                                                          rotate_left
                                                          · intro w'
                                                            go_simp
                                                            with_reducible rfl
                                                          rotate_left
                                                          · simp only [Act.put, List.setIfInBounds_toArray, List.set_cons_zero, List.set_cons_succ, i64_w, i32_w]
                                                            rfl
                                                          refine pure_ (i := 1) (N := some 85) (v := ?_) (a' := ?_) #[true, true, false, false, false, false, false, false, false, false, false, false, false, false] rfl rfl (any_of HT_.out (by kernel_rfl)) (fun _ _ _ h => h) (Or.inl ⟨by rfl, ?_⟩) ?_ ?_
                                                          rotate_left
                                                          · intro w'
                                                            go_simp
                                                            with_reducible rfl
                                                          rotate_left
                                                          · simp only [Act.put, List.setIfInBounds_toArray, List.set_cons_zero, List.set_cons_succ, i64_w, i32_w]
                                                            rfl
                                                          refine pure_ (i := 2) (N := some 86) (v := ?_) (a' := ?_) #[true, true, true, false, false, false, false, false, false, false, false, false, false, false] rfl rfl (any_of HT_.out (by kernel_rfl)) (fun _ _ _ h => h) (Or.inl ⟨by rfl, ?_⟩) ?_ ?_
                                                          rotate_left
                                                          · intro w'
                                                            go_simp
                                                            with_reducible rfl
                                                          rotate_left
                                                          · simp only [Act.put, List.setIfInBounds_toArray, List.set_cons_zero, List.set_cons_succ, i64_w, i32_w]
                                                            rfl
                                                          refine pure_ (i := 4) (N := some 88) (v := ?_) (a' := ?_) #[true, true, true, false, true, false, false, false, false, false, false, false, false, false] rfl rfl (any_of HT_.out (by kernel_rfl)) (fun _ _ _ h => h) (Or.inl ⟨by rfl, ?_⟩) ?_ ?_
                                                          rotate_left
                                                          · intro w'
                                                            go_simp
                                                            with_reducible rfl
                                                          rotate_left
                                                          · simp only [Act.put, List.setIfInBounds_toArray, List.set_cons_zero, List.set_cons_succ, i64_w, i32_w]
                                                            rfl
                                                          refine pure_ (i := 6) (N := some 90) (v := ?_) (a' := ?_) #[true, true, true, false, true, false, true, false, false, false, false, false, false, false] rfl rfl (any_of HT_.out (by kernel_rfl)) (fun _ _ _ h => h) (Or.inl ⟨by rfl, ?_⟩) ?_ ?_
                                                          rotate_left
                                                          · intro w'
                                                            go_simp
                                                            with_reducible rfl
                                                          rotate_left
                                                          · simp only [Act.put, List.setIfInBounds_toArray, List.set_cons_zero, List.set_cons_succ, i64_w, i32_w]
                                                            rfl
                                                          refine pure_ (i := 9) (N := some 93) (v := ?_) (a' := ?_) #[true, true, true, false, true, false, true, false, false, true, false, false, false, false] rfl rfl (any_of HT_.out (by kernel_rfl)) (fun _ _ _ h => h) (Or.inl ⟨by rfl, ?_⟩) ?_ ?_
                                                          rotate_left
                                                          · intro w'
                                                            go_simp
                                                            with_reducible rfl
                                                          rotate_left
                                                          · simp only [Act.put, List.setIfInBounds_toArray, List.set_cons_zero, List.set_cons_succ, i64_w, i32_w]
                                                            rfl
                                                          refine take_ (i := 3) (N := some 87) (v := ?_) (a' := ?_) #[true, true, true, true, true, false, true, false, false, true, false, false, false, false] rfl rfl (take_ofW HT_.out HW_.out (by kernel_rfl)) (fun _ _ _ h => h) (Or.inl ⟨by rfl, ?_⟩) hHeld ?_ ?_
                                                          rotate_left
                                                          · rintro w' ⟨s0, s1, s2, s3⟩
                                                            go_simp
                                                            with_reducible rfl
                                                          rotate_left
                                                          · simp only [Act.put, List.setIfInBounds_toArray, List.set_cons_zero, List.set_cons_succ, i64_w, i32_w]
                                                            rfl
                                                          refine take_ (i := 5) (N := some 89) (v := ?_) (a' := ?_) #[true, true, true, true, true, true, true, false, false, true, false, false, false, false] rfl rfl (take_ofW HT_.out HW_.out (by kernel_rfl)) (fun _ _ _ h => h) (Or.inl ⟨by rfl, ?_⟩) hHeld ?_ ?_
                                                          rotate_left
                                                          · rintro w' ⟨s0, s1, s2, s3⟩
                                                            go_simp
                                                            with_reducible rfl
                                                          rotate_left
                                                          · simp only [Act.put, List.setIfInBounds_toArray, List.set_cons_zero, List.set_cons_succ, i64_w, i32_w]
                                                            rfl
                                                          refine pure_ (i := 7) (N := some 91) (v := ?_) (a' := ?_) #[true, true, true, true, true, true, true, true, false, true, false, false, false, false] rfl rfl (any_of HT_.out (by kernel_rfl)) (fun _ _ _ h => h) (Or.inl ⟨by rfl, ?_⟩) ?_ ?_
                                                          rotate_left
                                                          · intro w'
                                                            go_simp
                                                            with_reducible rfl
                                                          rotate_left
                                                          · simp only [Act.put, List.setIfInBounds_toArray, List.set_cons_zero, List.set_cons_succ, i64_w, i32_w]
                                                            rfl
                                                          refine take_ (i := 8) (N := some 92) (v := ?_) (a' := ?_) #[true, true, true, true, true, true, true, true, true, true, false, false, false, false] rfl rfl (take_ofW HT_.out HW_.out (by kernel_rfl)) (fun _ _ _ h => h) (Or.inl ⟨by rfl, ?_⟩) hHeld ?_ ?_
                                                          rotate_left
                                                          · rintro w' ⟨s0, s1, s2, s3⟩
                                                            go_simp
                                                            with_reducible rfl
                                                          rotate_left
                                                          · simp only [Act.put, List.setIfInBounds_toArray, List.set_cons_zero, List.set_cons_succ, i64_w, i32_w]
                                                            rfl
                                                          refine pure_ (i := 10) (N := some 94) (v := ?_) (a' := ?_) #[true, true, true, true, true, true, true, true, true, true, true, false, false, false] rfl rfl (any_of HT_.out (by kernel_rfl)) (fun _ _ _ h => h) (Or.inl ⟨by rfl, ?_⟩) ?_ ?_
                                                          rotate_left
                                                          · intro w'
                                                            go_simp
                                                            with_reducible rfl
                                                          rotate_left
                                                          · simp only [Act.put, List.setIfInBounds_toArray, List.set_cons_zero, List.set_cons_succ, i64_w, i32_w]
                                                            rfl
                                                          refine take_ (i := 11) (N := some 95) (v := ?_) (a' := ?_) #[true, true, true, true, true, true, true, true, true, true, true, true, false, false] rfl rfl (take_ofW HT_.out HW_.out (by kernel_rfl)) (fun _ _ _ h => h) (Or.inl ⟨by rfl, ?_⟩) hHeld ?_ ?_
                                                          rotate_left
                                                          · rintro w' ⟨s0, s1, s2, s3⟩
                                                            go_simp
                                                            with_reducible rfl
                                                          rotate_left
                                                          · simp only [Act.put, List.setIfInBounds_toArray, List.set_cons_zero, List.set_cons_succ, i64_w, i32_w]
                                                            rfl
                                                          refine one_ (i := 12) (N := some 96) #[true, true, true, true, true, true, true, true, true, true, true, true, true, false] rfl rfl (one_of HT_.out (by kernel_rfl)) (by decide) (fun K hK => ?_)
                                                          refine goes_ Try.func36 (by kernel_rfl) rfl #[.slice A459_0 (rd_L1 t447 x8_3).length c459_0, .int .i64 (rd (rd_L1 l0_0 (rd (rd_L1 t447 x8_3) x9_4)) x11_6)] (by rfl) rfl rfl (by (try simp only [List.map_toArray, List.map_cons, List.map_nil]); first | done | rfl | (simp only [List.length_drop, List.length_take]; rfl)) ?_
                                                          with_reducible refine (mizmazeref01_Has.calls k6 _ _ (rd_L1 t447 x8_3) (rd (rd_L1 l0_0 (rd (rd_L1 t447 x8_3) x9_4)) x11_6) true _ ?side1 ?side2 A49.out).mono ?_
                                                          (case side1 => repeat (first | exact (by repeat (first | (with_reducible exact HR459_0.out) | (with_reducible refine Kd.C_alloc ?_ _) | (with_reducible refine Kd.C_drewN ?_ _) | (with_reducible refine Kd.C_drew ?_) | exact HR459_0.out)) | (with_reducible refine Kd.C_alloc ?_ _) | (with_reducible refine Kd.C_drewN ?_ _) | (with_reducible refine Kd.C_drew ?_)))
                                                          (case side2 => exact HC459_0.out)
                                                          rintro e w' ⟨rfl, ⟨nd, rfl⟩⟩
                                                          refine ⟨_, rfl, ?_⟩
                                                          refine hK.out _ _ ⟨(blk_cell BK443.out 0).trans rfl, hHeld.2.1, ((HB.out.cell (World.block_lt_of_cell? w _ hw460_0)).trans hw460_0), ((HB.out.cell (World.block_lt_of_cell? w _ hw461_0)).trans hw461_0)⟩ (fun hHeld => ?_)
                                                          clear hK K
                                                          refine norm_ (a' := ?_) ?_ ?_
                                                          rotate_left
                                                          · show Act.put _ (some 96) _ = _
                                                            simp only [Act.put, List.setIfInBounds_toArray, List.set_cons_zero, List.set_cons_succ, i64_w, i32_w]
                                                            rfl
                                                          refine pure_ (i := 13) (N := some 97) (v := ?_) (a' := ?_) #[true, true, true, true, true, true, true, true, true, true, true, true, true, true] rfl rfl (any_of HT_.out (by kernel_rfl)) (fun _ _ _ h => h) (Or.inl ⟨by rfl, ?_⟩) ?_ ?_
                                                          rotate_left
                                                          · intro w'
                                                            go_simp
                                                            with_reducible rfl
                                                          rotate_left
                                                          · simp only [Act.put, List.setIfInBounds_toArray, List.set_cons_zero, List.set_cons_succ, i64_w, i32_w]
                                                            rfl
                                                          refine done_ (done_of HT_.out (by kernel_rfl)) ?_
                                                          try go_wp2
                                                          go_roundg k6
                                                          case measure => have := HJ2.out; have := HJ17.out; have := HK3.out; have := HK4.out; have := HJ29.out; have := HK6.out; omega
                                                          case rel => exact ⟨(wrap64 (x11_6 + 1)), (by first | rfl | (simp; done) | (simp [*]; done)), H', ⟨by have := HJ2.out; have := HJ17.out; have := HK3.out; have := HK4.out; have := HJ29.out; have := HK6.out; omega⟩, ⟨by (with_reducible repeat (first | apply Kd.S_alloc | apply Kd.S_drewN | apply Kd.S_drew)); exact HO_5.out⟩, ⟨by (with_reducible repeat (first | refine blk_drewN ?_ _ | refine blk_drew ?_ | refine blk_alloc ?_ _)); exact BK443.out⟩, ⟨by repeat (first | (with_reducible exact HR452_0.out) | (with_reducible refine Kd.C_alloc ?_ _) | (with_reducible refine Kd.C_drewN ?_ _) | (with_reducible refine Kd.C_drew ?_) | exact HR452_0.out)⟩, ⟨by repeat (first | (with_reducible exact HR453_0.out) | (with_reducible refine Kd.C_alloc ?_ _) | (with_reducible refine Kd.C_drewN ?_ _) | (with_reducible refine Kd.C_drew ?_) | exact HR453_0.out)⟩, ⟨by repeat (first | (with_reducible first | exact HB.out | apply below_alloc | apply pw_below_drewN | apply below_drew1 | refine below_set ?_ GE443.out) | exact HB.out)⟩⟩
                                                        · replace c50 := Bool.eq_false_iff.mpr c50
                                                          subst c50
                                                          have H1 : (some false) = some r := by rw [if_neg (show ¬ (false = true) by decide)] at H; exact H
                                                          clear H
                                                          have H := H1
                                                          clear H1
                                                          obtain rfl := Option.some.inj H
                                                          have hcz54_0 : wr.cell? ⟨gb443, 0, none⟩ = some (.slice A0_0 l0_0.length c0_0) := (blk_cell BK443.out 0).trans rfl
                                                          have hfz54_0 := blk_frozen BK443.out 0
                                                          try go_wp2_with (first | ((with_reducible refine gate_callee (f := 38) rfl ?_); refine goesL_ (some 80) rfl rfl Try.func38 (by kernel_rfl) rfl #[.agg #[.slice A0_0 l0_0.length c0_0]] rfl (by (try simp only [List.map_toArray, List.map_cons, List.map_nil]); first | done | rfl | (simp only [List.length_drop, List.length_take]; rfl)) ?_; (with_reducible refine (mizmazeref01_Letters.calls _ _ l0_0 t458 _ ?side1 ?side2 A41.out).mono ?_); (case side1 => repeat (first | exact (Kd.C_below HR0_0.out HB.out) | (with_reducible refine Kd.C_alloc ?_ _) | (with_reducible refine Kd.C_drewN ?_ _) | (with_reducible refine Kd.C_drew ?_))); (case side2 => exact HC0_0.out); rintro e w55 ⟨rfl, hb⟩; refine ⟨_, rfl, ?_⟩; have n0_ := Aside0.mk (Kd.S_below (by (with_reducible repeat (first | apply Kd.S_alloc | apply Kd.S_drewN | apply Kd.S_drew)); exact HO_5.out) hb); have n1_ := Aside0.mk (blk_below (g := gb443) (o := .cells #[.slice A0_0 l0_0.length c0_0] 24 (0, 0)) (by (with_reducible repeat (first | refine blk_drewN ?_ _ | refine blk_drew ?_ | refine blk_alloc ?_ _)); exact BK443.out) hb); have n2_ := Aside0.mk (Kd.C_below (by repeat (first | (with_reducible exact HR452_0.out) | (with_reducible refine Kd.C_alloc ?_ _) | (with_reducible refine Kd.C_drewN ?_ _) | (with_reducible refine Kd.C_drew ?_) | exact HR452_0.out)) hb); have n3_ := Aside0.mk (Kd.C_below (by repeat (first | (with_reducible exact HR453_0.out) | (with_reducible refine Kd.C_alloc ?_ _) | (with_reducible refine Kd.C_drewN ?_ _) | (with_reducible refine Kd.C_drew ?_) | exact HR453_0.out)) hb); have n4_ := Aside0.mk (below_step (by repeat (first | (with_reducible first | exact HB.out | apply below_alloc | apply pw_below_drewN | apply below_drew1 | refine below_set ?_ GE443.out) | exact HB.out)) hb); clear HO_5; clear BK443; clear HR452_0; clear HR453_0; clear HB; have HO_5 := n0_; have BK443 := n1_; have HR452_0 := n2_; have HR453_0 := n3_; have HB := n4_; clear n0_ n1_ n2_ n3_ n4_; (try clear hb); (try clear hb2); (try clear hk); (try clear hi)))
                                                          have n0_ := Aside0.mk (Kd.S_drew HO_5.out)
                                                          have n1_ := Aside0.mk (blk_drew BK443.out)
                                                          have n2_ := Aside0.mk (Kd.C_drew HR452_0.out)
                                                          have n3_ := Aside0.mk (Kd.C_drew HR453_0.out)
                                                          have n4_ := Aside0.mk (below_drew1 HB.out)
                                                          clear HO_5
                                                          clear BK443
                                                          clear HR452_0
                                                          clear HR453_0
                                                          clear HB
                                                          have HO_5 := n0_
                                                          have BK443 := n1_
                                                          have HR452_0 := n2_
                                                          have HR453_0 := n3_
                                                          have HB := n4_
                                                          clear n0_ n1_ n2_ n3_ n4_
                                                          have p459 : 0 ≤ (x8_3 : Int) := of_decide_eq_true (by first | (with_reducible assumption) | assumption)
                                                          have q459 : x8_3 < (t447.length : Int) := of_decide_eq_true (by first | (with_reducible assumption) | assumption)
                                                          obtain ⟨ad459, A459_0, c459_0, e459, hx459_0, hl459_0, hi459_0⟩ := at_L1 (Kd.S_reads' HO_5.out).2.2 x8_3 p459 q459
                                                          obtain rfl : ad452 = ad459 := (by injection e459)
                                                          obtain ⟨ce459, hce459, hMe459, hcc459⟩ := Kd.S_get HO_5.out [] x8_3 p459 (by first | exact q459 | exact of_decide_eq_true (by first | (with_reducible assumption) | assumption) | (have e_ := (Kd.S_reads' HO_5.out).1; omega))
                                                          obtain ⟨ve459_0, rfl, ge459_0⟩ := hMe459
                                                          have hv459_0 := hcc459 0 _ rfl
                                                          rw [Nat.add_zero, show ((Kd.slice 3 (Kd.int .i64))).sz = 1 from rfl, Nat.mul_one] at hv459_0
                                                          replace hv459_0 := Option.some.inj (hv459_0.symm.trans hx459_0)
                                                          rw [hv459_0] at ge459_0
                                                          have HL459_0 := Aside0.mk (show Kd.R (Kd.int .i64) 3 _ _ _ _ (rd_L1 t447 x8_3) from ge459_0)
                                                          clear hv459_0 ge459_0
                                                          clear hcc459 hce459
                                                          have HR459_0 := Aside0.mk hi459_0
                                                          have HC459_0 := Aside0.mk hl459_0
                                                          clear hi459_0 hl459_0
                                                          replace p459 := eq_true p459
                                                          replace q459 := eq_true q459
                                                          have p460 : 0 ≤ ((rd (rd_L1 t447 x8_3) x9_4) : Int) := of_decide_eq_true (by first | (with_reducible assumption) | assumption)
                                                          have q460 : (rd (rd_L1 t447 x8_3) x9_4) < (l0_0.length : Int) := of_decide_eq_true (by first | (with_reducible assumption) | assumption)
                                                          obtain ⟨ad460, A460_0, c460_0, e460, hx460_0, hl460_0, hi460_0⟩ := at_L1 HR0_0.out (rd (rd_L1 t447 x8_3) x9_4) p460 q460
                                                          have hw460_0 := hx460_0
                                                          cases e460
                                                          replace hx460_0 := (HB.out.cell (World.block_lt_of_cell? w _ hx460_0)).trans hx460_0
                                                          have HR460_0 := Aside0.mk hi460_0
                                                          have HC460_0 := Aside0.mk hl460_0
                                                          clear hi460_0 hl460_0
                                                          replace p460 := eq_true p460
                                                          replace q460 := eq_true q460
                                                          have p461 : 0 ≤ (x11_6 : Int) := of_decide_eq_true (by first | (with_reducible assumption) | assumption)
                                                          have q461 : x11_6 < ((rd_L1 l0_0 (rd (rd_L1 t447 x8_3) x9_4)).length : Int) := of_decide_eq_true (by first | (with_reducible assumption) | assumption)
                                                          obtain ⟨ad461, e461, hx461_0⟩ := Kd.at_int HR460_0.out x11_6 p461 q461
                                                          have hw461_0 := hx461_0
                                                          cases e461
                                                          replace hx461_0 := (HB.out.cell (World.block_lt_of_cell? w _ hx461_0)).trans hx461_0
                                                          replace p461 := eq_true p461
                                                          replace q461 := eq_true q461
                                                          refine start_ (n := 14) (S := fun w' => w'.cell? ⟨gb443, 0, none⟩ = some (.slice (some ad460) l0_0.length c0_0) ∧ w'.cell? (ad452.add (x8_3).toNat) = some (.slice A459_0 (rd_L1 t447 x8_3).length c459_0) ∧ w'.cell? (ad460.add ((rd (rd_L1 t447 x8_3) x9_4)).toNat) = some (.slice (some ad461) (rd_L1 l0_0 (rd (rd_L1 t447 x8_3) x9_4)).length c460_0) ∧ w'.cell? (ad461.add (x11_6).toNat) = some (.int .i64 (rd (rd_L1 l0_0 (rd (rd_L1 t447 x8_3) x9_4)) x11_6))) (ds := []) #[false, false, false, false, false, false, false, false, false, false, false, false, false, false] (by kernel_rfl) rfl rfl ⟨(blk_cell BK443.out 0).trans rfl, hx459_0, ((HB.out.cell (World.block_lt_of_cell? w _ hw460_0)).trans hw460_0), ((HB.out.cell (World.block_lt_of_cell? w _ hw461_0)).trans hw461_0)⟩ (fun hHeld => ?_); refine with_tabW mizmazelaw02_NetEnds.tab19 mizmazelaw02_NetEnds.bits19 (fun HT_ HW_ => ?_)
                                                          generalize w55.drew = w56 at HO_5 BK443 HR452_0 HR453_0 HB HL459_0 HR459_0 HR460_0 hx459_0 hx460_0 hx461_0 hHeld ⊢
                                                          refine pure_ (i := 0) (N := some 84) (v := ?_) (a' := ?_) #[true, false, false, false, false, false, false, false, false, false, false, false, false, false] rfl rfl (any_of HT_.out (by kernel_rfl)) (fun _ _ _ h => h) (Or.inl ⟨by rfl, ?_⟩) ?_ ?_
                                                          rotate_left
                                                          · intro w'
                                                            go_simp
                                                            with_reducible rfl
                                                          rotate_left
                                                          · simp only [Act.put, List.setIfInBounds_toArray, List.set_cons_zero, List.set_cons_succ, i64_w, i32_w]
                                                            rfl
                                                          refine pure_ (i := 1) (N := some 85) (v := ?_) (a' := ?_) #[true, true, false, false, false, false, false, false, false, false, false, false, false, false] rfl rfl (any_of HT_.out (by kernel_rfl)) (fun _ _ _ h => h) (Or.inl ⟨by rfl, ?_⟩) ?_ ?_
                                                          rotate_left
                                                          · intro w'
                                                            go_simp
                                                            with_reducible rfl
                                                          rotate_left
                                                          · simp only [Act.put, List.setIfInBounds_toArray, List.set_cons_zero, List.set_cons_succ, i64_w, i32_w]
                                                            rfl
                                                          refine pure_ (i := 2) (N := some 86) (v := ?_) (a' := ?_) #[true, true, true, false, false, false, false, false, false, false, false, false, false, false] rfl rfl (any_of HT_.out (by kernel_rfl)) (fun _ _ _ h => h) (Or.inl ⟨by rfl, ?_⟩) ?_ ?_
                                                          rotate_left
                                                          · intro w'
                                                            go_simp
                                                            with_reducible rfl
                                                          rotate_left
                                                          · simp only [Act.put, List.setIfInBounds_toArray, List.set_cons_zero, List.set_cons_succ, i64_w, i32_w]
                                                            rfl
                                                          refine pure_ (i := 4) (N := some 88) (v := ?_) (a' := ?_) #[true, true, true, false, true, false, false, false, false, false, false, false, false, false] rfl rfl (any_of HT_.out (by kernel_rfl)) (fun _ _ _ h => h) (Or.inl ⟨by rfl, ?_⟩) ?_ ?_
                                                          rotate_left
                                                          · intro w'
                                                            go_simp
                                                            with_reducible rfl
                                                          rotate_left
                                                          · simp only [Act.put, List.setIfInBounds_toArray, List.set_cons_zero, List.set_cons_succ, i64_w, i32_w]
                                                            rfl
                                                          refine pure_ (i := 6) (N := some 90) (v := ?_) (a' := ?_) #[true, true, true, false, true, false, true, false, false, false, false, false, false, false] rfl rfl (any_of HT_.out (by kernel_rfl)) (fun _ _ _ h => h) (Or.inl ⟨by rfl, ?_⟩) ?_ ?_
                                                          rotate_left
                                                          · intro w'
                                                            go_simp
                                                            with_reducible rfl
                                                          rotate_left
                                                          · simp only [Act.put, List.setIfInBounds_toArray, List.set_cons_zero, List.set_cons_succ, i64_w, i32_w]
                                                            rfl
                                                          refine pure_ (i := 9) (N := some 93) (v := ?_) (a' := ?_) #[true, true, true, false, true, false, true, false, false, true, false, false, false, false] rfl rfl (any_of HT_.out (by kernel_rfl)) (fun _ _ _ h => h) (Or.inl ⟨by rfl, ?_⟩) ?_ ?_
                                                          rotate_left
                                                          · intro w'
                                                            go_simp
                                                            with_reducible rfl
                                                          rotate_left
                                                          · simp only [Act.put, List.setIfInBounds_toArray, List.set_cons_zero, List.set_cons_succ, i64_w, i32_w]
                                                            rfl
                                                          refine take_ (i := 3) (N := some 87) (v := ?_) (a' := ?_) #[true, true, true, true, true, false, true, false, false, true, false, false, false, false] rfl rfl (take_ofW HT_.out HW_.out (by kernel_rfl)) (fun _ _ _ h => h) (Or.inl ⟨by rfl, ?_⟩) hHeld ?_ ?_
                                                          rotate_left
                                                          · rintro w' ⟨s0, s1, s2, s3⟩
                                                            go_simp
                                                            with_reducible rfl
                                                          rotate_left
                                                          · simp only [Act.put, List.setIfInBounds_toArray, List.set_cons_zero, List.set_cons_succ, i64_w, i32_w]
                                                            rfl
                                                          refine take_ (i := 5) (N := some 89) (v := ?_) (a' := ?_) #[true, true, true, true, true, true, true, false, false, true, false, false, false, false] rfl rfl (take_ofW HT_.out HW_.out (by kernel_rfl)) (fun _ _ _ h => h) (Or.inl ⟨by rfl, ?_⟩) hHeld ?_ ?_
                                                          rotate_left
                                                          · rintro w' ⟨s0, s1, s2, s3⟩
                                                            go_simp
                                                            with_reducible rfl
                                                          rotate_left
                                                          · simp only [Act.put, List.setIfInBounds_toArray, List.set_cons_zero, List.set_cons_succ, i64_w, i32_w]
                                                            rfl
                                                          refine pure_ (i := 7) (N := some 91) (v := ?_) (a' := ?_) #[true, true, true, true, true, true, true, true, false, true, false, false, false, false] rfl rfl (any_of HT_.out (by kernel_rfl)) (fun _ _ _ h => h) (Or.inl ⟨by rfl, ?_⟩) ?_ ?_
                                                          rotate_left
                                                          · intro w'
                                                            go_simp
                                                            with_reducible rfl
                                                          rotate_left
                                                          · simp only [Act.put, List.setIfInBounds_toArray, List.set_cons_zero, List.set_cons_succ, i64_w, i32_w]
                                                            rfl
                                                          refine take_ (i := 8) (N := some 92) (v := ?_) (a' := ?_) #[true, true, true, true, true, true, true, true, true, true, false, false, false, false] rfl rfl (take_ofW HT_.out HW_.out (by kernel_rfl)) (fun _ _ _ h => h) (Or.inl ⟨by rfl, ?_⟩) hHeld ?_ ?_
                                                          rotate_left
                                                          · rintro w' ⟨s0, s1, s2, s3⟩
                                                            go_simp
                                                            with_reducible rfl
                                                          rotate_left
                                                          · simp only [Act.put, List.setIfInBounds_toArray, List.set_cons_zero, List.set_cons_succ, i64_w, i32_w]
                                                            rfl
                                                          refine pure_ (i := 10) (N := some 94) (v := ?_) (a' := ?_) #[true, true, true, true, true, true, true, true, true, true, true, false, false, false] rfl rfl (any_of HT_.out (by kernel_rfl)) (fun _ _ _ h => h) (Or.inl ⟨by rfl, ?_⟩) ?_ ?_
                                                          rotate_left
                                                          · intro w'
                                                            go_simp
                                                            with_reducible rfl
                                                          rotate_left
                                                          · simp only [Act.put, List.setIfInBounds_toArray, List.set_cons_zero, List.set_cons_succ, i64_w, i32_w]
                                                            rfl
                                                          refine take_ (i := 11) (N := some 95) (v := ?_) (a' := ?_) #[true, true, true, true, true, true, true, true, true, true, true, true, false, false] rfl rfl (take_ofW HT_.out HW_.out (by kernel_rfl)) (fun _ _ _ h => h) (Or.inl ⟨by rfl, ?_⟩) hHeld ?_ ?_
                                                          rotate_left
                                                          · rintro w' ⟨s0, s1, s2, s3⟩
                                                            go_simp
                                                            with_reducible rfl
                                                          rotate_left
                                                          · simp only [Act.put, List.setIfInBounds_toArray, List.set_cons_zero, List.set_cons_succ, i64_w, i32_w]
                                                            rfl
                                                          refine one_ (i := 12) (N := some 96) #[true, true, true, true, true, true, true, true, true, true, true, true, true, false] rfl rfl (one_of HT_.out (by kernel_rfl)) (by decide) (fun K hK => ?_)
                                                          refine goes_ Try.func36 (by kernel_rfl) rfl #[.slice A459_0 (rd_L1 t447 x8_3).length c459_0, .int .i64 (rd (rd_L1 l0_0 (rd (rd_L1 t447 x8_3) x9_4)) x11_6)] (by rfl) rfl rfl (by (try simp only [List.map_toArray, List.map_cons, List.map_nil]); first | done | rfl | (simp only [List.length_drop, List.length_take]; rfl)) ?_
                                                          with_reducible refine (mizmazeref01_Has.calls k6 _ _ (rd_L1 t447 x8_3) (rd (rd_L1 l0_0 (rd (rd_L1 t447 x8_3) x9_4)) x11_6) false _ ?side1 ?side2 A49.out).mono ?_
                                                          (case side1 => repeat (first | exact (by repeat (first | (with_reducible exact HR459_0.out) | (with_reducible refine Kd.C_alloc ?_ _) | (with_reducible refine Kd.C_drewN ?_ _) | (with_reducible refine Kd.C_drew ?_) | exact HR459_0.out)) | (with_reducible refine Kd.C_alloc ?_ _) | (with_reducible refine Kd.C_drewN ?_ _) | (with_reducible refine Kd.C_drew ?_)))
                                                          (case side2 => exact HC459_0.out)
                                                          rintro e w' ⟨rfl, ⟨nd, rfl⟩⟩
                                                          refine ⟨_, rfl, ?_⟩
                                                          refine hK.out _ _ ⟨(blk_cell BK443.out 0).trans rfl, hHeld.2.1, ((HB.out.cell (World.block_lt_of_cell? w _ hw460_0)).trans hw460_0), ((HB.out.cell (World.block_lt_of_cell? w _ hw461_0)).trans hw461_0)⟩ (fun hHeld => ?_)
                                                          clear hK K
                                                          refine norm_ (a' := ?_) ?_ ?_
                                                          rotate_left
                                                          · show Act.put _ (some 96) _ = _
                                                            simp only [Act.put, List.setIfInBounds_toArray, List.set_cons_zero, List.set_cons_succ, i64_w, i32_w]
                                                            rfl
                                                          refine pure_ (i := 13) (N := some 97) (v := ?_) (a' := ?_) #[true, true, true, true, true, true, true, true, true, true, true, true, true, true] rfl rfl (any_of HT_.out (by kernel_rfl)) (fun _ _ _ h => h) (Or.inl ⟨by rfl, ?_⟩) ?_ ?_
                                                          rotate_left
                                                          · intro w'
                                                            go_simp
                                                            with_reducible rfl
                                                          rotate_left
                                                          · simp only [Act.put, List.setIfInBounds_toArray, List.set_cons_zero, List.set_cons_succ, i64_w, i32_w]
                                                            rfl
                                                          refine done_ (done_of HT_.out (by kernel_rfl)) ?_
                                                          try go_wp2
                                                          go_ret
                                                          exact ⟨by first | rfl | (simp [errW_none, errW_some] <;> rfl) | (simp [*, errW_none, errW_some] <;> rfl), by repeat (first | (with_reducible first | exact HB.out | apply below_alloc | apply pw_below_drewN | apply below_drew1 | refine below_set ?_ GE443.out) | exact HB.out)⟩
                                                      · rw [if_neg c48] at H
                                                        exact absurd H (by simp)
                                                    · rw [if_neg c47] at H
                                                      exact absurd H (by simp)
                                                  · rw [if_neg c46] at H
                                                    exact absurd H (by simp)
                                                · rw [if_neg c45] at H
                                                  exact absurd H (by simp)
                                              · rw [if_neg c44] at H
                                                exact absurd H (by simp)
                                            · rw [if_neg c43] at H
                                              exact absurd H (by simp)
                                          · rw [if_neg c42] at H
                                            have c42b0 : decide (x11_6 < t458) = false := decide_eq_false c42
                                            clear c42
                                            replace H := Option.bind_eq_some_iff.mp H
                                            obtain ⟨⟨t463, t466⟩, A570, H⟩ := H
                                            replace H : (if t466 = 0 then ((auto_Run.f k6 l0_0 a1 t463).bind fun bt467 => (if bt467.2 = 0 then (if bt467.1 = (rd (rd_L1 t447 x8_3) x9_4) then (mizmazelaw02_NetEnds.j6 k6 a1 t447 x7_4 x8_3 x9_4 (rd (rd_L1 t447 x8_3) x9_4) t466 l0_0) else (some false)) else (some false))) else (mizmazelaw02_NetEnds.j6 k6 a1 t447 x7_4 x8_3 x9_4 (rd (rd_L1 t447 x8_3) x9_4) t466 l0_0)) = some r := H
                                            have A57 := Aside0.mk A570
                                            clear A570
                                            have HC58 := Aside0.mk H
                                            clear H
                                            have hcz59_0 : wr.cell? ⟨gb443, 0, none⟩ = some (.slice A0_0 l0_0.length c0_0) := (blk_cell BK443.out 0).trans rfl
                                            have hfz59_0 := blk_frozen BK443.out 0
                                            go_upto_if 106 with (first | ((with_reducible refine gate_callee (f := 38) rfl ?_); refine goesL_ (some 80) rfl rfl Try.func38 (by kernel_rfl) rfl #[.agg #[.slice A0_0 l0_0.length c0_0]] rfl (by (try simp only [List.map_toArray, List.map_cons, List.map_nil]); first | done | rfl | (simp only [List.length_drop, List.length_take]; rfl)) ?_; (with_reducible refine (mizmazeref01_Letters.calls _ _ l0_0 t458 _ ?side1 ?side2 A41.out).mono ?_); (case side1 => repeat (first | exact (Kd.C_below HR0_0.out HB.out) | (with_reducible refine Kd.C_alloc ?_ _) | (with_reducible refine Kd.C_drewN ?_ _) | (with_reducible refine Kd.C_drew ?_))); (case side2 => exact HC0_0.out); rintro e w60 ⟨rfl, hb⟩; refine ⟨_, rfl, ?_⟩; have n0_ := Aside0.mk (Kd.S_below (by (with_reducible repeat (first | apply Kd.S_alloc | apply Kd.S_drewN | apply Kd.S_drew)); exact HO_5.out) hb); have n1_ := Aside0.mk (blk_below (g := gb443) (o := .cells #[.slice A0_0 l0_0.length c0_0] 24 (0, 0)) (by (with_reducible repeat (first | refine blk_drewN ?_ _ | refine blk_drew ?_ | refine blk_alloc ?_ _)); exact BK443.out) hb); have n2_ := Aside0.mk (Kd.C_below (by repeat (first | (with_reducible exact HR452_0.out) | (with_reducible refine Kd.C_alloc ?_ _) | (with_reducible refine Kd.C_drewN ?_ _) | (with_reducible refine Kd.C_drew ?_) | exact HR452_0.out)) hb); have n3_ := Aside0.mk (Kd.C_below (by repeat (first | (with_reducible exact HR453_0.out) | (with_reducible refine Kd.C_alloc ?_ _) | (with_reducible refine Kd.C_drewN ?_ _) | (with_reducible refine Kd.C_drew ?_) | exact HR453_0.out)) hb); have n4_ := Aside0.mk (below_step (by repeat (first | (with_reducible first | exact HB.out | apply below_alloc | apply pw_below_drewN | apply below_drew1 | refine below_set ?_ GE443.out) | exact HB.out)) hb); clear HO_5; clear BK443; clear HR452_0; clear HR453_0; clear HB; have HO_5 := n0_; have BK443 := n1_; have HR452_0 := n2_; have HR453_0 := n3_; have HB := n4_; clear n0_ n1_ n2_ n3_ n4_; (try clear hb); (try clear hb2); (try clear hk); (try clear hi); have hcz61_0 : w60.cell? ⟨gb443, 0, none⟩ = some (.slice A0_0 l0_0.length c0_0) := (blk_cell BK443.out 0).trans rfl; have hfz61_0 := blk_frozen BK443.out 0) | ((with_reducible refine gate_callee (f := 17) rfl ?_); refine goesL_ (some 102) rfl rfl Try.func17 (by kernel_rfl) rfl #[.agg #[.slice A0_0 l0_0.length c0_0], .int .i64 a1, .int .i64 (rd (rd_L1 t447 x8_3) x9_4)] rfl (by (try simp only [List.map_toArray, List.map_cons, List.map_nil]); first | done | rfl | (simp only [List.length_drop, List.length_take]; rfl)) ?_; (with_reducible refine (net_Path.calls k6 _ _ l0_0 a1 (rd (rd_L1 t447 x8_3) x9_4) t463 t466 _ ?side1 ?side2 A57.out).mono ?_); (case side1 => repeat (first | exact (Kd.C_below HR0_0.out HB.out) | (with_reducible refine Kd.C_alloc ?_ _) | (with_reducible refine Kd.C_drewN ?_ _) | (with_reducible refine Kd.C_drew ?_))); (case side2 => exact HC0_0.out); rintro e w62 ⟨v464, rfl, ho0, hb⟩; refine ⟨_, rfl, ?_⟩; have n0_ := Aside0.mk (Kd.S_elder' (by (with_reducible repeat (first | apply Kd.S_alloc | apply Kd.S_drewN | apply Kd.S_drew)); exact HO_5.out) (Kd.R_base ho0) hb); have n1_ := Aside0.mk (Kd.R_lower ho0 (below_size (by repeat (first | (with_reducible first | exact HB.out | apply below_alloc | apply pw_below_drewN | apply below_drew1 | refine below_set ?_ GE443.out) | exact HB.out)))); have n2_ := Aside0.mk (blk_below (g := gb443) (o := .cells #[.slice A0_0 l0_0.length c0_0] 24 (0, 0)) (by (with_reducible repeat (first | refine blk_drewN ?_ _ | refine blk_drew ?_ | refine blk_alloc ?_ _)); exact BK443.out) hb); have n3_ := Aside0.mk (Kd.C_below (by repeat (first | (with_reducible exact HR452_0.out) | (with_reducible refine Kd.C_alloc ?_ _) | (with_reducible refine Kd.C_drewN ?_ _) | (with_reducible refine Kd.C_drew ?_) | exact HR452_0.out)) hb); have n4_ := Aside0.mk (Kd.C_below (by repeat (first | (with_reducible exact HR453_0.out) | (with_reducible refine Kd.C_alloc ?_ _) | (with_reducible refine Kd.C_drewN ?_ _) | (with_reducible refine Kd.C_drew ?_) | exact HR453_0.out)) hb); have n5_ := Aside0.mk (below_step (by repeat (first | (with_reducible first | exact HB.out | apply below_alloc | apply pw_below_drewN | apply below_drew1 | refine below_set ?_ GE443.out) | exact HB.out)) hb); clear HO_5; clear BK443; clear HR452_0; clear HR453_0; clear HB; have HO_5 := n0_; have HO465 := n1_; have BK443 := n2_; have HR452_0 := n3_; have HR453_0 := n4_; have HB := n5_; clear n0_ n1_ n2_ n3_ n4_ n5_; (try clear hb); (try clear hb2); (try clear hk); (try clear hi); (try clear ho0)))
                                            (try simp only [Act.put, List.setIfInBounds_toArray, List.set_cons_zero, List.set_cons_succ])
                                            go_cut [] (fun wc => ∃ (kq : Nat), Aside0 (mizmazelaw02_NetEnds.j6 kq a1 t447 x7_4 x8_3 x9_4 (rd (rd_L1 t447 x8_3) x9_4) t466 l0_0 = some r) ∧ Aside0 (kq ≤ k6) ∧ Aside0 (Kd.S (Kd.slice 3 (Kd.int .i64)) 28 wc w.heap.size (fun _ => True) (.slice (some ad452) t447.length co25) t447) ∧ Aside0 (wc.heap[gb443]? = some (.cells #[(.slice A0_0 l0_0.length c0_0)] 24 (0, 0))) ∧ Aside0 (Kd.C (Kd.int .i64) wc (some ad454) (rd_L1 t447 x8_3).length (rd_L1 t447 x8_3)) ∧ Aside0 (Kd.C (Kd.int .i64) wc (some ad454) (rd_L1 t447 x8_3).length (rd_L1 t447 x8_3)) ∧ Aside0 (Below w.heap.size w wc))
                                            case first =>
                                              have H := HC58.out
                                              clear HC58
                                              by_cases c63 : t466 = 0
                                              · rw [if_pos c63] at H
                                                have c63b0 : (t466 == 0) = true := beq_iff_eq.mpr c63
                                                have c63b1 : (t466 != 0) = false := bne_eq_false_iff_eq.mpr c63
                                                clear c63
                                                (first | rw [c63b0] | (simp only [i64_w, i32_w]; rw [c63b0]) | skip)
                                                replace H := Option.bind_eq_some_iff.mp H
                                                obtain ⟨⟨t467, t468⟩, A640, H⟩ := H
                                                replace H : (if t468 = 0 then (if t467 = (rd (rd_L1 t447 x8_3) x9_4) then (mizmazelaw02_NetEnds.j6 k6 a1 t447 x7_4 x8_3 x9_4 (rd (rd_L1 t447 x8_3) x9_4) t466 l0_0) else (some false)) else (some false)) = some r := H
                                                have A64 := Aside0.mk A640
                                                clear A640
                                                by_cases c65 : t468 = 0
                                                · rw [if_pos c65] at H
                                                  have c65b0 : (t468 == 0) = true := beq_iff_eq.mpr c65
                                                  have c65b1 : (t468 != 0) = false := bne_eq_false_iff_eq.mpr c65
                                                  clear c65
                                                  by_cases c66 : t467 = (rd (rd_L1 t447 x8_3) x9_4)
                                                  · rw [if_pos c66] at H
                                                    have c66b0 : (t467 == (rd (rd_L1 t447 x8_3) x9_4)) = true := beq_iff_eq.mpr c66
                                                    have c66b1 : (t467 != (rd (rd_L1 t447 x8_3) x9_4)) = false := bne_eq_false_iff_eq.mpr c66
                                                    clear c66
                                                    have H' := Aside0.mk H
                                                    clear H
                                                    have hcz67_0 : w62.cell? ⟨gb443, 0, none⟩ = some (.slice A0_0 l0_0.length c0_0) := (blk_cell BK443.out 0).trans rfl
                                                    have hfz67_0 := blk_frozen BK443.out 0
                                                    obtain ⟨Ao68, co68, eo68⟩ := Kd.R_slice HO465.out
                                                    subst eo68
                                                    go_wp2_with (first | ((with_reducible refine gate_callee (f := 35) rfl ?_); refine goesL_ (some 111) rfl rfl Try.func35 (by kernel_rfl) rfl #[.agg #[.slice A0_0 l0_0.length c0_0], .int .i64 a1, .slice Ao68 t463.length co68] rfl (by (try simp only [List.map_toArray, List.map_cons, List.map_nil]); first | done | rfl | (simp only [List.length_drop, List.length_take]; rfl)) ?_; (with_reducible refine (auto_Run.calls k6 _ _ l0_0 a1 _ _ t463 t467 t468 _ ?side1 ?side2 ?side3 ?side4 A64.out).mono ?_); (case side1 => repeat (first | exact (Kd.C_below HR0_0.out HB.out) | (with_reducible refine Kd.C_alloc ?_ _) | (with_reducible refine Kd.C_drewN ?_ _) | (with_reducible refine Kd.C_drew ?_))); (case side2 => exact HC0_0.out); (case side3 => repeat (first | exact (Kd.R_reads' HO465.out).2.2 | (with_reducible refine Kd.C_alloc ?_ _) | (with_reducible refine Kd.C_drewN ?_ _) | (with_reducible refine Kd.C_drew ?_))); (case side4 => exact (Kd.R_reads' HO465.out).2.1); rintro e w69 ⟨rfl, hb⟩; refine ⟨_, rfl, ?_⟩; have n0_ := Aside0.mk (Kd.S_below (by (with_reducible repeat (first | apply Kd.S_alloc | apply Kd.S_drewN | apply Kd.S_drew)); exact HO_5.out) hb); have n1_ := Aside0.mk (Kd.R_below (by (with_reducible repeat (first | apply Kd.R_alloc | apply Kd.R_drewN | apply Kd.R_drew)); exact HO465.out) hb); have n2_ := Aside0.mk (blk_below (g := gb443) (o := .cells #[.slice A0_0 l0_0.length c0_0] 24 (0, 0)) (by (with_reducible repeat (first | refine blk_drewN ?_ _ | refine blk_drew ?_ | refine blk_alloc ?_ _)); exact BK443.out) hb); have n3_ := Aside0.mk (Kd.C_below (by repeat (first | (with_reducible exact HR452_0.out) | (with_reducible refine Kd.C_alloc ?_ _) | (with_reducible refine Kd.C_drewN ?_ _) | (with_reducible refine Kd.C_drew ?_) | exact HR452_0.out)) hb); have n4_ := Aside0.mk (Kd.C_below (by repeat (first | (with_reducible exact HR453_0.out) | (with_reducible refine Kd.C_alloc ?_ _) | (with_reducible refine Kd.C_drewN ?_ _) | (with_reducible refine Kd.C_drew ?_) | exact HR453_0.out)) hb); have n5_ := Aside0.mk (below_step (by repeat (first | (with_reducible first | exact HB.out | apply below_alloc | apply pw_below_drewN | apply below_drew1 | refine below_set ?_ GE443.out) | exact HB.out)) hb); clear HO_5; clear HO465; clear BK443; clear HR452_0; clear HR453_0; clear HB; have HO_5 := n0_; have HO465 := n1_; have BK443 := n2_; have HR452_0 := n3_; have HR453_0 := n4_; have HB := n5_; clear n0_ n1_ n2_ n3_ n4_ n5_; (try clear hb); (try clear hb2); (try clear hk); (try clear hi)))
                                                    go_meet
                                                    case rel => exact ⟨_, H', ⟨by have := HJ2.out; have := HJ17.out; have := HK3.out; have := HK4.out; have := HJ29.out; have := HK6.out; first | omega | exact Nat.le_refl _⟩, ⟨by (with_reducible repeat (first | apply Kd.S_alloc | apply Kd.S_drewN | apply Kd.S_drew)); exact Kd.S_mono HO_5.out (fun _ hk => trivial)⟩, ⟨by (with_reducible repeat (first | refine blk_drewN ?_ _ | refine blk_drew ?_ | refine blk_alloc ?_ _)); exact BK443.out⟩, ⟨by repeat (first | (with_reducible exact HR452_0.out) | (with_reducible refine Kd.C_alloc ?_ _) | (with_reducible refine Kd.C_drewN ?_ _) | (with_reducible refine Kd.C_drew ?_) | exact HR452_0.out)⟩, ⟨by repeat (first | (with_reducible exact HR453_0.out) | (with_reducible refine Kd.C_alloc ?_ _) | (with_reducible refine Kd.C_drewN ?_ _) | (with_reducible refine Kd.C_drew ?_) | exact HR453_0.out)⟩, ⟨by repeat (first | (with_reducible first | exact HB.out | apply below_alloc | apply pw_below_drewN | apply below_drew1 | refine below_set ?_ GE443.out) | exact HB.out)⟩⟩
                                                  · rw [if_neg c66] at H
                                                    have c66b0 : (t467 == (rd (rd_L1 t447 x8_3) x9_4)) = false := beq_eq_false_iff_ne.mpr c66
                                                    have c66b1 : (t467 != (rd (rd_L1 t447 x8_3) x9_4)) = true := bne_iff_ne.mpr c66
                                                    obtain rfl := Option.some.inj H
                                                    have hcz70_0 : w62.cell? ⟨gb443, 0, none⟩ = some (.slice A0_0 l0_0.length c0_0) := (blk_cell BK443.out 0).trans rfl
                                                    have hfz70_0 := blk_frozen BK443.out 0
                                                    obtain ⟨Ao71, co71, eo71⟩ := Kd.R_slice HO465.out
                                                    subst eo71
                                                    go_wp2_with (first | ((with_reducible refine gate_callee (f := 35) rfl ?_); refine goesL_ (some 111) rfl rfl Try.func35 (by kernel_rfl) rfl #[.agg #[.slice A0_0 l0_0.length c0_0], .int .i64 a1, .slice Ao71 t463.length co71] rfl (by (try simp only [List.map_toArray, List.map_cons, List.map_nil]); first | done | rfl | (simp only [List.length_drop, List.length_take]; rfl)) ?_; (with_reducible refine (auto_Run.calls k6 _ _ l0_0 a1 _ _ t463 t467 t468 _ ?side1 ?side2 ?side3 ?side4 A64.out).mono ?_); (case side1 => repeat (first | exact (Kd.C_below HR0_0.out HB.out) | (with_reducible refine Kd.C_alloc ?_ _) | (with_reducible refine Kd.C_drewN ?_ _) | (with_reducible refine Kd.C_drew ?_))); (case side2 => exact HC0_0.out); (case side3 => repeat (first | exact (Kd.R_reads' HO465.out).2.2 | (with_reducible refine Kd.C_alloc ?_ _) | (with_reducible refine Kd.C_drewN ?_ _) | (with_reducible refine Kd.C_drew ?_))); (case side4 => exact (Kd.R_reads' HO465.out).2.1); rintro e w72 ⟨rfl, hb⟩; refine ⟨_, rfl, ?_⟩; have n0_ := Aside0.mk (Kd.S_below (by (with_reducible repeat (first | apply Kd.S_alloc | apply Kd.S_drewN | apply Kd.S_drew)); exact HO_5.out) hb); have n1_ := Aside0.mk (Kd.R_below (by (with_reducible repeat (first | apply Kd.R_alloc | apply Kd.R_drewN | apply Kd.R_drew)); exact HO465.out) hb); have n2_ := Aside0.mk (blk_below (g := gb443) (o := .cells #[.slice A0_0 l0_0.length c0_0] 24 (0, 0)) (by (with_reducible repeat (first | refine blk_drewN ?_ _ | refine blk_drew ?_ | refine blk_alloc ?_ _)); exact BK443.out) hb); have n3_ := Aside0.mk (Kd.C_below (by repeat (first | (with_reducible exact HR452_0.out) | (with_reducible refine Kd.C_alloc ?_ _) | (with_reducible refine Kd.C_drewN ?_ _) | (with_reducible refine Kd.C_drew ?_) | exact HR452_0.out)) hb); have n4_ := Aside0.mk (Kd.C_below (by repeat (first | (with_reducible exact HR453_0.out) | (with_reducible refine Kd.C_alloc ?_ _) | (with_reducible refine Kd.C_drewN ?_ _) | (with_reducible refine Kd.C_drew ?_) | exact HR453_0.out)) hb); have n5_ := Aside0.mk (below_step (by repeat (first | (with_reducible first | exact HB.out | apply below_alloc | apply pw_below_drewN | apply below_drew1 | refine below_set ?_ GE443.out) | exact HB.out)) hb); clear HO_5; clear HO465; clear BK443; clear HR452_0; clear HR453_0; clear HB; have HO_5 := n0_; have HO465 := n1_; have BK443 := n2_; have HR452_0 := n3_; have HR453_0 := n4_; have HB := n5_; clear n0_ n1_ n2_ n3_ n4_ n5_; (try clear hb); (try clear hb2); (try clear hk); (try clear hi)))
                                                    go_ret
                                                    exact ⟨by first | rfl | (simp [errW_none, errW_some] <;> rfl) | (simp [*, errW_none, errW_some] <;> rfl), by repeat (first | (with_reducible first | exact HB.out | apply below_alloc | apply pw_below_drewN | apply below_drew1 | refine below_set ?_ GE443.out) | exact HB.out)⟩
                                                · rw [if_neg c65] at H
                                                  have c65b0 : (t468 == 0) = false := beq_eq_false_iff_ne.mpr c65
                                                  have c65b1 : (t468 != 0) = true := bne_iff_ne.mpr c65
                                                  obtain rfl := Option.some.inj H
                                                  have hcz73_0 : w62.cell? ⟨gb443, 0, none⟩ = some (.slice A0_0 l0_0.length c0_0) := (blk_cell BK443.out 0).trans rfl
                                                  have hfz73_0 := blk_frozen BK443.out 0
                                                  obtain ⟨Ao74, co74, eo74⟩ := Kd.R_slice HO465.out
                                                  subst eo74
                                                  go_wp2_with (first | ((with_reducible refine gate_callee (f := 35) rfl ?_); refine goesL_ (some 111) rfl rfl Try.func35 (by kernel_rfl) rfl #[.agg #[.slice A0_0 l0_0.length c0_0], .int .i64 a1, .slice Ao74 t463.length co74] rfl (by (try simp only [List.map_toArray, List.map_cons, List.map_nil]); first | done | rfl | (simp only [List.length_drop, List.length_take]; rfl)) ?_; (with_reducible refine (auto_Run.calls k6 _ _ l0_0 a1 _ _ t463 t467 t468 _ ?side1 ?side2 ?side3 ?side4 A64.out).mono ?_); (case side1 => repeat (first | exact (Kd.C_below HR0_0.out HB.out) | (with_reducible refine Kd.C_alloc ?_ _) | (with_reducible refine Kd.C_drewN ?_ _) | (with_reducible refine Kd.C_drew ?_))); (case side2 => exact HC0_0.out); (case side3 => repeat (first | exact (Kd.R_reads' HO465.out).2.2 | (with_reducible refine Kd.C_alloc ?_ _) | (with_reducible refine Kd.C_drewN ?_ _) | (with_reducible refine Kd.C_drew ?_))); (case side4 => exact (Kd.R_reads' HO465.out).2.1); rintro e w75 ⟨rfl, hb⟩; refine ⟨_, rfl, ?_⟩; have n0_ := Aside0.mk (Kd.S_below (by (with_reducible repeat (first | apply Kd.S_alloc | apply Kd.S_drewN | apply Kd.S_drew)); exact HO_5.out) hb); have n1_ := Aside0.mk (Kd.R_below (by (with_reducible repeat (first | apply Kd.R_alloc | apply Kd.R_drewN | apply Kd.R_drew)); exact HO465.out) hb); have n2_ := Aside0.mk (blk_below (g := gb443) (o := .cells #[.slice A0_0 l0_0.length c0_0] 24 (0, 0)) (by (with_reducible repeat (first | refine blk_drewN ?_ _ | refine blk_drew ?_ | refine blk_alloc ?_ _)); exact BK443.out) hb); have n3_ := Aside0.mk (Kd.C_below (by repeat (first | (with_reducible exact HR452_0.out) | (with_reducible refine Kd.C_alloc ?_ _) | (with_reducible refine Kd.C_drewN ?_ _) | (with_reducible refine Kd.C_drew ?_) | exact HR452_0.out)) hb); have n4_ := Aside0.mk (Kd.C_below (by repeat (first | (with_reducible exact HR453_0.out) | (with_reducible refine Kd.C_alloc ?_ _) | (with_reducible refine Kd.C_drewN ?_ _) | (with_reducible refine Kd.C_drew ?_) | exact HR453_0.out)) hb); have n5_ := Aside0.mk (below_step (by repeat (first | (with_reducible first | exact HB.out | apply below_alloc | apply pw_below_drewN | apply below_drew1 | refine below_set ?_ GE443.out) | exact HB.out)) hb); clear HO_5; clear HO465; clear BK443; clear HR452_0; clear HR453_0; clear HB; have HO_5 := n0_; have HO465 := n1_; have BK443 := n2_; have HR452_0 := n3_; have HR453_0 := n4_; have HB := n5_; clear n0_ n1_ n2_ n3_ n4_ n5_; (try clear hb); (try clear hb2); (try clear hk); (try clear hi)))
                                                  go_ret
                                                  exact ⟨by first | rfl | (simp [errW_none, errW_some] <;> rfl) | (simp [*, errW_none, errW_some] <;> rfl), by repeat (first | (with_reducible first | exact HB.out | apply below_alloc | apply pw_below_drewN | apply below_drew1 | refine below_set ?_ GE443.out) | exact HB.out)⟩
                                              · rw [if_neg c63] at H
                                                have c63b0 : (t466 == 0) = false := beq_eq_false_iff_ne.mpr c63
                                                have c63b1 : (t466 != 0) = true := bne_iff_ne.mpr c63
                                                (first | rw [c63b0] | (simp only [i64_w, i32_w]; rw [c63b0]) | skip)
                                                have H' := Aside0.mk H
                                                clear H
                                                go_wp2
                                                go_meet
                                                case rel => exact ⟨_, H', ⟨by have := HJ2.out; have := HJ17.out; have := HK3.out; have := HK4.out; have := HJ29.out; have := HK6.out; first | omega | exact Nat.le_refl _⟩, ⟨by (with_reducible repeat (first | apply Kd.S_alloc | apply Kd.S_drewN | apply Kd.S_drew)); exact Kd.S_mono HO_5.out (fun _ hk => trivial)⟩, ⟨by (with_reducible repeat (first | refine blk_drewN ?_ _ | refine blk_drew ?_ | refine blk_alloc ?_ _)); exact BK443.out⟩, ⟨by repeat (first | (with_reducible exact HR452_0.out) | (with_reducible refine Kd.C_alloc ?_ _) | (with_reducible refine Kd.C_drewN ?_ _) | (with_reducible refine Kd.C_drew ?_) | exact HR452_0.out)⟩, ⟨by repeat (first | (with_reducible exact HR453_0.out) | (with_reducible refine Kd.C_alloc ?_ _) | (with_reducible refine Kd.C_drewN ?_ _) | (with_reducible refine Kd.C_drew ?_) | exact HR453_0.out)⟩, ⟨by repeat (first | (with_reducible first | exact HB.out | apply below_alloc | apply pw_below_drewN | apply below_drew1 | refine below_set ?_ GE443.out) | exact HB.out)⟩⟩
                                            case rest =>
                                              clear HC58
                                              try clear c1
                                              try clear c2
                                              try clear p2
                                              try clear c3
                                              try clear c4
                                              try clear p4
                                              try clear q4
                                              try clear hx4
                                              try clear c5
                                              try clear c6
                                              try clear p6
                                              try clear c7
                                              try clear c14
                                              try clear c17
                                              try clear c18
                                              try clear c19
                                              try clear c21
                                              try clear c21b0
                                              try clear c21b1
                                              try clear c23
                                              try clear c24
                                              try clear c24b0
                                              try clear c26
                                              try clear c26b0
                                              try clear c27
                                              try clear c27b0
                                              try clear c28
                                              try clear c28b0
                                              try clear c29
                                              try clear c29b0
                                              try clear c32
                                              try clear c33
                                              try clear c33b0
                                              try clear c34
                                              try clear c34b0
                                              try clear c35
                                              try clear c36
                                              try clear c37
                                              try clear c38
                                              try clear c40
                                              try clear c42
                                              try clear c42b0
                                              try clear c43
                                              try clear c43b0
                                              try clear c44
                                              try clear c44b0
                                              try clear c45
                                              try clear c45b0
                                              try clear p45
                                              try clear q45
                                              try clear hx45
                                              try clear c46
                                              try clear c46b0
                                              try clear p46
                                              try clear q46
                                              try clear hx46
                                              try clear c47
                                              try clear c47b0
                                              try clear c48
                                              try clear c48b0
                                              try clear c50
                                              try clear c63
                                              try clear c63b0
                                              try clear c63b1
                                              try clear p64
                                              try clear c65
                                              try clear c65b0
                                              try clear c65b1
                                              try clear c66
                                              try clear c66b0
                                              try clear c66b1
                                              try clear hcz10_0
                                              try clear hcz12_0
                                              try clear hcz19_0
                                              try clear hcz51_0
                                              try clear hcz54_0
                                              try clear hcz59_0
                                              try clear hcz61_0
                                              try clear hcz67_0
                                              try clear hcz70_0
                                              try clear hcz73_0
                                              try clear hcz8_0
                                              try clear hfz10_0
                                              try clear hfz12_0
                                              try clear hfz19_0
                                              try clear hfz51_0
                                              try clear hfz54_0
                                              try clear hfz59_0
                                              try clear hfz61_0
                                              try clear hfz67_0
                                              try clear hfz70_0
                                              try clear hfz73_0
                                              try clear hfz8_0
                                              try clear hx452_0
                                              try clear hx453_0
                                              try clear hx454_0
                                              try clear hx456_0
                                              try clear hx459_0
                                              try clear hx460_0
                                              try clear hx461_0
                                              try clear p2
                                              try clear p4
                                              try clear p452
                                              try clear p453
                                              try clear p454
                                              try clear p456
                                              try clear p459
                                              try clear p460
                                              try clear p461
                                              try clear q4
                                              try clear q452
                                              try clear q453
                                              try clear q454
                                              try clear q456
                                              try clear q459
                                              try clear q460
                                              try clear q461
                                              obtain ⟨kq, HA, HJ57, HO_5, BK443, HR452_0, HR453_0, HB⟩ := hcut
                                              cases kq with
                                              | zero => exact absurd HA.out (by simp [mizmazelaw02_NetEnds.j6])
                                              | succ kj57 =>
                                                have H := HA.out
                                                clear HA
                                                simp only [mizmazelaw02_NetEnds.j6] at H
                                                have HC76 := Aside0.mk H
                                                clear H
                                                go_upto_region 26 with (fail)
                                                go_cut [7] (fun v7 wc => ∃ (kq : Nat) (x7_75 : Bool), v7 = .bool x7_75 ∧ Aside0 (mizmazelaw02_NetEnds.j7 kq a1 t447 x7_75 x8_3 x9_4 (rd (rd_L1 t447 x8_3) x9_4) l0_0 = some r) ∧ Aside0 (kq ≤ kj57) ∧ Aside0 (Kd.S (Kd.slice 3 (Kd.int .i64)) 28 wc w.heap.size (fun _ => True) (.slice (some ad452) t447.length co25) t447) ∧ Aside0 (wc.heap[gb443]? = some (.cells #[(.slice A0_0 l0_0.length c0_0)] 24 (0, 0))) ∧ Aside0 (Kd.C (Kd.int .i64) wc (some ad454) (rd_L1 t447 x8_3).length (rd_L1 t447 x8_3)) ∧ Aside0 (Kd.C (Kd.int .i64) wc (some ad454) (rd_L1 t447 x8_3).length (rd_L1 t447 x8_3)) ∧ Aside0 (Below w.heap.size w wc))
                                                case first =>
                                                  have H := HC76.out
                                                  clear HC76
                                                  by_cases c77 : x7_4 = true
                                                  · subst c77
                                                    have H1 : (mizmazelaw02_NetEnds.j7 kj57 a1 t447 true x8_3 x9_4 (rd (rd_L1 t447 x8_3) x9_4) l0_0) = some r := by rw [if_pos rfl] at H; exact H
                                                    clear H
                                                    have H := H1
                                                    clear H1
                                                    have H' := Aside0.mk H
                                                    clear H
                                                    go_wp2
                                                    go_meet
                                                    case rel => exact ⟨_, (true), (by first | rfl | (simp; done) | (simp [*]; done)), H', ⟨by have := HJ2.out; have := HJ17.out; have := HK3.out; have := HK4.out; have := HJ29.out; have := HK6.out; have := HJ57.out; first | omega | exact Nat.le_refl _⟩, ⟨by (with_reducible repeat (first | apply Kd.S_alloc | apply Kd.S_drewN | apply Kd.S_drew)); exact HO_5.out⟩, ⟨by (with_reducible repeat (first | refine blk_drewN ?_ _ | refine blk_drew ?_ | refine blk_alloc ?_ _)); exact BK443.out⟩, ⟨by repeat (first | (with_reducible exact HR452_0.out) | (with_reducible refine Kd.C_alloc ?_ _) | (with_reducible refine Kd.C_drewN ?_ _) | (with_reducible refine Kd.C_drew ?_) | exact HR452_0.out)⟩, ⟨by repeat (first | (with_reducible exact HR453_0.out) | (with_reducible refine Kd.C_alloc ?_ _) | (with_reducible refine Kd.C_drewN ?_ _) | (with_reducible refine Kd.C_drew ?_) | exact HR453_0.out)⟩, ⟨by repeat (first | (with_reducible first | exact HB.out | apply below_alloc | apply pw_below_drewN | apply below_drew1 | refine below_set ?_ GE443.out) | exact HB.out)⟩⟩
                                                  · replace c77 := Bool.eq_false_iff.mpr c77
                                                    subst c77
                                                    have H1 : (mizmazelaw02_NetEnds.j7 kj57 a1 t447 (t466 == 0) x8_3 x9_4 (rd (rd_L1 t447 x8_3) x9_4) l0_0) = some r := by rw [if_neg (show ¬ (false = true) by decide)] at H; exact H
                                                    clear H
                                                    have H := H1
                                                    clear H1
                                                    have H' := Aside0.mk H
                                                    clear H
                                                    go_wp2
                                                    go_meet
                                                    case rel => exact ⟨_, ((t466 == 0)), (by first | rfl | (simp; done) | (simp [*]; done)), H', ⟨by have := HJ2.out; have := HJ17.out; have := HK3.out; have := HK4.out; have := HJ29.out; have := HK6.out; have := HJ57.out; first | omega | exact Nat.le_refl _⟩, ⟨by (with_reducible repeat (first | apply Kd.S_alloc | apply Kd.S_drewN | apply Kd.S_drew)); exact HO_5.out⟩, ⟨by (with_reducible repeat (first | refine blk_drewN ?_ _ | refine blk_drew ?_ | refine blk_alloc ?_ _)); exact BK443.out⟩, ⟨by repeat (first | (with_reducible exact HR452_0.out) | (with_reducible refine Kd.C_alloc ?_ _) | (with_reducible refine Kd.C_drewN ?_ _) | (with_reducible refine Kd.C_drew ?_) | exact HR452_0.out)⟩, ⟨by repeat (first | (with_reducible exact HR453_0.out) | (with_reducible refine Kd.C_alloc ?_ _) | (with_reducible refine Kd.C_drewN ?_ _) | (with_reducible refine Kd.C_drew ?_) | exact HR453_0.out)⟩, ⟨by repeat (first | (with_reducible first | exact HB.out | apply below_alloc | apply pw_below_drewN | apply below_drew1 | refine below_set ?_ GE443.out) | exact HB.out)⟩⟩
                                                case rest =>
                                                  clear HC76
                                                  try clear c1
                                                  try clear c2
                                                  try clear p2
                                                  try clear c3
                                                  try clear c4
                                                  try clear p4
                                                  try clear q4
                                                  try clear hx4
                                                  try clear c5
                                                  try clear c6
                                                  try clear p6
                                                  try clear c7
                                                  try clear c14
                                                  try clear c17
                                                  try clear c18
                                                  try clear c19
                                                  try clear c21
                                                  try clear c21b0
                                                  try clear c21b1
                                                  try clear c23
                                                  try clear c24
                                                  try clear c24b0
                                                  try clear c26
                                                  try clear c26b0
                                                  try clear c27
                                                  try clear c27b0
                                                  try clear c28
                                                  try clear c28b0
                                                  try clear c29
                                                  try clear c29b0
                                                  try clear c32
                                                  try clear c33
                                                  try clear c33b0
                                                  try clear c34
                                                  try clear c34b0
                                                  try clear c35
                                                  try clear c36
                                                  try clear c37
                                                  try clear c38
                                                  try clear c40
                                                  try clear c42
                                                  try clear c42b0
                                                  try clear c43
                                                  try clear c43b0
                                                  try clear c44
                                                  try clear c44b0
                                                  try clear c45
                                                  try clear c45b0
                                                  try clear p45
                                                  try clear q45
                                                  try clear hx45
                                                  try clear c46
                                                  try clear c46b0
                                                  try clear p46
                                                  try clear q46
                                                  try clear hx46
                                                  try clear c47
                                                  try clear c47b0
                                                  try clear c48
                                                  try clear c48b0
                                                  try clear c50
                                                  try clear c63
                                                  try clear c63b0
                                                  try clear c63b1
                                                  try clear p64
                                                  try clear c65
                                                  try clear c65b0
                                                  try clear c65b1
                                                  try clear c66
                                                  try clear c66b0
                                                  try clear c66b1
                                                  try clear c77
                                                  try clear hcz10_0
                                                  try clear hcz12_0
                                                  try clear hcz19_0
                                                  try clear hcz51_0
                                                  try clear hcz54_0
                                                  try clear hcz59_0
                                                  try clear hcz61_0
                                                  try clear hcz67_0
                                                  try clear hcz70_0
                                                  try clear hcz73_0
                                                  try clear hcz8_0
                                                  try clear hfz10_0
                                                  try clear hfz12_0
                                                  try clear hfz19_0
                                                  try clear hfz51_0
                                                  try clear hfz54_0
                                                  try clear hfz59_0
                                                  try clear hfz61_0
                                                  try clear hfz67_0
                                                  try clear hfz70_0
                                                  try clear hfz73_0
                                                  try clear hfz8_0
                                                  try clear hx452_0
                                                  try clear hx453_0
                                                  try clear hx454_0
                                                  try clear hx456_0
                                                  try clear hx459_0
                                                  try clear hx460_0
                                                  try clear hx461_0
                                                  try clear p2
                                                  try clear p4
                                                  try clear p45
                                                  try clear p452
                                                  try clear p453
                                                  try clear p454
                                                  try clear p456
                                                  try clear p459
                                                  try clear p46
                                                  try clear p460
                                                  try clear p461
                                                  try clear p6
                                                  try clear p64
                                                  try clear q4
                                                  try clear q45
                                                  try clear q452
                                                  try clear q453
                                                  try clear q454
                                                  try clear q456
                                                  try clear q459
                                                  try clear q46
                                                  try clear q460
                                                  try clear q461
                                                  obtain ⟨kq, x7_75, rfl, HA, HJ75, HO_5, BK443, HR452_0, HR453_0, HB⟩ := hcut
                                                  cases kq with
                                                  | zero => exact absurd HA.out (by simp [mizmazelaw02_NetEnds.j7])
                                                  | succ kj75 =>
                                                    have H := HA.out
                                                    clear HA
                                                    simp only [mizmazelaw02_NetEnds.j7] at H
                                                    replace H := Option.bind_eq_some_iff.mp H
                                                    obtain ⟨⟨t469, t472⟩, A780, H⟩ := H
                                                    replace H : (if 0 ≤ x8_3 then (if x8_3 < (t447.length : Int) then ((mizmazeref01_Has.f kj75 (rd_L1 t447 x8_3) a1).bind fun t474 => (if ((t472 == 0) != t474) = true then (some false) else (mizmazelaw02_NetEnds.l1 kj75 a1 t447 x7_75 x8_3 (wrap64 (x9_4 + 1)) l0_0))) else (none)) else (none)) = some r := H
                                                    have A78 := Aside0.mk A780
                                                    clear A780
                                                    by_cases c79 : 0 ≤ x8_3
                                                    · rw [if_pos c79] at H
                                                      have c79b0 : decide (0 ≤ x8_3) = true := decide_eq_true c79
                                                      clear c79
                                                      by_cases c80 : x8_3 < (t447.length : Int)
                                                      · rw [if_pos c80] at H
                                                        have c80b0 : decide (x8_3 < (t447.length : Int)) = true := decide_eq_true c80
                                                        clear c80
                                                        replace H := Option.bind_eq_some_iff.mp H
                                                        obtain ⟨t474, A810, H⟩ := H
                                                        replace H : (if ((t472 == 0) != t474) = true then (some false) else (mizmazelaw02_NetEnds.l1 kj75 a1 t447 x7_75 x8_3 (wrap64 (x9_4 + 1)) l0_0)) = some r := H
                                                        have A81 := Aside0.mk A810
                                                        clear A810
                                                        by_cases c82 : ((t472 == 0) != t474) = true
                                                        · rw [if_pos c82] at H
                                                          have c82b0 : ((t472 == 0) != t474) = true := c82
                                                          (try (have c82b1 : decide ((t472 == 0) = t474) = false := by simpa using c82))
                                                          (try (have c82b2 : ((t472 == 0) == t474) = false := by simpa using c82))
                                                          (try (have c82b3 : ¬ ((t472 == 0) = t474) := by simpa using c82))
                                                          clear c82
                                                          obtain rfl := Option.some.inj H
                                                          have hcz83_0 : wc.cell? ⟨gb443, 0, none⟩ = some (.slice A0_0 l0_0.length c0_0) := (blk_cell BK443.out 0).trans rfl
                                                          have hfz83_0 := blk_frozen BK443.out 0
                                                          go_wp2_with (first | ((with_reducible refine gate_callee (f := 17) rfl ?_); refine goesL_ (some 130) rfl rfl Try.func17 (by kernel_rfl) rfl #[.agg #[.slice A0_0 l0_0.length c0_0], .int .i64 (rd (rd_L1 t447 x8_3) x9_4), .int .i64 a1] rfl (by (try simp only [List.map_toArray, List.map_cons, List.map_nil]); first | done | rfl | (simp only [List.length_drop, List.length_take]; rfl)) ?_; (with_reducible refine (net_Path.calls kj75 _ _ l0_0 (rd (rd_L1 t447 x8_3) x9_4) a1 t469 t472 _ ?side1 ?side2 A78.out).mono ?_); (case side1 => repeat (first | exact (Kd.C_below HR0_0.out HB.out) | (with_reducible refine Kd.C_alloc ?_ _) | (with_reducible refine Kd.C_drewN ?_ _) | (with_reducible refine Kd.C_drew ?_))); (case side2 => exact HC0_0.out); rintro e w84 ⟨v470, rfl, ho0, hb⟩; refine ⟨_, rfl, ?_⟩; have n0_ := Aside0.mk (Kd.S_elder' (by (with_reducible repeat (first | apply Kd.S_alloc | apply Kd.S_drewN | apply Kd.S_drew)); exact HO_5.out) (Kd.R_base ho0) hb); have n1_ := Aside0.mk (Kd.R_lower ho0 (below_size (by repeat (first | (with_reducible first | exact HB.out | apply below_alloc | apply pw_below_drewN | apply below_drew1 | refine below_set ?_ GE443.out) | exact HB.out)))); have n2_ := Aside0.mk (blk_below (g := gb443) (o := .cells #[.slice A0_0 l0_0.length c0_0] 24 (0, 0)) (by (with_reducible repeat (first | refine blk_drewN ?_ _ | refine blk_drew ?_ | refine blk_alloc ?_ _)); exact BK443.out) hb); have n3_ := Aside0.mk (Kd.C_below (by repeat (first | (with_reducible exact HR452_0.out) | (with_reducible refine Kd.C_alloc ?_ _) | (with_reducible refine Kd.C_drewN ?_ _) | (with_reducible refine Kd.C_drew ?_) | exact HR452_0.out)) hb); have n4_ := Aside0.mk (Kd.C_below (by repeat (first | (with_reducible exact HR453_0.out) | (with_reducible refine Kd.C_alloc ?_ _) | (with_reducible refine Kd.C_drewN ?_ _) | (with_reducible refine Kd.C_drew ?_) | exact HR453_0.out)) hb); have n5_ := Aside0.mk (below_step (by repeat (first | (with_reducible first | exact HB.out | apply below_alloc | apply pw_below_drewN | apply below_drew1 | refine below_set ?_ GE443.out) | exact HB.out)) hb); clear HO_5; clear BK443; clear HR452_0; clear HR453_0; clear HB; have HO_5 := n0_; have HO471 := n1_; have BK443 := n2_; have HR452_0 := n3_; have HR453_0 := n4_; have HB := n5_; clear n0_ n1_ n2_ n3_ n4_ n5_; (try clear hb); (try clear hb2); (try clear hk); (try clear hi); (try clear ho0); have p473 : 0 ≤ (x8_3 : Int) := of_decide_eq_true (by first | (with_reducible assumption) | assumption); have q473 : x8_3 < (t447.length : Int) := of_decide_eq_true (by first | (with_reducible assumption) | assumption); obtain ⟨ad473, A473_0, c473_0, e473, hx473_0, hl473_0, hi473_0⟩ := at_L1 (Kd.S_reads' HO_5.out).2.2 x8_3 p473 q473; obtain rfl : ad452 = ad473 := (by injection e473); obtain ⟨ce473, hce473, hMe473, hcc473⟩ := Kd.S_get HO_5.out [] x8_3 p473 (by first | exact q473 | exact of_decide_eq_true (by first | (with_reducible assumption) | assumption) | (have e_ := (Kd.S_reads' HO_5.out).1; omega)); obtain ⟨ve473_0, rfl, ge473_0⟩ := hMe473; have hv473_0 := hcc473 0 _ rfl; rw [Nat.add_zero, show ((Kd.slice 3 (Kd.int .i64))).sz = 1 from rfl, Nat.mul_one] at hv473_0; replace hv473_0 := Option.some.inj (hv473_0.symm.trans hx473_0); rw [hv473_0] at ge473_0; have HL473_0 := Aside0.mk (show Kd.R (Kd.int .i64) 3 _ _ _ _ (rd_L1 t447 x8_3) from ge473_0); clear hv473_0 ge473_0; clear hcc473 hce473; have HR473_0 := Aside0.mk hi473_0; have HC473_0 := Aside0.mk hl473_0; clear hi473_0 hl473_0; replace p473 := eq_true p473; replace q473 := eq_true q473) | ((with_reducible refine gate_callee (f := 36) rfl ?_); refine goesL_ (some 140) rfl rfl Try.func36 (by kernel_rfl) rfl #[.slice A473_0 (rd_L1 t447 x8_3).length c473_0, .int .i64 a1] rfl (by (try simp only [List.map_toArray, List.map_cons, List.map_nil]); first | done | rfl | (simp only [List.length_drop, List.length_take]; rfl)) ?_; (with_reducible refine (mizmazeref01_Has.calls kj75 _ _ (rd_L1 t447 x8_3) a1 t474 _ ?side1 ?side2 A81.out).mono ?_); (case side1 => repeat (first | exact (by repeat (first | (with_reducible exact HR473_0.out) | (with_reducible refine Kd.C_alloc ?_ _) | (with_reducible refine Kd.C_drewN ?_ _) | (with_reducible refine Kd.C_drew ?_) | exact HR473_0.out)) | (with_reducible refine Kd.C_alloc ?_ _) | (with_reducible refine Kd.C_drewN ?_ _) | (with_reducible refine Kd.C_drew ?_))); (case side2 => exact HC473_0.out); rintro e w' ⟨rfl, ⟨nd, rfl⟩⟩; refine ⟨_, rfl, ?_⟩))
                                                          go_ret
                                                          exact ⟨by first | rfl | (simp [errW_none, errW_some] <;> rfl) | (simp [*, errW_none, errW_some] <;> rfl), by repeat (first | (with_reducible first | exact HB.out | apply below_alloc | apply pw_below_drewN | apply below_drew1 | refine below_set ?_ GE443.out) | exact HB.out)⟩
                                                        · rw [if_neg c82] at H
                                                          have c82b0 : ((t472 == 0) != t474) = false := by simpa using c82
                                                          (try (have c82b1 : decide ((t472 == 0) = t474) = true := by simpa using c82))
                                                          (try (have c82b2 : ((t472 == 0) == t474) = true := by simpa using c82))
                                                          clear c82
                                                          have H' := Aside0.mk H
                                                          clear H
                                                          have hcz85_0 : wc.cell? ⟨gb443, 0, none⟩ = some (.slice A0_0 l0_0.length c0_0) := (blk_cell BK443.out 0).trans rfl
                                                          have hfz85_0 := blk_frozen BK443.out 0
                                                          go_wp2_with (first | ((with_reducible refine gate_callee (f := 17) rfl ?_); refine goesL_ (some 130) rfl rfl Try.func17 (by kernel_rfl) rfl #[.agg #[.slice A0_0 l0_0.length c0_0], .int .i64 (rd (rd_L1 t447 x8_3) x9_4), .int .i64 a1] rfl (by (try simp only [List.map_toArray, List.map_cons, List.map_nil]); first | done | rfl | (simp only [List.length_drop, List.length_take]; rfl)) ?_; (with_reducible refine (net_Path.calls kj75 _ _ l0_0 (rd (rd_L1 t447 x8_3) x9_4) a1 t469 t472 _ ?side1 ?side2 A78.out).mono ?_); (case side1 => repeat (first | exact (Kd.C_below HR0_0.out HB.out) | (with_reducible refine Kd.C_alloc ?_ _) | (with_reducible refine Kd.C_drewN ?_ _) | (with_reducible refine Kd.C_drew ?_))); (case side2 => exact HC0_0.out); rintro e w86 ⟨v470, rfl, ho0, hb⟩; refine ⟨_, rfl, ?_⟩; have n0_ := Aside0.mk (Kd.S_elder' (by (with_reducible repeat (first | apply Kd.S_alloc | apply Kd.S_drewN | apply Kd.S_drew)); exact HO_5.out) (Kd.R_base ho0) hb); have n1_ := Aside0.mk (Kd.R_lower ho0 (below_size (by repeat (first | (with_reducible first | exact HB.out | apply below_alloc | apply pw_below_drewN | apply below_drew1 | refine below_set ?_ GE443.out) | exact HB.out)))); have n2_ := Aside0.mk (blk_below (g := gb443) (o := .cells #[.slice A0_0 l0_0.length c0_0] 24 (0, 0)) (by (with_reducible repeat (first | refine blk_drewN ?_ _ | refine blk_drew ?_ | refine blk_alloc ?_ _)); exact BK443.out) hb); have n3_ := Aside0.mk (Kd.C_below (by repeat (first | (with_reducible exact HR452_0.out) | (with_reducible refine Kd.C_alloc ?_ _) | (with_reducible refine Kd.C_drewN ?_ _) | (with_reducible refine Kd.C_drew ?_) | exact HR452_0.out)) hb); have n4_ := Aside0.mk (Kd.C_below (by repeat (first | (with_reducible exact HR453_0.out) | (with_reducible refine Kd.C_alloc ?_ _) | (with_reducible refine Kd.C_drewN ?_ _) | (with_reducible refine Kd.C_drew ?_) | exact HR453_0.out)) hb); have n5_ := Aside0.mk (below_step (by repeat (first | (with_reducible first | exact HB.out | apply below_alloc | apply pw_below_drewN | apply below_drew1 | refine below_set ?_ GE443.out) | exact HB.out)) hb); clear HO_5; clear BK443; clear HR452_0; clear HR453_0; clear HB; have HO_5 := n0_; have HO471 := n1_; have BK443 := n2_; have HR452_0 := n3_; have HR453_0 := n4_; have HB := n5_; clear n0_ n1_ n2_ n3_ n4_ n5_; (try clear hb); (try clear hb2); (try clear hk); (try clear hi); (try clear ho0); have p473 : 0 ≤ (x8_3 : Int) := of_decide_eq_true (by first | (with_reducible assumption) | assumption); have q473 : x8_3 < (t447.length : Int) := of_decide_eq_true (by first | (with_reducible assumption) | assumption); obtain ⟨ad473, A473_0, c473_0, e473, hx473_0, hl473_0, hi473_0⟩ := at_L1 (Kd.S_reads' HO_5.out).2.2 x8_3 p473 q473; obtain rfl : ad452 = ad473 := (by injection e473); obtain ⟨ce473, hce473, hMe473, hcc473⟩ := Kd.S_get HO_5.out [] x8_3 p473 (by first | exact q473 | exact of_decide_eq_true (by first | (with_reducible assumption) | assumption) | (have e_ := (Kd.S_reads' HO_5.out).1; omega)); obtain ⟨ve473_0, rfl, ge473_0⟩ := hMe473; have hv473_0 := hcc473 0 _ rfl; rw [Nat.add_zero, show ((Kd.slice 3 (Kd.int .i64))).sz = 1 from rfl, Nat.mul_one] at hv473_0; replace hv473_0 := Option.some.inj (hv473_0.symm.trans hx473_0); rw [hv473_0] at ge473_0; have HL473_0 := Aside0.mk (show Kd.R (Kd.int .i64) 3 _ _ _ _ (rd_L1 t447 x8_3) from ge473_0); clear hv473_0 ge473_0; clear hcc473 hce473; have HR473_0 := Aside0.mk hi473_0; have HC473_0 := Aside0.mk hl473_0; clear hi473_0 hl473_0; replace p473 := eq_true p473; replace q473 := eq_true q473) | ((with_reducible refine gate_callee (f := 36) rfl ?_); refine goesL_ (some 140) rfl rfl Try.func36 (by kernel_rfl) rfl #[.slice A473_0 (rd_L1 t447 x8_3).length c473_0, .int .i64 a1] rfl (by (try simp only [List.map_toArray, List.map_cons, List.map_nil]); first | done | rfl | (simp only [List.length_drop, List.length_take]; rfl)) ?_; (with_reducible refine (mizmazeref01_Has.calls kj75 _ _ (rd_L1 t447 x8_3) a1 t474 _ ?side1 ?side2 A81.out).mono ?_); (case side1 => repeat (first | exact (by repeat (first | (with_reducible exact HR473_0.out) | (with_reducible refine Kd.C_alloc ?_ _) | (with_reducible refine Kd.C_drewN ?_ _) | (with_reducible refine Kd.C_drew ?_) | exact HR473_0.out)) | (with_reducible refine Kd.C_alloc ?_ _) | (with_reducible refine Kd.C_drewN ?_ _) | (with_reducible refine Kd.C_drew ?_))); (case side2 => exact HC473_0.out); rintro e w' ⟨rfl, ⟨nd, rfl⟩⟩; refine ⟨_, rfl, ?_⟩))
                                                          go_roundg kj75
                                                          case measure => have := HJ2.out; have := HJ17.out; have := HK3.out; have := HK4.out; have := HJ29.out; have := HK6.out; have := HJ57.out; have := HJ75.out; omega
                                                          case rel => exact ⟨(x7_75), (wrap64 (x9_4 + 1)), (by first | rfl | (simp; done) | (simp [*]; done)), (by first | rfl | (simp; done) | (simp [*]; done)), H', ⟨by have := HJ2.out; have := HJ17.out; have := HK3.out; have := HK4.out; have := HJ29.out; have := HK6.out; have := HJ57.out; have := HJ75.out; omega⟩, ⟨by (with_reducible repeat (first | apply Kd.S_alloc | apply Kd.S_drewN | apply Kd.S_drew)); exact Kd.S_mono HO_5.out (fun _ hk => trivial)⟩, ⟨by (with_reducible repeat (first | refine blk_drewN ?_ _ | refine blk_drew ?_ | refine blk_alloc ?_ _)); exact BK443.out⟩, ⟨by repeat (first | (with_reducible first | exact HB.out | apply below_alloc | apply pw_below_drewN | apply below_drew1 | refine below_set ?_ GE443.out) | exact HB.out)⟩⟩
                                                      · rw [if_neg c80] at H
                                                        exact absurd H (by simp)
                                                    · rw [if_neg c79] at H
                                                      exact absurd H (by simp)
                              · rw [if_neg c29] at H
                                exact absurd H (by simp)
                            · rw [if_neg c28] at H
                              have c28b0 : decide (x9_4 < ((rd_L1 t447 x8_3).length : Int)) = false := decide_eq_false c28
                              clear c28
                              have H' := Aside0.mk H
                              clear H
                              have p452 : 0 ≤ (x8_3 : Int) := of_decide_eq_true (by first | (with_reducible assumption) | assumption)
                              have q452 : x8_3 < (t447.length : Int) := of_decide_eq_true (by first | (with_reducible assumption) | assumption)
                              obtain ⟨ad452, A452_0, c452_0, e452, hx452_0, hl452_0, hi452_0⟩ := at_L1 (Kd.S_reads' HO_5.out).2.2 x8_3 p452 q452
                              cases e452
                              obtain ⟨ce452, hce452, hMe452, hcc452⟩ := Kd.S_get HO_5.out [] x8_3 p452 (by first | exact q452 | exact of_decide_eq_true (by first | (with_reducible assumption) | assumption) | (have e_ := (Kd.S_reads' HO_5.out).1; omega))
                              obtain ⟨ve452_0, rfl, ge452_0⟩ := hMe452
                              have hv452_0 := hcc452 0 _ rfl
                              rw [Nat.add_zero, show ((Kd.slice 3 (Kd.int .i64))).sz = 1 from rfl, Nat.mul_one] at hv452_0
                              replace hv452_0 := Option.some.inj (hv452_0.symm.trans hx452_0)
                              rw [hv452_0] at ge452_0
                              have HL452_0 := Aside0.mk (show Kd.R (Kd.int .i64) 3 _ _ _ _ (rd_L1 t447 x8_3) from ge452_0)
                              clear hv452_0 ge452_0
                              clear hcc452 hce452
                              have HR452_0 := Aside0.mk hi452_0
                              have HC452_0 := Aside0.mk hl452_0
                              clear hi452_0 hl452_0
                              replace p452 := eq_true p452
                              replace q452 := eq_true q452
                              go_wp2
                              go_roundg k4
                              case measure => have := HJ2.out; have := HJ17.out; have := HK3.out; have := HK4.out; omega
                              case rel => exact ⟨(x7_4), (wrap64 (x8_3 + 1)), (by first | rfl | (simp; done) | (simp [*]; done)), (by first | rfl | (simp; done) | (simp [*]; done)), H', ⟨by have := HJ2.out; have := HJ17.out; have := HK3.out; have := HK4.out; omega⟩, ⟨by (with_reducible repeat (first | apply Kd.S_alloc | apply Kd.S_drewN | apply Kd.S_drew)); exact HO_5.out⟩, ⟨by (with_reducible repeat (first | refine blk_drewN ?_ _ | refine blk_drew ?_ | refine blk_alloc ?_ _)); exact BK443.out⟩, ⟨by repeat (first | (with_reducible first | exact HB.out | apply below_alloc | apply pw_below_drewN | apply below_drew1 | refine below_set ?_ GE443.out) | exact HB.out)⟩⟩
                          · rw [if_neg c27] at H
                            exact absurd H (by simp)
                        · rw [if_neg c26] at H
                          exact absurd H (by simp)
                  · rw [if_neg c24] at H
                    have c24b0 : decide (x8_3 < (t447.length : Int)) = false := decide_eq_false c24
                    clear c24
                    by_cases c87 : x7_3 = true
                    · subst c87
                      have H1 : ((mizmazelaw02_awake.f k3).bind fun t451 => (some t451)) = some r := by rw [if_pos rfl] at H; exact H
                      clear H
                      have H := H1
                      clear H1
                      replace H := Option.bind_eq_some_iff.mp H
                      obtain ⟨t451, A880, H⟩ := H
                      replace H : (some t451) = some r := H
                      have A88 := Aside0.mk A880
                      clear A880
                      obtain rfl := Option.some.inj H
                      obtain ⟨Ao89, co89, eo89⟩ := Kd.S_slice HO_5.out
                      subst eo89
                      go_wp2_with (first | (go_at_call 19; (with_reducible refine (mizmazelaw02_awake.calls k3  t451 _ A88.out).mono ?_); rintro e w90 ⟨rfl, hb⟩; have n0_ := Aside0.mk (Kd.S_below (by (with_reducible repeat (first | apply Kd.S_alloc | apply Kd.S_drewN | apply Kd.S_drew)); exact HO_5.out) hb); have n1_ := Aside0.mk (blk_below (g := gb443) (o := .cells #[.slice A0_0 l0_0.length c0_0] 24 (0, 0)) (by (with_reducible repeat (first | refine blk_drewN ?_ _ | refine blk_drew ?_ | refine blk_alloc ?_ _)); exact BK443.out) hb); have n2_ := Aside0.mk (below_step (by repeat (first | (with_reducible first | exact HB.out | apply below_alloc | apply pw_below_drewN | apply below_drew1 | refine below_set ?_ GE443.out) | exact HB.out)) hb); clear HO_5; clear BK443; clear HB; have HO_5 := n0_; have BK443 := n1_; have HB := n2_; clear n0_ n1_ n2_; (try clear hb); (try clear hb2); (try clear hk); (try clear hi)))
                      go_ret
                      exact ⟨by first | rfl | (simp [errW_none, errW_some] <;> rfl) | (simp [*, errW_none, errW_some] <;> rfl), by repeat (first | (with_reducible first | exact HB.out | apply below_alloc | apply pw_below_drewN | apply below_drew1 | refine below_set ?_ GE443.out) | exact HB.out)⟩
                    · replace c87 := Bool.eq_false_iff.mpr c87
                      subst c87
                      have H1 : (some false) = some r := by rw [if_neg (show ¬ (false = true) by decide)] at H; exact H
                      clear H
                      have H := H1
                      clear H1
                      obtain rfl := Option.some.inj H
                      obtain ⟨Ao91, co91, eo91⟩ := Kd.S_slice HO_5.out
                      subst eo91
                      go_wp2
                      go_ret
                      exact ⟨by first | rfl | (simp [errW_none, errW_some] <;> rfl) | (simp [*, errW_none, errW_some] <;> rfl), by repeat (first | (with_reducible first | exact HB.out | apply below_alloc | apply pw_below_drewN | apply below_drew1 | refine below_set ?_ GE443.out) | exact HB.out)⟩

end Go.Proofs.Ytjgdalhdiohclaa.Q
end
