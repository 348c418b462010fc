/- A colouring of a colouring is a colouring; whether an automaton is strongly connected, its period, its classes, its sinks and the number of its colourings are the same for all of them; Same holds both ways. (text 27 of 29) -/
import Derived.Test.YtjgdalhdiohclaaZColorAlikef
import Derived.Test.YtjgdalhdiohclaaZColorAlikew
import Derived.Test.YtjgdalhdiohclaaZColorAlikei
import Derived.Test.YtjgdalhdiohclaaZColorAlikez
import Derived.Test.YtjgdalhdiohclaaZColorAliket
open Go.RowKit Go.Proofs.YtjgdalhdiohclaaW.PrintWords Go.Proofs.YtjgdalhdiohclaaW.PrintLast Go.Proofs.YtjgdalhdiohclaaW.PrintMore
/-! Part QLaw05ColorAlike -/
section
namespace Go.Proofs.Ytjgdalhdiohclaa.Q
attribute [local go_sem] max2_int min2_int max_two min_two max_three min_three max_four min_four
set_option linter.unusedVariables false
set_option linter.unusedSimpArgs false
mutual
def mizmazelaw05_ColorAlike.j0 : Nat → List (List Int) → List (List Int) → Bool → List (List Int) → Option (Bool)
 | 0, _, _, _, _ => none
 | k + 1, x1, x2, x35, x687000 => if x35 = true then ((mizmazelaw05_awake.f k).bind fun t690 => (some t690)) else ((color_Colored.f k x687000 x1).bind fun bt691 => ((color_Colored.f k bt691.1 x2).bind fun bt696 => (if bt691.2 = 0 then (if bt696.2 = 0 then ((mizmazelaw05_all.f k x687000 x687000).bind fun t701 => (if t701 = true then ((mizmazelaw05_all.f k x687000 bt691.1).bind fun t702 => (if t702 = true then ((mizmazelaw05_all.f k bt691.1 bt696.1).bind fun t703 => (if t703 = true then ((mizmazelaw05_all.f k x687000 bt696.1).bind fun t704 => (mizmazelaw05_ColorAlike.j1 k (!t704) x687000 bt696.1)) else (mizmazelaw05_ColorAlike.j1 k true x687000 bt696.1))) else (mizmazelaw05_ColorAlike.j1 k true x687000 bt696.1))) else (mizmazelaw05_ColorAlike.j1 k true x687000 bt696.1))) else (mizmazelaw05_ColorAlike.j1 k true x687000 bt696.1)) else (mizmazelaw05_ColorAlike.j1 k true x687000 bt696.1))))
def mizmazelaw05_ColorAlike.j1 : Nat → Bool → List (List Int) → List (List Int) → Option (Bool)
 | 0, _, _, _ => none
 | k + 1, x78, x687000, x701000 => if x78 = true then (some false) else ((net_Connected.f k x687000).bind fun bt705 => ((net_Connected.f k x701000).bind fun bt707 => (if bt705.2 = 0 then (if bt707.2 = 0 then (mizmazelaw05_ColorAlike.j2 k (bt705.1 != bt707.1) x687000 x701000) else (mizmazelaw05_ColorAlike.j2 k true x687000 x701000)) else (mizmazelaw05_ColorAlike.j2 k true x687000 x701000))))
def mizmazelaw05_ColorAlike.j2 : Nat → Bool → List (List Int) → List (List Int) → Option (Bool)
 | 0, _, _, _ => none
 | k + 1, x99, x687000, x701000 => if x99 = true then (some false) else ((net_Period.f k x687000).bind fun bt709 => ((net_Period.f k x701000).bind fun bt711 => (if bt709.2 = bt711.2 then (mizmazelaw05_ColorAlike.j3 k (bt709.1 != bt711.1) x687000 x701000) else (mizmazelaw05_ColorAlike.j3 k true x687000 x701000))))
def mizmazelaw05_ColorAlike.j3 : Nat → Bool → List (List Int) → List (List Int) → Option (Bool)
 | 0, _, _, _ => none
 | k + 1, x117, x687000, x701000 => if x117 = true then (some false) else ((net_Classes.f k x687000).bind fun bt713 => ((net_Classes.f k x701000).bind fun bt717 => (if bt713.2 = bt717.2 then ((mizmazeref01_Same.f k bt713.1 bt717.1).bind fun t721 => (mizmazelaw05_ColorAlike.j4 k (!t721) x687000 x701000)) else (mizmazelaw05_ColorAlike.j4 k true x687000 x701000))))
def mizmazelaw05_ColorAlike.j4 : Nat → Bool → List (List Int) → List (List Int) → Option (Bool)
 | 0, _, _, _ => none
 | k + 1, x136, x687000, x701000 => if x136 = true then (some false) else ((net_Sinks.f k x687000).bind fun bt722 => ((net_Sinks.f k x701000).bind fun bt726 => (if bt722.2 = 0 then (if bt726.2 = 0 then ((mizmazeref01_Sames.f k bt722.1 bt726.1).bind fun t730 => (mizmazelaw05_ColorAlike.j5 k (!t730) x687000 x701000)) else (mizmazelaw05_ColorAlike.j5 k true x687000 x701000)) else (mizmazelaw05_ColorAlike.j5 k true x687000 x701000))))
def mizmazelaw05_ColorAlike.j5 : Nat → Bool → List (List Int) → List (List Int) → Option (Bool)
 | 0, _, _, _ => none
 | k + 1, x158, x687000, x701000 => if x158 = true then (some false) else ((color_Colorings.f k x687000).bind fun bt731 => ((color_Colorings.f k x701000).bind fun bt733 => (if bt731.2 = bt733.2 then (if bt731.1 = bt733.1 then ((mizmazelaw05_awake.f k).bind fun t735 => (some t735)) else (some false)) else (some false))))
end
def mizmazelaw05_ColorAlike.f (k : Nat) (l0_0 : List (List Int)) (l1 : List (List Int)) (l2 : List (List Int)) : Option (Bool) := (mizmazeref01_Valid.f k l0_0).bind fun t687 => (if t687 = true then ((mizmazeref05_Perms.f k l0_0 l1).bind fun t688 => (if t688 = true then ((mizmazeref05_Perms.f k l0_0 l2).bind fun t689 => (mizmazelaw05_ColorAlike.j0 k l1 l2 (!t689) l0_0)) else (mizmazelaw05_ColorAlike.j0 k l1 l2 true l0_0))) else (mizmazelaw05_ColorAlike.j0 k l1 l2 true l0_0))
theorem mizmazelaw05_ColorAlike.mono_l : ∀ k, (∀ y0 y1 y2 y3, LeO (mizmazelaw05_ColorAlike.j0 k y0 y1 y2 y3) (mizmazelaw05_ColorAlike.j0 (k + 1) y0 y1 y2 y3)) ∧ (∀ y0 y1 y2, LeO (mizmazelaw05_ColorAlike.j1 k y0 y1 y2) (mizmazelaw05_ColorAlike.j1 (k + 1) y0 y1 y2)) ∧ (∀ y0 y1 y2, LeO (mizmazelaw05_ColorAlike.j2 k y0 y1 y2) (mizmazelaw05_ColorAlike.j2 (k + 1) y0 y1 y2)) ∧ (∀ y0 y1 y2, LeO (mizmazelaw05_ColorAlike.j3 k y0 y1 y2) (mizmazelaw05_ColorAlike.j3 (k + 1) y0 y1 y2)) ∧ (∀ y0 y1 y2, LeO (mizmazelaw05_ColorAlike.j4 k y0 y1 y2) (mizmazelaw05_ColorAlike.j4 (k + 1) y0 y1 y2)) ∧ (∀ y0 y1 y2, LeO (mizmazelaw05_ColorAlike.j5 k y0 y1 y2) (mizmazelaw05_ColorAlike.j5 (k + 1) y0 y1 y2))
 | 0 => ⟨fun _ _ _ _ r h => by simp [mizmazelaw05_ColorAlike.j0] at h, fun _ _ _ r h => by simp [mizmazelaw05_ColorAlike.j1] at h, fun _ _ _ r h => by simp [mizmazelaw05_ColorAlike.j2] at h, fun _ _ _ r h => by simp [mizmazelaw05_ColorAlike.j3] at h, fun _ _ _ r h => by simp [mizmazelaw05_ColorAlike.j4] at h, fun _ _ _ r h => by simp [mizmazelaw05_ColorAlike.j5] at h⟩
 | k + 1 => by
  obtain ⟨ih0, ih1, ih2, ih3, ih4, ih5⟩ := mizmazelaw05_ColorAlike.mono_l k
  refine ⟨?_, ?_, ?_, ?_, ?_, ?_⟩
  ·intro y0 y1 y2 y3
   unfold mizmazelaw05_ColorAlike.j0
   repeat' first
   | (with_reducible exact ih0 _ _ _ _)
   | (with_reducible exact ih1 _ _ _)
   | (with_reducible exact ih2 _ _ _)
   | (with_reducible exact ih3 _ _ _)
   | (with_reducible exact ih4 _ _ _)
   | (with_reducible exact ih5 _ _ _)
   | (with_reducible exact color_Colored.mono _ _ _)
   | (with_reducible exact color_Colorings.mono _ _)
   | (with_reducible exact mizmazelaw05_all.mono _ _ _)
   | (with_reducible exact mizmazelaw05_awake.mono _)
   | (with_reducible exact mizmazeref01_Same.mono _ _ _)
   | (with_reducible exact mizmazeref01_Sames.mono _ _ _)
   | (with_reducible exact mizmazeref01_Valid.mono _ _)
   | (with_reducible exact mizmazeref05_Perms.mono _ _ _)
   | (with_reducible exact net_Classes.mono _ _)
   | (with_reducible exact net_Connected.mono _ _)
   | (with_reducible exact net_Period.mono _ _)
   | (with_reducible exact net_Sinks.mono _ _)
   | (with_reducible exact LeO.refl _)
   | (with_reducible exact LeO.none _)
   | (with_reducible refine LeO.ite ?_ ?_)
   | (with_reducible refine LeO.bind ?_ (fun _ => ?_))
   | exact ih0 _ _ _ _
   | exact ih1 _ _ _
   | exact ih2 _ _ _
   | exact ih3 _ _ _
   | exact ih4 _ _ _
   | exact ih5 _ _ _
   | exact color_Colored.mono _ _ _
   | exact color_Colorings.mono _ _
   | exact mizmazelaw05_all.mono _ _ _
   | exact mizmazelaw05_awake.mono _
   | exact mizmazeref01_Same.mono _ _ _
   | exact mizmazeref01_Sames.mono _ _ _
   | exact mizmazeref01_Valid.mono _ _
   | exact mizmazeref05_Perms.mono _ _ _
   | exact net_Classes.mono _ _
   | exact net_Connected.mono _ _
   | exact net_Period.mono _ _
   | exact net_Sinks.mono _ _
   | exact LeO.none _
   | refine LeO.ite ?_ ?_
   | refine LeO.bind ?_ (fun _ => ?_)
  ·intro y0 y1 y2
   unfold mizmazelaw05_ColorAlike.j1
   repeat' first
   | (with_reducible exact ih0 _ _ _ _)
   | (with_reducible exact ih1 _ _ _)
   | (with_reducible exact ih2 _ _ _)
   | (with_reducible exact ih3 _ _ _)
   | (with_reducible exact ih4 _ _ _)
   | (with_reducible exact ih5 _ _ _)
   | (with_reducible exact color_Colored.mono _ _ _)
   | (with_reducible exact color_Colorings.mono _ _)
   | (with_reducible exact mizmazelaw05_all.mono _ _ _)
   | (with_reducible exact mizmazelaw05_awake.mono _)
   | (with_reducible exact mizmazeref01_Same.mono _ _ _)
   | (with_reducible exact mizmazeref01_Sames.mono _ _ _)
   | (with_reducible exact mizmazeref01_Valid.mono _ _)
   | (with_reducible exact mizmazeref05_Perms.mono _ _ _)
   | (with_reducible exact net_Classes.mono _ _)
   | (with_reducible exact net_Connected.mono _ _)
   | (with_reducible exact net_Period.mono _ _)
   | (with_reducible exact net_Sinks.mono _ _)
   | (with_reducible exact LeO.refl _)
   | (with_reducible exact LeO.none _)
   | (with_reducible refine LeO.ite ?_ ?_)
   | (with_reducible refine LeO.bind ?_ (fun _ => ?_))
   | exact ih0 _ _ _ _
   | exact ih1 _ _ _
   | exact ih2 _ _ _
   | exact ih3 _ _ _
   | exact ih4 _ _ _
   | exact ih5 _ _ _
   | exact color_Colored.mono _ _ _
   | exact color_Colorings.mono _ _
   | exact mizmazelaw05_all.mono _ _ _
   | exact mizmazelaw05_awake.mono _
   | exact mizmazeref01_Same.mono _ _ _
   | exact mizmazeref01_Sames.mono _ _ _
   | exact mizmazeref01_Valid.mono _ _
   | exact mizmazeref05_Perms.mono _ _ _
   | exact net_Classes.mono _ _
   | exact net_Connected.mono _ _
   | exact net_Period.mono _ _
   | exact net_Sinks.mono _ _
   | exact LeO.none _
   | refine LeO.ite ?_ ?_
   | refine LeO.bind ?_ (fun _ => ?_)
  ·intro y0 y1 y2
   unfold mizmazelaw05_ColorAlike.j2
   repeat' first
   | (with_reducible exact ih0 _ _ _ _)
   | (with_reducible exact ih1 _ _ _)
   | (with_reducible exact ih2 _ _ _)
   | (with_reducible exact ih3 _ _ _)
   | (with_reducible exact ih4 _ _ _)
   | (with_reducible exact ih5 _ _ _)
   | (with_reducible exact color_Colored.mono _ _ _)
   | (with_reducible exact color_Colorings.mono _ _)
   | (with_reducible exact mizmazelaw05_all.mono _ _ _)
   | (with_reducible exact mizmazelaw05_awake.mono _)
   | (with_reducible exact mizmazeref01_Same.mono _ _ _)
   | (with_reducible exact mizmazeref01_Sames.mono _ _ _)
   | (with_reducible exact mizmazeref01_Valid.mono _ _)
   | (with_reducible exact mizmazeref05_Perms.mono _ _ _)
   | (with_reducible exact net_Classes.mono _ _)
   | (with_reducible exact net_Connected.mono _ _)
   | (with_reducible exact net_Period.mono _ _)
   | (with_reducible exact net_Sinks.mono _ _)
   | (with_reducible exact LeO.refl _)
   | (with_reducible exact LeO.none _)
   | (with_reducible refine LeO.ite ?_ ?_)
   | (with_reducible refine LeO.bind ?_ (fun _ => ?_))
   | exact ih0 _ _ _ _
   | exact ih1 _ _ _
   | exact ih2 _ _ _
   | exact ih3 _ _ _
   | exact ih4 _ _ _
   | exact ih5 _ _ _
   | exact color_Colored.mono _ _ _
   | exact color_Colorings.mono _ _
   | exact mizmazelaw05_all.mono _ _ _
   | exact mizmazelaw05_awake.mono _
   | exact mizmazeref01_Same.mono _ _ _
   | exact mizmazeref01_Sames.mono _ _ _
   | exact mizmazeref01_Valid.mono _ _
   | exact mizmazeref05_Perms.mono _ _ _
   | exact net_Classes.mono _ _
   | exact net_Connected.mono _ _
   | exact net_Period.mono _ _
   | exact net_Sinks.mono _ _
   | exact LeO.none _
   | refine LeO.ite ?_ ?_
   | refine LeO.bind ?_ (fun _ => ?_)
  ·intro y0 y1 y2
   unfold mizmazelaw05_ColorAlike.j3
   repeat' first
   | (with_reducible exact ih0 _ _ _ _)
   | (with_reducible exact ih1 _ _ _)
   | (with_reducible exact ih2 _ _ _)
   | (with_reducible exact ih3 _ _ _)
   | (with_reducible exact ih4 _ _ _)
   | (with_reducible exact ih5 _ _ _)
   | (with_reducible exact color_Colored.mono _ _ _)
   | (with_reducible exact color_Colorings.mono _ _)
   | (with_reducible exact mizmazelaw05_all.mono _ _ _)
   | (with_reducible exact mizmazelaw05_awake.mono _)
   | (with_reducible exact mizmazeref01_Same.mono _ _ _)
   | (with_reducible exact mizmazeref01_Sames.mono _ _ _)
   | (with_reducible exact mizmazeref01_Valid.mono _ _)
   | (with_reducible exact mizmazeref05_Perms.mono _ _ _)
   | (with_reducible exact net_Classes.mono _ _)
   | (with_reducible exact net_Connected.mono _ _)
   | (with_reducible exact net_Period.mono _ _)
   | (with_reducible exact net_Sinks.mono _ _)
   | (with_reducible exact LeO.refl _)
   | (with_reducible exact LeO.none _)
   | (with_reducible refine LeO.ite ?_ ?_)
   | (with_reducible refine LeO.bind ?_ (fun _ => ?_))
   | exact ih0 _ _ _ _
   | exact ih1 _ _ _
   | exact ih2 _ _ _
   | exact ih3 _ _ _
   | exact ih4 _ _ _
   | exact ih5 _ _ _
   | exact color_Colored.mono _ _ _
   | exact color_Colorings.mono _ _
   | exact mizmazelaw05_all.mono _ _ _
   | exact mizmazelaw05_awake.mono _
   | exact mizmazeref01_Same.mono _ _ _
   | exact mizmazeref01_Sames.mono _ _ _
   | exact mizmazeref01_Valid.mono _ _
   | exact mizmazeref05_Perms.mono _ _ _
   | exact net_Classes.mono _ _
   | exact net_Connected.mono _ _
   | exact net_Period.mono _ _
   | exact net_Sinks.mono _ _
   | exact LeO.none _
   | refine LeO.ite ?_ ?_
   | refine LeO.bind ?_ (fun _ => ?_)
  ·intro y0 y1 y2
   unfold mizmazelaw05_ColorAlike.j4
   repeat' first
   | (with_reducible exact ih0 _ _ _ _)
   | (with_reducible exact ih1 _ _ _)
   | (with_reducible exact ih2 _ _ _)
   | (with_reducible exact ih3 _ _ _)
   | (with_reducible exact ih4 _ _ _)
   | (with_reducible exact ih5 _ _ _)
   | (with_reducible exact color_Colored.mono _ _ _)
   | (with_reducible exact color_Colorings.mono _ _)
   | (with_reducible exact mizmazelaw05_all.mono _ _ _)
   | (with_reducible exact mizmazelaw05_awake.mono _)
   | (with_reducible exact mizmazeref01_Same.mono _ _ _)
   | (with_reducible exact mizmazeref01_Sames.mono _ _ _)
   | (with_reducible exact mizmazeref01_Valid.mono _ _)
   | (with_reducible exact mizmazeref05_Perms.mono _ _ _)
   | (with_reducible exact net_Classes.mono _ _)
   | (with_reducible exact net_Connected.mono _ _)
   | (with_reducible exact net_Period.mono _ _)
   | (with_reducible exact net_Sinks.mono _ _)
   | (with_reducible exact LeO.refl _)
   | (with_reducible exact LeO.none _)
   | (with_reducible refine LeO.ite ?_ ?_)
   | (with_reducible refine LeO.bind ?_ (fun _ => ?_))
   | exact ih0 _ _ _ _
   | exact ih1 _ _ _
   | exact ih2 _ _ _
   | exact ih3 _ _ _
   | exact ih4 _ _ _
   | exact ih5 _ _ _
   | exact color_Colored.mono _ _ _
   | exact color_Colorings.mono _ _
   | exact mizmazelaw05_all.mono _ _ _
   | exact mizmazelaw05_awake.mono _
   | exact mizmazeref01_Same.mono _ _ _
   | exact mizmazeref01_Sames.mono _ _ _
   | exact mizmazeref01_Valid.mono _ _
   | exact mizmazeref05_Perms.mono _ _ _
   | exact net_Classes.mono _ _
   | exact net_Connected.mono _ _
   | exact net_Period.mono _ _
   | exact net_Sinks.mono _ _
   | exact LeO.none _
   | refine LeO.ite ?_ ?_
   | refine LeO.bind ?_ (fun _ => ?_)
  ·intro y0 y1 y2
   unfold mizmazelaw05_ColorAlike.j5
   repeat' first
   | (with_reducible exact ih0 _ _ _ _)
   | (with_reducible exact ih1 _ _ _)
   | (with_reducible exact ih2 _ _ _)
   | (with_reducible exact ih3 _ _ _)
   | (with_reducible exact ih4 _ _ _)
   | (with_reducible exact ih5 _ _ _)
   | (with_reducible exact color_Colored.mono _ _ _)
   | (with_reducible exact color_Colorings.mono _ _)
   | (with_reducible exact mizmazelaw05_all.mono _ _ _)
   | (with_reducible exact mizmazelaw05_awake.mono _)
   | (with_reducible exact mizmazeref01_Same.mono _ _ _)
   | (with_reducible exact mizmazeref01_Sames.mono _ _ _)
   | (with_reducible exact mizmazeref01_Valid.mono _ _)
   | (with_reducible exact mizmazeref05_Perms.mono _ _ _)
   | (with_reducible exact net_Classes.mono _ _)
   | (with_reducible exact net_Connected.mono _ _)
   | (with_reducible exact net_Period.mono _ _)
   | (with_reducible exact net_Sinks.mono _ _)
   | (with_reducible exact LeO.refl _)
   | (with_reducible exact LeO.none _)
   | (with_reducible refine LeO.ite ?_ ?_)
   | (with_reducible refine LeO.bind ?_ (fun _ => ?_))
   | exact ih0 _ _ _ _
   | exact ih1 _ _ _
   | exact ih2 _ _ _
   | exact ih3 _ _ _
   | exact ih4 _ _ _
   | exact ih5 _ _ _
   | exact color_Colored.mono _ _ _
   | exact color_Colorings.mono _ _
   | exact mizmazelaw05_all.mono _ _ _
   | exact mizmazelaw05_awake.mono _
   | exact mizmazeref01_Same.mono _ _ _
   | exact mizmazeref01_Sames.mono _ _ _
   | exact mizmazeref01_Valid.mono _ _
   | exact mizmazeref05_Perms.mono _ _ _
   | exact net_Classes.mono _ _
   | exact net_Connected.mono _ _
   | exact net_Period.mono _ _
   | exact net_Sinks.mono _ _
   | exact LeO.none _
   | refine LeO.ite ?_ ?_
   | refine LeO.bind ?_ (fun _ => ?_)
theorem mizmazelaw05_ColorAlike.mono : ∀ a0 a1 a2 k, LeO (mizmazelaw05_ColorAlike.f k a0 a1 a2) (mizmazelaw05_ColorAlike.f (k + 1) a0 a1 a2) := by
 intro a0 a1 a2 k
 obtain ⟨ih0, ih1, ih2, ih3, ih4, ih5⟩ := mizmazelaw05_ColorAlike.mono_l k
 unfold mizmazelaw05_ColorAlike.f
 repeat' first
   | (with_reducible exact ih0 _ _ _ _)
   | (with_reducible exact ih1 _ _ _)
   | (with_reducible exact ih2 _ _ _)
   | (with_reducible exact ih3 _ _ _)
   | (with_reducible exact ih4 _ _ _)
   | (with_reducible exact ih5 _ _ _)
   | (with_reducible exact color_Colored.mono _ _ _)
   | (with_reducible exact color_Colorings.mono _ _)
   | (with_reducible exact mizmazelaw05_all.mono _ _ _)
   | (with_reducible exact mizmazelaw05_awake.mono _)
   | (with_reducible exact mizmazeref01_Same.mono _ _ _)
   | (with_reducible exact mizmazeref01_Sames.mono _ _ _)
   | (with_reducible exact mizmazeref01_Valid.mono _ _)
   | (with_reducible exact mizmazeref05_Perms.mono _ _ _)
   | (with_reducible exact net_Classes.mono _ _)
   | (with_reducible exact net_Connected.mono _ _)
   | (with_reducible exact net_Period.mono _ _)
   | (with_reducible exact net_Sinks.mono _ _)
   | (with_reducible exact LeO.refl _)
   | (with_reducible exact LeO.none _)
   | (with_reducible refine LeO.ite ?_ ?_)
   | (with_reducible refine LeO.bind ?_ (fun _ => ?_))
   | exact ih0 _ _ _ _
   | exact ih1 _ _ _
   | exact ih2 _ _ _
   | exact ih3 _ _ _
   | exact ih4 _ _ _
   | exact ih5 _ _ _
   | exact color_Colored.mono _ _ _
   | exact color_Colorings.mono _ _
   | exact mizmazelaw05_all.mono _ _ _
   | exact mizmazelaw05_awake.mono _
   | exact mizmazeref01_Same.mono _ _ _
   | exact mizmazeref01_Sames.mono _ _ _
   | exact mizmazeref01_Valid.mono _ _
   | exact mizmazeref05_Perms.mono _ _ _
   | exact net_Classes.mono _ _
   | exact net_Connected.mono _ _
   | exact net_Period.mono _ _
   | exact net_Sinks.mono _ _
   | exact LeO.none _
   | refine LeO.ite ?_ ?_
   | refine LeO.bind ?_ (fun _ => ?_)
set_option maxHeartbeats 8000000 in
set_option maxRecDepth 100000 in
theorem mizmazelaw05_ColorAlike.calls (k : Nat) (A0_0 : Option Addr) (c0_0 : Nat) (l0_0 : List (List Int)) (A1 : Option Addr) (c1 : Nat) (l1 : List (List Int)) (A2 : Option Addr) (c2 : Nat) (l2 : List (List Int)) (r : Bool) (w : World) (hr0_0 : Kd.C (Kd.slice 3 (Kd.int .i64)) w A0_0 l0_0.length l0_0) (hc0_0 : l0_0.length ≤ c0_0) (hr1 : Kd.C (Kd.slice 3 (Kd.int .i64)) w A1 l1.length l1) (hc1 : l1.length ≤ c1) (hr2 : Kd.C (Kd.slice 3 (Kd.int .i64)) w A2 l2.length l2) (hc2 : l2.length ≤ c2) (h : mizmazelaw05_ColorAlike.f k l0_0 l1 l2 = some r) :
    Calls Try.prog 13 #[.agg #[.slice A0_0 l0_0.length c0_0], .slice A1 l1.length c1, .slice A2 l2.length c2] w fun e w' => e = .returned (.bool r) ∧ Below w.heap.size w w' := by
 have hu24 := Try.underlying24
 have HR0_0 := am hr0_0
 have HC0_0 := am hc0_0
 clear hr0_0 hc0_0
 have HR1 := am hr1
 have HC1 := am hc1
 clear hr1 hc1
 have HR2 := am hr2
 have HC2 := am hc2
 clear hr2 hc2
 have HB := am (Below.refl w.heap.size w)
 have H : ((mizmazeref01_Valid.f k l0_0).bind fun t687 => (if t687 = true then ((mizmazeref05_Perms.f k l0_0 l1).bind fun t688 => (if t688 = true then ((mizmazeref05_Perms.f k l0_0 l2).bind fun t689 => (mizmazelaw05_ColorAlike.j0 k l1 l2 (!t689) l0_0)) else (mizmazelaw05_ColorAlike.j0 k l1 l2 true l0_0))) else (mizmazelaw05_ColorAlike.j0 k l1 l2 true l0_0))) = some r := h
 clear h
 have HC4 := am H
 clear H
 go_enter Try.func13, Try.ntmps13
 go_upto_region 1 with (first | ((with_reducible refine gate_dst (N := 3) rfl ?_); refine box_event ?hg (N := 3) ?hd (cs := #[.slice A0_0 l0_0.length c0_0]) (t := 24) ?hr ?_; (case hd => rfl); (case hg => rfl); (case hr => first | (go_simp; done) | (go_simp; rfl)); intro gb686 hg w5 hbox hb; have BK686 := am (hbox); have GW686 := am ((by rw [hg]; exact (below_size (bw HB.out)) : w.heap.size ≤ gb686)); have GE686 := am ((by rw [hg]; exact (below_size (bw HB.out)) : w.heap.size ≤ gb686)); replace HB := am (below_step (bw HB.out) hb); clear hb hbox hg))
 (try simp only [Act.put, List.setIfInBounds_toArray, List.set_cons_zero, List.set_cons_succ])
 go_cut [35] (fun v35 wc => ∃ (kq : Nat) (x35_3 : Bool), v35 = .bool x35_3 ∧ Aside0 (mizmazelaw05_ColorAlike.j0 kq l1 l2 x35_3 l0_0 = some r) ∧ Aside0 (kq ≤ k) ∧ Aside0 (wc.heap[gb686]? = some (.cells #[(.slice A0_0 l0_0.length c0_0)] 24 (0, 0))) ∧ Aside0 (Below w.heap.size w wc))
 case first => as_aux_lemma =>
  have H := HC4.out
  clear HC4
  replace H := Option.bind_eq_some_iff.mp H
  obtain ⟨t687, A60, H⟩ := H
  replace H : (if t687 = true then ((mizmazeref05_Perms.f k l0_0 l1).bind fun t688 => (if t688 = true then ((mizmazeref05_Perms.f k l0_0 l2).bind fun t689 => (mizmazelaw05_ColorAlike.j0 k l1 l2 (!t689) l0_0)) else (mizmazelaw05_ColorAlike.j0 k l1 l2 true l0_0))) else (mizmazelaw05_ColorAlike.j0 k l1 l2 true l0_0)) = some r := H
  have A6 := am A60
  clear A60
  by_cases c7 : t687 = true
  rotate_left
  ·replace c7 := Bool.eq_false_iff.mpr c7
   subst c7
   have H1 : (mizmazelaw05_ColorAlike.j0 k l1 l2 true l0_0) = some r := by rw [if_neg (show ¬ (false = true) by decide)] at H; exact H
   clear H
   have H := H1
   clear H1
   have H' := am H
   clear H
   have hcz21_0 : w5.cell? ⟨gb686, 0, none⟩ = some (.slice A0_0 l0_0.length c0_0) := (blk_cell BK686.out 0).trans rfl
   have hfz21_0 := blk_frozen BK686.out 0
   go_wp2_with (first | ((with_reducible refine gate_callee (f := 18) rfl ?_); refine goesL_ (some 22) rfl rfl Try.func18 (by kernel_rfl) rfl #[.agg #[.slice A0_0 l0_0.length c0_0]] rfl zz1 ?_; (with_reducible refine (mizmazeref01_Valid.calls k _ _ l0_0 false _ ?side1 ?side2 A6.out).mono ?_); (case side1 => exact kc (Kd.C_below HR0_0.out HB.out)); (case side2 => exact HC0_0.out); rintro e w22 ⟨rfl, hb⟩; refine ⟨_, rfl, ?_⟩; replace BK686 := am (blk_below (g := gb686) (o := .cells #[.slice A0_0 l0_0.length c0_0] 24 (0, 0)) (kb BK686.out) hb); replace HB := am (below_step (bs HB.out) hb); (try clear hb); (try clear hb2); (try clear hk); (try clear hi)))
   go_meet
   case rel => exact ⟨_, (true), zz3, H', ⟨by first | omega | exact Nat.le_refl _⟩, ⟨kb BK686.out⟩, ⟨bs HB.out⟩⟩
  subst c7
  have H1 : ((mizmazeref05_Perms.f k l0_0 l1).bind fun t688 => (if t688 = true then ((mizmazeref05_Perms.f k l0_0 l2).bind fun t689 => (mizmazelaw05_ColorAlike.j0 k l1 l2 (!t689) l0_0)) else (mizmazelaw05_ColorAlike.j0 k l1 l2 true l0_0))) = some r := by rw [if_pos rfl] at H; exact H
  clear H
  have H := H1
  clear H1
  replace H := Option.bind_eq_some_iff.mp H
  obtain ⟨t688, A80, H⟩ := H
  replace H : (if t688 = true then ((mizmazeref05_Perms.f k l0_0 l2).bind fun t689 => (mizmazelaw05_ColorAlike.j0 k l1 l2 (!t689) l0_0)) else (mizmazelaw05_ColorAlike.j0 k l1 l2 true l0_0)) = some r := H
  have A8 := am A80
  clear A80
  by_cases c9 : t688 = true
  rotate_left
  ·replace c9 := Bool.eq_false_iff.mpr c9
   subst c9
   have H1 : (mizmazelaw05_ColorAlike.j0 k l1 l2 true l0_0) = some r := by rw [if_neg (show ¬ (false = true) by decide)] at H; exact H
   clear H
   have H := H1
   clear H1
   have H' := am H
   clear H
   have hcz17_0 : w5.cell? ⟨gb686, 0, none⟩ = some (.slice A0_0 l0_0.length c0_0) := (blk_cell BK686.out 0).trans rfl
   have hfz17_0 := blk_frozen BK686.out 0
   go_wp2_with (first | ((with_reducible refine gate_callee (f := 18) rfl ?_); refine goesL_ (some 22) rfl rfl Try.func18 (by kernel_rfl) rfl #[.agg #[.slice A0_0 l0_0.length c0_0]] rfl zz1 ?_; (with_reducible refine (mizmazeref01_Valid.calls k _ _ l0_0 true _ ?side1 ?side2 A6.out).mono ?_); (case side1 => exact kc (Kd.C_below HR0_0.out HB.out)); (case side2 => exact HC0_0.out); rintro e w18 ⟨rfl, hb⟩; refine ⟨_, rfl, ?_⟩; replace BK686 := am (blk_below (g := gb686) (o := .cells #[.slice A0_0 l0_0.length c0_0] 24 (0, 0)) (kb BK686.out) hb); replace HB := am (below_step (bs HB.out) hb); (try clear hb); (try clear hb2); (try clear hk); (try clear hi); have hcz19_0 : w18.cell? ⟨gb686, 0, none⟩ = some (.slice A0_0 l0_0.length c0_0) := (blk_cell BK686.out 0).trans rfl; have hfz19_0 := blk_frozen BK686.out 0) | (go_at_call 43; (with_reducible refine (mizmazeref05_Perms.calls k _ _ l0_0 _ _ l1 false _ ?side1 ?side2 ?side3 ?side4 A8.out).mono ?_); (case side1 => exact kc (Kd.C_below HR0_0.out HB.out)); (case side2 => exact HC0_0.out); (case side3 => exact kc (Kd.C_below HR1.out HB.out)); (case side4 => exact HC1.out); rintro e w20 ⟨rfl, hb⟩; replace BK686 := am (blk_below (g := gb686) (o := .cells #[.slice A0_0 l0_0.length c0_0] 24 (0, 0)) (kb BK686.out) hb); replace HB := am (below_step (bs HB.out) hb); (try clear hb); (try clear hb2); (try clear hk); (try clear hi)))
   go_meet
   case rel => exact ⟨_, (true), zz3, H', ⟨by first | omega | exact Nat.le_refl _⟩, ⟨kb BK686.out⟩, ⟨bs HB.out⟩⟩
  subst c9
  have H1 : ((mizmazeref05_Perms.f k l0_0 l2).bind fun t689 => (mizmazelaw05_ColorAlike.j0 k l1 l2 (!t689) l0_0)) = some r := by rw [if_pos rfl] at H; exact H
  clear H
  have H := H1
  clear H1
  replace H := Option.bind_eq_some_iff.mp H
  obtain ⟨t689, A100, H⟩ := H
  replace H : (mizmazelaw05_ColorAlike.j0 k l1 l2 (!t689) l0_0) = some r := H
  have A10 := am A100
  clear A100
  have H' := am H
  clear H
  have hcz11_0 : w5.cell? ⟨gb686, 0, none⟩ = some (.slice A0_0 l0_0.length c0_0) := (blk_cell BK686.out 0).trans rfl
  have hfz11_0 := blk_frozen BK686.out 0
  go_wp2_with (first | ((with_reducible refine gate_callee (f := 18) rfl ?_); refine goesL_ (some 22) rfl rfl Try.func18 (by kernel_rfl) rfl #[.agg #[.slice A0_0 l0_0.length c0_0]] rfl zz1 ?_; (with_reducible refine (mizmazeref01_Valid.calls k _ _ l0_0 true _ ?side1 ?side2 A6.out).mono ?_); (case side1 => exact kc (Kd.C_below HR0_0.out HB.out)); (case side2 => exact HC0_0.out); rintro e w12 ⟨rfl, hb⟩; refine ⟨_, rfl, ?_⟩; replace BK686 := am (blk_below (g := gb686) (o := .cells #[.slice A0_0 l0_0.length c0_0] 24 (0, 0)) (kb BK686.out) hb); replace HB := am (below_step (bs HB.out) hb); (try clear hb); (try clear hb2); (try clear hk); (try clear hi); have hcz13_0 : w12.cell? ⟨gb686, 0, none⟩ = some (.slice A0_0 l0_0.length c0_0) := (blk_cell BK686.out 0).trans rfl; have hfz13_0 := blk_frozen BK686.out 0) | (go_at_call 43; (with_reducible refine (mizmazeref05_Perms.calls k _ _ l0_0 _ _ l1 true _ ?side1 ?side2 ?side3 ?side4 A8.out).mono ?_); (case side1 => exact kc (Kd.C_below HR0_0.out HB.out)); (case side2 => exact HC0_0.out); (case side3 => exact kc (Kd.C_below HR1.out HB.out)); (case side4 => exact HC1.out); rintro e w14 ⟨rfl, hb⟩; replace BK686 := am (blk_below (g := gb686) (o := .cells #[.slice A0_0 l0_0.length c0_0] 24 (0, 0)) (kb BK686.out) hb); replace HB := am (below_step (bs HB.out) hb); (try clear hb); (try clear hb2); (try clear hk); (try clear hi); have hcz15_0 : w14.cell? ⟨gb686, 0, none⟩ = some (.slice A0_0 l0_0.length c0_0) := (blk_cell BK686.out 0).trans rfl; have hfz15_0 := blk_frozen BK686.out 0) | (go_at_call 43; (with_reducible refine (mizmazeref05_Perms.calls k _ _ l0_0 _ _ l2 t689 _ ?side1 ?side2 ?side3 ?side4 A10.out).mono ?_); (case side1 => exact kc (Kd.C_below HR0_0.out HB.out)); (case side2 => exact HC0_0.out); (case side3 => exact kc (Kd.C_below HR2.out HB.out)); (case side4 => exact HC2.out); rintro e w16 ⟨rfl, hb⟩; replace BK686 := am (blk_below (g := gb686) (o := .cells #[.slice A0_0 l0_0.length c0_0] 24 (0, 0)) (kb BK686.out) hb); replace HB := am (below_step (bs HB.out) hb); (try clear hb); (try clear hb2); (try clear hk); (try clear hi)))
  go_meet
  case rel => exact ⟨_, (!t689), zz3, H', ⟨by first | omega | exact Nat.le_refl _⟩, ⟨kb BK686.out⟩, ⟨bs HB.out⟩⟩
 case rest => as_aux_lemma =>
  clear HC4
  (try clear c1); (try clear c2); (try clear p2); (try clear c7); (try clear c9); (try clear c13); (try clear c18); (try clear hcz11_0); (try clear hcz13_0); (try clear hcz15_0); (try clear hcz17_0); (try clear hcz19_0); (try clear hcz21_0); (try clear hfz11_0); (try clear hfz13_0); (try clear hfz15_0); (try clear hfz17_0); (try clear hfz19_0); (try clear hfz21_0)
  obtain ⟨kq, x35_3, rfl, HA, HJ3, BK686, HB⟩ := hcut
  cases kq with
  | zero => exact absurd HA.out (by simp [mizmazelaw05_ColorAlike.j0])
  | succ kj3 =>
   have H := HA.out
   clear HA
   simp only [mizmazelaw05_ColorAlike.j0] at H
   by_cases c23 : x35_3 = true
   ·subst c23
    have H1 : ((mizmazelaw05_awake.f kj3).bind fun t690 => (some t690)) = some r := by rw [if_pos rfl] at H; exact H
    clear H
    have H := H1
    clear H1
    replace H := Option.bind_eq_some_iff.mp H
    obtain ⟨t690, A240, H⟩ := H
    replace H : (some t690) = some r := H
    have A24 := am A240
    clear A240
    obtain rfl := Option.some.inj H
    go_wp2_with (first | ((with_reducible refine gate_callee (f := 45) rfl ?_); refine goesL_ (some 36) rfl rfl Try.func45 (by kernel_rfl) rfl #[] rfl zz1 ?_; (with_reducible refine (mizmazelaw05_awake.calls kj3  t690 _ A24.out).mono ?_); rintro e w25 ⟨rfl, hb⟩; refine ⟨_, rfl, ?_⟩; replace BK686 := am (blk_below (g := gb686) (o := .cells #[.slice A0_0 l0_0.length c0_0] 24 (0, 0)) (kb BK686.out) hb); replace HB := am (below_step (bs HB.out) hb); (try clear hb); (try clear hb2); (try clear hk); (try clear hi)))
    go_ret
    exact ⟨by first | rfl | (simp [errW_none, errW_some] <;> rfl) | (simp [*, errW_none, errW_some] <;> rfl), bs HB.out⟩
   replace c23 := Bool.eq_false_iff.mpr c23
   subst c23
   have H1 : ((color_Colored.f kj3 l0_0 l1).bind fun bt691 => ((color_Colored.f kj3 bt691.1 l2).bind fun bt696 => (if bt691.2 = 0 then (if bt696.2 = 0 then ((mizmazelaw05_all.f kj3 l0_0 l0_0).bind fun t701 => (if t701 = true then ((mizmazelaw05_all.f kj3 l0_0 bt691.1).bind fun t702 => (if t702 = true then ((mizmazelaw05_all.f kj3 bt691.1 bt696.1).bind fun t703 => (if t703 = true then ((mizmazelaw05_all.f kj3 l0_0 bt696.1).bind fun t704 => (mizmazelaw05_ColorAlike.j1 kj3 (!t704) l0_0 bt696.1)) else (mizmazelaw05_ColorAlike.j1 kj3 true l0_0 bt696.1))) else (mizmazelaw05_ColorAlike.j1 kj3 true l0_0 bt696.1))) else (mizmazelaw05_ColorAlike.j1 kj3 true l0_0 bt696.1))) else (mizmazelaw05_ColorAlike.j1 kj3 true l0_0 bt696.1)) else (mizmazelaw05_ColorAlike.j1 kj3 true l0_0 bt696.1)))) = some r := by rw [if_neg (show ¬ (false = true) by decide)] at H; exact H
   clear H
   have H := H1
   clear H1
   replace H := Option.bind_eq_some_iff.mp H
   obtain ⟨⟨t691, t694⟩, A260, H⟩ := H
   replace H : ((color_Colored.f kj3 t691 l2).bind fun bt696 => (if t694 = 0 then (if bt696.2 = 0 then ((mizmazelaw05_all.f kj3 l0_0 l0_0).bind fun t701 => (if t701 = true then ((mizmazelaw05_all.f kj3 l0_0 t691).bind fun t702 => (if t702 = true then ((mizmazelaw05_all.f kj3 t691 bt696.1).bind fun t703 => (if t703 = true then ((mizmazelaw05_all.f kj3 l0_0 bt696.1).bind fun t704 => (mizmazelaw05_ColorAlike.j1 kj3 (!t704) l0_0 bt696.1)) else (mizmazelaw05_ColorAlike.j1 kj3 true l0_0 bt696.1))) else (mizmazelaw05_ColorAlike.j1 kj3 true l0_0 bt696.1))) else (mizmazelaw05_ColorAlike.j1 kj3 true l0_0 bt696.1))) else (mizmazelaw05_ColorAlike.j1 kj3 true l0_0 bt696.1)) else (mizmazelaw05_ColorAlike.j1 kj3 true l0_0 bt696.1))) = some r := H
   have A26 := am A260
   clear A260
   replace H := Option.bind_eq_some_iff.mp H
   obtain ⟨⟨t696, t699⟩, A270, H⟩ := H
   replace H : (if t694 = 0 then (if t699 = 0 then ((mizmazelaw05_all.f kj3 l0_0 l0_0).bind fun t701 => (if t701 = true then ((mizmazelaw05_all.f kj3 l0_0 t691).bind fun t702 => (if t702 = true then ((mizmazelaw05_all.f kj3 t691 t696).bind fun t703 => (if t703 = true then ((mizmazelaw05_all.f kj3 l0_0 t696).bind fun t704 => (mizmazelaw05_ColorAlike.j1 kj3 (!t704) l0_0 t696)) else (mizmazelaw05_ColorAlike.j1 kj3 true l0_0 t696))) else (mizmazelaw05_ColorAlike.j1 kj3 true l0_0 t696))) else (mizmazelaw05_ColorAlike.j1 kj3 true l0_0 t696))) else (mizmazelaw05_ColorAlike.j1 kj3 true l0_0 t696)) else (mizmazelaw05_ColorAlike.j1 kj3 true l0_0 t696)) = some r := H
   have A27 := am A270
   clear A270
   have HC28 := am H
   clear H
   have hcz29_0 : wc.cell? ⟨gb686, 0, none⟩ = some (.slice A0_0 l0_0.length c0_0) := (blk_cell BK686.out 0).trans rfl
   have hfz29_0 := blk_frozen BK686.out 0
   go_upto_region 5 with (first | ((with_reducible refine gate_callee (f := 41) rfl ?_); refine goesL_ (some 40) rfl rfl Try.func41 (by kernel_rfl) rfl #[.agg #[.slice A0_0 l0_0.length c0_0], .slice A1 l1.length c1] rfl zz1 ?_; (with_reducible refine (color_Colored.calls kj3 _ _ l0_0 _ _ l1 t691 t694 _ ?side1 ?side2 ?side3 ?side4 A26.out).mono ?_); (case side1 => exact kc (Kd.C_below HR0_0.out HB.out)); (case side2 => exact HC0_0.out); (case side3 => exact kc (Kd.C_below HR1.out HB.out)); (case side4 => exact HC1.out); rintro e w30 ⟨v692, rfl, ho0, hb⟩; refine ⟨_, rfl, ?_⟩; have HO693 := am (Kd.S_lower ho0 (below_size (bs HB.out))); replace BK686 := am (blk_below (g := gb686) (o := .cells #[.slice A0_0 l0_0.length c0_0] 24 (0, 0)) (kb BK686.out) hb); replace HB := am (below_step (bs HB.out) hb); (try clear hb); (try clear hb2); (try clear hk); (try clear hi); (try clear ho0)) | ((with_reducible refine gate_dst (N := 7) rfl ?_); refine box_event ?hg (N := 7) ?hd (cs := #[.slice none 0 0]) (t := 24) ?hr ?_; (case hd => rfl); (case hg => rfl); (case hr => first | (go_simp; done) | (go_simp; rfl)); intro gb695 hg w31 hbox hb; replace HO693 := am (Kd.S_below (kS HO693.out) hb); have BK695 := am (hbox); have GW695 := am ((by rw [hg]; exact (below_size (bs HB.out)) : w.heap.size ≤ gb695)); have GE695 := am ((by rw [hg]; exact (below_size (bs HB.out)) : w.heap.size ≤ gb695)); replace HB := am (below_step (bs HB.out) hb); have NB686_695 := am ((by rw [hg]; exact Nat.ne_of_lt (blk_lt (g := gb686) (o := .cells #[.slice A0_0 l0_0.length c0_0] 24 (0, 0)) (kb BK686.out)) : gb686 ≠ gb695)); have NB695_686 := am ((by rw [hg]; exact Nat.ne_of_gt (blk_lt (g := gb686) (o := .cells #[.slice A0_0 l0_0.length c0_0] 24 (0, 0)) (kb BK686.out)) : gb695 ≠ gb686)); replace BK686 := am (blk_below (g := gb686) (o := .cells #[.slice A0_0 l0_0.length c0_0] 24 (0, 0)) (kb BK686.out) hb); clear hb hbox hg; obtain ⟨Ao32, co32, eo32⟩ := Kd.S_slice HO693.out; subst eo32; have hnb33 := NB695_686.out; have hnc33 := NB686_695.out; have hcz34_0 : w31.cell? ⟨gb695, 0, none⟩ = some (.slice none 0 0) := (blk_cell BK695.out 0).trans rfl; have hfz34_0 := blk_frozen BK695.out 0) | ((with_reducible refine gate_callee (f := 41) rfl ?_); refine goesL_ (some 46) rfl rfl Try.func41 (by kernel_rfl) rfl #[.agg #[.slice Ao32 t691.length co32], .slice A2 l2.length c2] rfl zz1 ?_; (with_reducible refine (color_Colored.calls kj3 _ _ t691 _ _ l2 t696 t699 _ ?side1 ?side2 ?side3 ?side4 A27.out).mono ?_); (case side1 => refine (Kd.S_reads' (e := 28) (base := w.heap.size) (ok := fun k_ => True) (n := t691.length) (c := co32) ?_).2.2; exact (kS (Kd.S_mono (Kd.S_far (p := ⟨gb695, 0, none⟩) (Kd.S_types HO693.out BK695.out (by decide)) (fun _ hk => hk.2) (.slice Ao32 t691.length co32)) (fun _ h_ => h_.1)))); (case side2 => exact (Kd.S_reads' HO693.out).2.1); (case side3 => exact Kd.C_below HR2.out (bs HB.out)); (case side4 => exact HC2.out); rintro e w35 ⟨v697, rfl, ho0, hb⟩; refine ⟨_, rfl, ?_⟩; have HO698 := am (Kd.S_lower (Kd.S_new' ho0 (Kd.S_lt (kS (Kd.S_mono (Kd.S_far (p := ⟨gb695, 0, none⟩) (Kd.S_types HO693.out BK695.out (by decide)) (fun _ hk => hk.2) (.slice Ao32 t691.length co32)) (fun _ h_ => h_.1))))) (below_size (bs HB.out))); replace HO693 := am (Kd.S_elder' (kS (Kd.S_mono (Kd.S_far (p := ⟨gb695, 0, none⟩) (Kd.S_types HO693.out BK695.out (by decide)) (fun _ hk => hk.2) (.slice Ao32 t691.length co32)) (fun _ h_ => h_.1))) (Kd.S_base ho0) hb); replace BK686 := am (blk_below (g := gb686) (o := .cells #[.slice A0_0 l0_0.length c0_0] 24 (0, 0)) (by (with_reducible repeat (first | refine blk_drewN ?_ _ | refine blk_drew ?_ | refine blk_alloc ?_ _)); refine blk_far ?_ NB686_695.out _; (with_reducible repeat (first | refine blk_drewN ?_ _ | refine blk_drew ?_ | refine blk_alloc ?_ _)); exact BK686.out) hb); replace BK695 := am (blk_below (g := gb695) (o := .cells #[.slice Ao32 t691.length co32] 24 (0, 0)) (by (with_reducible repeat (first | refine blk_drewN ?_ _ | refine blk_drew ?_ | refine blk_alloc ?_ _)); refine blk_put (cs := #[.slice none 0 0]) ?_ 0 _ rfl; (with_reducible repeat (first | refine blk_drewN ?_ _ | refine blk_drew ?_ | refine blk_alloc ?_ _)); exact BK695.out) hb); replace HB := am (below_step (bs HB.out) hb); (try clear hb); (try clear hb2); (try clear hk); (try clear hi); (try clear ho0)) | ((with_reducible refine gate_dst (N := 9) rfl ?_); refine box_event ?hg (N := 9) ?hd (cs := #[.slice none 0 0]) (t := 24) ?hr ?_; (case hd => rfl); (case hg => rfl); (case hr => first | (go_simp; done) | (go_simp; rfl)); intro gb700 hg w36 hbox hb; replace HO693 := am (Kd.S_below (kS HO693.out) hb); replace HO698 := am (Kd.S_below (kS HO698.out) hb); have BK700 := am (hbox); have GW700 := am ((by rw [hg]; exact (below_size (bs HB.out)) : w.heap.size ≤ gb700)); have GE700 := am ((by rw [hg]; exact (below_size (bs HB.out)) : w.heap.size ≤ gb700)); replace HB := am (below_step (bs HB.out) hb); have NB686_700 := am ((by rw [hg]; exact Nat.ne_of_lt (blk_lt (g := gb686) (o := .cells #[.slice A0_0 l0_0.length c0_0] 24 (0, 0)) (kb BK686.out)) : gb686 ≠ gb700)); have NB700_686 := am ((by rw [hg]; exact Nat.ne_of_gt (blk_lt (g := gb686) (o := .cells #[.slice A0_0 l0_0.length c0_0] 24 (0, 0)) (kb BK686.out)) : gb700 ≠ gb686)); replace BK686 := am (blk_below (g := gb686) (o := .cells #[.slice A0_0 l0_0.length c0_0] 24 (0, 0)) (kb BK686.out) hb); have NB695_700 := am ((by rw [hg]; exact Nat.ne_of_lt (blk_lt (g := gb695) (o := .cells #[.slice Ao32 t691.length co32] 24 (0, 0)) (kb BK695.out)) : gb695 ≠ gb700)); have NB700_695 := am ((by rw [hg]; exact Nat.ne_of_gt (blk_lt (g := gb695) (o := .cells #[.slice Ao32 t691.length co32] 24 (0, 0)) (kb BK695.out)) : gb700 ≠ gb695)); replace BK695 := am (blk_below (g := gb695) (o := .cells #[.slice Ao32 t691.length co32] 24 (0, 0)) (kb BK695.out) hb); clear hb hbox hg; obtain ⟨Ao37, co37, eo37⟩ := Kd.S_slice HO698.out; subst eo37; have hnb38 := NB700_686.out; have hnc38 := NB686_700.out; have hnb39 := NB700_695.out; have hnc39 := NB695_700.out; have hcz40_0 : w36.cell? ⟨gb700, 0, none⟩ = some (.slice none 0 0) := (blk_cell BK700.out 0).trans rfl; have hfz40_0 := blk_frozen BK700.out 0))
   (try simp only [Act.put, List.setIfInBounds_toArray, List.set_cons_zero, List.set_cons_succ])
   go_cut [78] (fun v78 wc => ∃ (kq : Nat) (x78_27 : Bool), v78 = .bool x78_27 ∧ Aside0 (mizmazelaw05_ColorAlike.j1 kq x78_27 l0_0 t696 = some r) ∧ Aside0 (kq ≤ kj3) ∧ Aside0 (Kd.S (Kd.slice 3 (Kd.int .i64)) 28 wc w.heap.size (fun k_ => some k_ ≠ ((.slice Ao37 t696.length co37) : Value).ownBlock) (.slice Ao32 t691.length co32) t691) ∧ Aside0 (Kd.S (Kd.slice 3 (Kd.int .i64)) 28 wc w.heap.size (fun k_ => some k_ ≠ ((.slice Ao32 t691.length co32) : Value).ownBlock) (.slice Ao37 t696.length co37) t696) ∧ Aside0 (wc.heap[gb686]? = some (.cells #[(.slice A0_0 l0_0.length c0_0)] 24 (0, 0))) ∧ Aside0 (wc.heap[gb695]? = some (.cells #[(.slice Ao32 t691.length co32)] 24 (0, 0))) ∧ Aside0 (wc.heap[gb700]? = some (.cells #[(.slice Ao37 t696.length co37)] 24 (0, 0))) ∧ Aside0 (Below w.heap.size w wc))
   case first => as_aux_lemma =>
    have H := HC28.out
    clear HC28
    by_cases c41 : t694 = 0
    rotate_left
    ·rw [if_neg c41] at H
     have c41b0 : (t694 == 0) = false := beq_eq_false_iff_ne.mpr c41
     have c41b1 : (t694 != 0) = true := bne_iff_ne.mpr c41
     (first | rw [c41b0] | (simp only [i64_w, i32_w]; rw [c41b0]) | skip)
     have H' := am H
     clear H
     go_wp2
     go_meet
     case rel => exact ⟨_, (true), zz3, H', ⟨by have := HJ3.out; first | omega | exact Nat.le_refl _⟩, ⟨kS (Kd.S_mono (Kd.S_far (p := ⟨gb700, 0, none⟩) (Kd.S_types HO693.out BK700.out (by decide)) (fun _ hk => hk.2) (.slice Ao37 t696.length co37)) (fun _ hk => hk.1.2))⟩, ⟨kS (Kd.S_mono (Kd.S_far (p := ⟨gb700, 0, none⟩) (Kd.S_types HO698.out BK700.out (by decide)) (fun _ hk => hk.2) (.slice Ao37 t696.length co37)) (fun _ hk => hk.1.2))⟩, ⟨by (with_reducible repeat (first | refine blk_drewN ?_ _ | refine blk_drew ?_ | refine blk_alloc ?_ _)); refine blk_far ?_ NB686_700.out _; (with_reducible repeat (first | refine blk_drewN ?_ _ | refine blk_drew ?_ | refine blk_alloc ?_ _)); exact BK686.out⟩, ⟨by (with_reducible repeat (first | refine blk_drewN ?_ _ | refine blk_drew ?_ | refine blk_alloc ?_ _)); refine blk_far ?_ NB695_700.out _; (with_reducible repeat (first | refine blk_drewN ?_ _ | refine blk_drew ?_ | refine blk_alloc ?_ _)); exact BK695.out⟩, ⟨by (with_reducible repeat (first | refine blk_drewN ?_ _ | refine blk_drew ?_ | refine blk_alloc ?_ _)); refine blk_put (cs := #[.slice none 0 0]) ?_ 0 _ rfl; (with_reducible repeat (first | refine blk_drewN ?_ _ | refine blk_drew ?_ | refine blk_alloc ?_ _)); exact BK700.out⟩, ⟨bs HB.out⟩⟩
    rw [if_pos c41] at H
    have c41b0 : (t694 == 0) = true := beq_iff_eq.mpr c41
    have c41b1 : (t694 != 0) = false := bne_eq_false_iff_eq.mpr c41
    clear c41
    (first | rw [c41b0] | (simp only [i64_w, i32_w]; rw [c41b0]) | skip)
    by_cases c42 : t699 = 0
    rotate_left
    ·rw [if_neg c42] at H
     have c42b0 : (t699 == 0) = false := beq_eq_false_iff_ne.mpr c42
     have c42b1 : (t699 != 0) = true := bne_iff_ne.mpr c42
     have H' := am H
     clear H
     go_wp2
     go_meet
     case rel => exact ⟨_, (true), zz3, H', ⟨by have := HJ3.out; first | omega | exact Nat.le_refl _⟩, ⟨kS (Kd.S_mono (Kd.S_far (p := ⟨gb700, 0, none⟩) (Kd.S_types HO693.out BK700.out (by decide)) (fun _ hk => hk.2) (.slice Ao37 t696.length co37)) (fun _ hk => hk.1.2))⟩, ⟨kS (Kd.S_mono (Kd.S_far (p := ⟨gb700, 0, none⟩) (Kd.S_types HO698.out BK700.out (by decide)) (fun _ hk => hk.2) (.slice Ao37 t696.length co37)) (fun _ hk => hk.1.2))⟩, ⟨by (with_reducible repeat (first | refine blk_drewN ?_ _ | refine blk_drew ?_ | refine blk_alloc ?_ _)); refine blk_far ?_ NB686_700.out _; (with_reducible repeat (first | refine blk_drewN ?_ _ | refine blk_drew ?_ | refine blk_alloc ?_ _)); exact BK686.out⟩, ⟨by (with_reducible repeat (first | refine blk_drewN ?_ _ | refine blk_drew ?_ | refine blk_alloc ?_ _)); refine blk_far ?_ NB695_700.out _; (with_reducible repeat (first | refine blk_drewN ?_ _ | refine blk_drew ?_ | refine blk_alloc ?_ _)); exact BK695.out⟩, ⟨by (with_reducible repeat (first | refine blk_drewN ?_ _ | refine blk_drew ?_ | refine blk_alloc ?_ _)); refine blk_put (cs := #[.slice none 0 0]) ?_ 0 _ rfl; (with_reducible repeat (first | refine blk_drewN ?_ _ | refine blk_drew ?_ | refine blk_alloc ?_ _)); exact BK700.out⟩, ⟨bs HB.out⟩⟩
    rw [if_pos c42] at H
    have c42b0 : (t699 == 0) = true := beq_iff_eq.mpr c42
    have c42b1 : (t699 != 0) = false := bne_eq_false_iff_eq.mpr c42
    clear c42
    replace H := Option.bind_eq_some_iff.mp H
    obtain ⟨t701, A430, H⟩ := H
    replace H : (if t701 = true then ((mizmazelaw05_all.f kj3 l0_0 t691).bind fun t702 => (if t702 = true then ((mizmazelaw05_all.f kj3 t691 t696).bind fun t703 => (if t703 = true then ((mizmazelaw05_all.f kj3 l0_0 t696).bind fun t704 => (mizmazelaw05_ColorAlike.j1 kj3 (!t704) l0_0 t696)) else (mizmazelaw05_ColorAlike.j1 kj3 true l0_0 t696))) else (mizmazelaw05_ColorAlike.j1 kj3 true l0_0 t696))) else (mizmazelaw05_ColorAlike.j1 kj3 true l0_0 t696)) = some r := H
    have A43 := am A430
    clear A430
    by_cases c44 : t701 = true
    rotate_left
    ·replace c44 := Bool.eq_false_iff.mpr c44
     subst c44
     have H1 : (mizmazelaw05_ColorAlike.j1 kj3 true l0_0 t696) = some r := by rw [if_neg (show ¬ (false = true) by decide)] at H; exact H
     clear H
     have H := H1
     clear H1
     have H' := am H
     clear H
     have hnb83 := NB686_695.out
     have hnc83 := NB695_686.out
     have hnb84 := NB686_700.out
     have hnc84 := NB700_686.out
     have hcz85_0 : w36.cell? ⟨gb686, 0, none⟩ = some (.slice A0_0 l0_0.length c0_0) := (blk_cell BK686.out 0).trans rfl
     have hfz85_0 := blk_frozen BK686.out 0
     go_wp2_with (first | (go_at_call 53; (with_reducible refine (mizmazelaw05_all.calls kj3 _ _ l0_0 _ _ l0_0 false _ ?side1 ?side2 ?side3 ?side4 A43.out).mono ?_); (case side1 => exact Kd.C_below HR0_0.out (bs HB.out)); (case side2 => exact HC0_0.out); (case side3 => exact Kd.C_below HR0_0.out (bs HB.out)); (case side4 => exact HC0_0.out); rintro e w86 ⟨rfl, hb⟩; replace HO693 := am (Kd.S_below (kS (Kd.S_mono (Kd.S_far (p := ⟨gb700, 0, none⟩) (Kd.S_types HO693.out BK700.out (by decide)) (fun _ hk => hk.2) (.slice Ao37 t696.length co37)) (fun _ h_ => h_.1))) hb); replace HO698 := am (Kd.S_below (kS (Kd.S_mono (Kd.S_far (p := ⟨gb700, 0, none⟩) (Kd.S_types HO698.out BK700.out (by decide)) (fun _ hk => hk.2) (.slice Ao37 t696.length co37)) (fun _ h_ => h_.1))) hb); replace BK686 := am (blk_below (g := gb686) (o := .cells #[.slice A0_0 l0_0.length c0_0] 24 (0, 0)) (by (with_reducible repeat (first | refine blk_drewN ?_ _ | refine blk_drew ?_ | refine blk_alloc ?_ _)); refine blk_far ?_ NB686_700.out _; (with_reducible repeat (first | refine blk_drewN ?_ _ | refine blk_drew ?_ | refine blk_alloc ?_ _)); exact BK686.out) hb); replace BK695 := am (blk_below (g := gb695) (o := .cells #[.slice Ao32 t691.length co32] 24 (0, 0)) (by (with_reducible repeat (first | refine blk_drewN ?_ _ | refine blk_drew ?_ | refine blk_alloc ?_ _)); refine blk_far ?_ NB695_700.out _; (with_reducible repeat (first | refine blk_drewN ?_ _ | refine blk_drew ?_ | refine blk_alloc ?_ _)); exact BK695.out) hb); replace BK700 := am (blk_below (g := gb700) (o := .cells #[.slice Ao37 t696.length co37] 24 (0, 0)) (by (with_reducible repeat (first | refine blk_drewN ?_ _ | refine blk_drew ?_ | refine blk_alloc ?_ _)); refine blk_put (cs := #[.slice none 0 0]) ?_ 0 _ rfl; (with_reducible repeat (first | refine blk_drewN ?_ _ | refine blk_drew ?_ | refine blk_alloc ?_ _)); exact BK700.out) hb); replace HB := am (below_step (bs HB.out) hb); (try clear hb); (try clear hb2); (try clear hk); (try clear hi)))
     go_meet
     case rel => exact ⟨_, (true), zz3, H', ⟨by have := HJ3.out; first | omega | exact Nat.le_refl _⟩, ⟨kS (Kd.S_mono HO693.out (fun _ hk => hk.2))⟩, ⟨kS (Kd.S_mono HO698.out (fun _ hk => hk.2))⟩, ⟨kb BK686.out⟩, ⟨kb BK695.out⟩, ⟨kb BK700.out⟩, ⟨bs HB.out⟩⟩
    subst c44
    have H1 : ((mizmazelaw05_all.f kj3 l0_0 t691).bind fun t702 => (if t702 = true then ((mizmazelaw05_all.f kj3 t691 t696).bind fun t703 => (if t703 = true then ((mizmazelaw05_all.f kj3 l0_0 t696).bind fun t704 => (mizmazelaw05_ColorAlike.j1 kj3 (!t704) l0_0 t696)) else (mizmazelaw05_ColorAlike.j1 kj3 true l0_0 t696))) else (mizmazelaw05_ColorAlike.j1 kj3 true l0_0 t696))) = some r := by rw [if_pos rfl] at H; exact H
    clear H
    have H := H1
    clear H1
    replace H := Option.bind_eq_some_iff.mp H
    obtain ⟨t702, A450, H⟩ := H
    replace H : (if t702 = true then ((mizmazelaw05_all.f kj3 t691 t696).bind fun t703 => (if t703 = true then ((mizmazelaw05_all.f kj3 l0_0 t696).bind fun t704 => (mizmazelaw05_ColorAlike.j1 kj3 (!t704) l0_0 t696)) else (mizmazelaw05_ColorAlike.j1 kj3 true l0_0 t696))) else (mizmazelaw05_ColorAlike.j1 kj3 true l0_0 t696)) = some r := H
    have A45 := am A450
    clear A450
    by_cases c46 : t702 = true
    rotate_left
    ·replace c46 := Bool.eq_false_iff.mpr c46
     subst c46
     have H1 : (mizmazelaw05_ColorAlike.j1 kj3 true l0_0 t696) = some r := by rw [if_neg (show ¬ (false = true) by decide)] at H; exact H
     clear H
     have H := H1
     clear H1
     have H' := am H
     clear H
     have hnb75 := NB686_695.out
     have hnc75 := NB695_686.out
     have hnb76 := NB686_700.out
     have hnc76 := NB700_686.out
     have hcz77_0 : w36.cell? ⟨gb686, 0, none⟩ = some (.slice A0_0 l0_0.length c0_0) := (blk_cell BK686.out 0).trans rfl
     have hfz77_0 := blk_frozen BK686.out 0
     go_wp2_with (first | (go_at_call 53; (with_reducible refine (mizmazelaw05_all.calls kj3 _ _ l0_0 _ _ l0_0 true _ ?side1 ?side2 ?side3 ?side4 A43.out).mono ?_); (case side1 => exact Kd.C_below HR0_0.out (bs HB.out)); (case side2 => exact HC0_0.out); (case side3 => exact Kd.C_below HR0_0.out (bs HB.out)); (case side4 => exact HC0_0.out); rintro e w78 ⟨rfl, hb⟩; replace HO693 := am (Kd.S_below (kS (Kd.S_mono (Kd.S_far (p := ⟨gb700, 0, none⟩) (Kd.S_types HO693.out BK700.out (by decide)) (fun _ hk => hk.2) (.slice Ao37 t696.length co37)) (fun _ h_ => h_.1))) hb); replace HO698 := am (Kd.S_below (kS (Kd.S_mono (Kd.S_far (p := ⟨gb700, 0, none⟩) (Kd.S_types HO698.out BK700.out (by decide)) (fun _ hk => hk.2) (.slice Ao37 t696.length co37)) (fun _ h_ => h_.1))) hb); replace BK686 := am (blk_below (g := gb686) (o := .cells #[.slice A0_0 l0_0.length c0_0] 24 (0, 0)) (by (with_reducible repeat (first | refine blk_drewN ?_ _ | refine blk_drew ?_ | refine blk_alloc ?_ _)); refine blk_far ?_ NB686_700.out _; (with_reducible repeat (first | refine blk_drewN ?_ _ | refine blk_drew ?_ | refine blk_alloc ?_ _)); exact BK686.out) hb); replace BK695 := am (blk_below (g := gb695) (o := .cells #[.slice Ao32 t691.length co32] 24 (0, 0)) (by (with_reducible repeat (first | refine blk_drewN ?_ _ | refine blk_drew ?_ | refine blk_alloc ?_ _)); refine blk_far ?_ NB695_700.out _; (with_reducible repeat (first | refine blk_drewN ?_ _ | refine blk_drew ?_ | refine blk_alloc ?_ _)); exact BK695.out) hb); replace BK700 := am (blk_below (g := gb700) (o := .cells #[.slice Ao37 t696.length co37] 24 (0, 0)) (by (with_reducible repeat (first | refine blk_drewN ?_ _ | refine blk_drew ?_ | refine blk_alloc ?_ _)); refine blk_put (cs := #[.slice none 0 0]) ?_ 0 _ rfl; (with_reducible repeat (first | refine blk_drewN ?_ _ | refine blk_drew ?_ | refine blk_alloc ?_ _)); exact BK700.out) hb); replace HB := am (below_step (bs HB.out) hb); (try clear hb); (try clear hb2); (try clear hk); (try clear hi); have hcz79_0 : w78.cell? ⟨gb686, 0, none⟩ = some (.slice A0_0 l0_0.length c0_0) := (blk_cell BK686.out 0).trans rfl; have hfz79_0 := blk_frozen BK686.out 0; have hnb80 := NB695_700.out; have hnc80 := NB700_695.out; have hcz81_0 : w78.cell? ⟨gb695, 0, none⟩ = some (.slice Ao32 t691.length co32) := (blk_cell BK695.out 0).trans rfl; have hfz81_0 := blk_frozen BK695.out 0) | (go_at_call 53; (with_reducible refine (mizmazelaw05_all.calls kj3 _ _ l0_0 _ _ t691 false _ ?side1 ?side2 ?side3 ?side4 A45.out).mono ?_); (case side1 => exact kc (Kd.C_below HR0_0.out HB.out)); (case side2 => exact HC0_0.out); (case side3 => repeat (first | exact (Kd.S_reads' HO693.out).2.2 | (with_reducible refine Kd.C_alloc ?_ _) | (with_reducible refine Kd.C_drewN ?_ _) | (with_reducible refine Kd.C_drew ?_))); (case side4 => exact (Kd.S_reads' HO693.out).2.1); rintro e w82 ⟨rfl, hb⟩; replace HO693 := am (Kd.S_below (kS HO693.out) hb); replace HO698 := am (Kd.S_below (kS HO698.out) hb); replace BK686 := am (blk_below (g := gb686) (o := .cells #[.slice A0_0 l0_0.length c0_0] 24 (0, 0)) (kb BK686.out) hb); replace BK695 := am (blk_below (g := gb695) (o := .cells #[.slice Ao32 t691.length co32] 24 (0, 0)) (kb BK695.out) hb); replace BK700 := am (blk_below (g := gb700) (o := .cells #[.slice Ao37 t696.length co37] 24 (0, 0)) (kb BK700.out) hb); replace HB := am (below_step (bs HB.out) hb); (try clear hb); (try clear hb2); (try clear hk); (try clear hi)))
     go_meet
     case rel => exact ⟨_, (true), zz3, H', ⟨by have := HJ3.out; first | omega | exact Nat.le_refl _⟩, ⟨kS (Kd.S_mono HO693.out (fun _ hk => hk.2))⟩, ⟨kS (Kd.S_mono HO698.out (fun _ hk => hk.2))⟩, ⟨kb BK686.out⟩, ⟨kb BK695.out⟩, ⟨kb BK700.out⟩, ⟨bs HB.out⟩⟩
    subst c46
    have H1 : ((mizmazelaw05_all.f kj3 t691 t696).bind fun t703 => (if t703 = true then ((mizmazelaw05_all.f kj3 l0_0 t696).bind fun t704 => (mizmazelaw05_ColorAlike.j1 kj3 (!t704) l0_0 t696)) else (mizmazelaw05_ColorAlike.j1 kj3 true l0_0 t696))) = some r := by rw [if_pos rfl] at H; exact H
    clear H
    have H := H1
    clear H1
    replace H := Option.bind_eq_some_iff.mp H
    obtain ⟨t703, A470, H⟩ := H
    replace H : (if t703 = true then ((mizmazelaw05_all.f kj3 l0_0 t696).bind fun t704 => (mizmazelaw05_ColorAlike.j1 kj3 (!t704) l0_0 t696)) else (mizmazelaw05_ColorAlike.j1 kj3 true l0_0 t696)) = some r := H
    have A47 := am A470
    clear A470
    by_cases c48 : t703 = true
    rotate_left
    ·replace c48 := Bool.eq_false_iff.mpr c48
     subst c48
     have H1 : (mizmazelaw05_ColorAlike.j1 kj3 true l0_0 t696) = some r := by rw [if_neg (show ¬ (false = true) by decide)] at H; exact H
     clear H
     have H := H1
     clear H1
     have H' := am H
     clear H
     have hnb64 := NB686_695.out
     have hnc64 := NB695_686.out
     have hnb65 := NB686_700.out
     have hnc65 := NB700_686.out
     have hcz66_0 : w36.cell? ⟨gb686, 0, none⟩ = some (.slice A0_0 l0_0.length c0_0) := (blk_cell BK686.out 0).trans rfl
     have hfz66_0 := blk_frozen BK686.out 0
     go_wp2_with (first | (go_at_call 53; (with_reducible refine (mizmazelaw05_all.calls kj3 _ _ l0_0 _ _ l0_0 true _ ?side1 ?side2 ?side3 ?side4 A43.out).mono ?_); (case side1 => exact Kd.C_below HR0_0.out (bs HB.out)); (case side2 => exact HC0_0.out); (case side3 => exact Kd.C_below HR0_0.out (bs HB.out)); (case side4 => exact HC0_0.out); rintro e w67 ⟨rfl, hb⟩; replace HO693 := am (Kd.S_below (kS (Kd.S_mono (Kd.S_far (p := ⟨gb700, 0, none⟩) (Kd.S_types HO693.out BK700.out (by decide)) (fun _ hk => hk.2) (.slice Ao37 t696.length co37)) (fun _ h_ => h_.1))) hb); replace HO698 := am (Kd.S_below (kS (Kd.S_mono (Kd.S_far (p := ⟨gb700, 0, none⟩) (Kd.S_types HO698.out BK700.out (by decide)) (fun _ hk => hk.2) (.slice Ao37 t696.length co37)) (fun _ h_ => h_.1))) hb); replace BK686 := am (blk_below (g := gb686) (o := .cells #[.slice A0_0 l0_0.length c0_0] 24 (0, 0)) (by (with_reducible repeat (first | refine blk_drewN ?_ _ | refine blk_drew ?_ | refine blk_alloc ?_ _)); refine blk_far ?_ NB686_700.out _; (with_reducible repeat (first | refine blk_drewN ?_ _ | refine blk_drew ?_ | refine blk_alloc ?_ _)); exact BK686.out) hb); replace BK695 := am (blk_below (g := gb695) (o := .cells #[.slice Ao32 t691.length co32] 24 (0, 0)) (by (with_reducible repeat (first | refine blk_drewN ?_ _ | refine blk_drew ?_ | refine blk_alloc ?_ _)); refine blk_far ?_ NB695_700.out _; (with_reducible repeat (first | refine blk_drewN ?_ _ | refine blk_drew ?_ | refine blk_alloc ?_ _)); exact BK695.out) hb); replace BK700 := am (blk_below (g := gb700) (o := .cells #[.slice Ao37 t696.length co37] 24 (0, 0)) (by (with_reducible repeat (first | refine blk_drewN ?_ _ | refine blk_drew ?_ | refine blk_alloc ?_ _)); refine blk_put (cs := #[.slice none 0 0]) ?_ 0 _ rfl; (with_reducible repeat (first | refine blk_drewN ?_ _ | refine blk_drew ?_ | refine blk_alloc ?_ _)); exact BK700.out) hb); replace HB := am (below_step (bs HB.out) hb); (try clear hb); (try clear hb2); (try clear hk); (try clear hi); have hcz68_0 : w67.cell? ⟨gb686, 0, none⟩ = some (.slice A0_0 l0_0.length c0_0) := (blk_cell BK686.out 0).trans rfl; have hfz68_0 := blk_frozen BK686.out 0; have hnb69 := NB695_700.out; have hnc69 := NB700_695.out; have hcz70_0 : w67.cell? ⟨gb695, 0, none⟩ = some (.slice Ao32 t691.length co32) := (blk_cell BK695.out 0).trans rfl; have hfz70_0 := blk_frozen BK695.out 0) | (go_at_call 53; (with_reducible refine (mizmazelaw05_all.calls kj3 _ _ l0_0 _ _ t691 true _ ?side1 ?side2 ?side3 ?side4 A45.out).mono ?_); (case side1 => exact kc (Kd.C_below HR0_0.out HB.out)); (case side2 => exact HC0_0.out); (case side3 => repeat (first | exact (Kd.S_reads' HO693.out).2.2 | (with_reducible refine Kd.C_alloc ?_ _) | (with_reducible refine Kd.C_drewN ?_ _) | (with_reducible refine Kd.C_drew ?_))); (case side4 => exact (Kd.S_reads' HO693.out).2.1); rintro e w71 ⟨rfl, hb⟩; replace HO693 := am (Kd.S_below (kS HO693.out) hb); replace HO698 := am (Kd.S_below (kS HO698.out) hb); replace BK686 := am (blk_below (g := gb686) (o := .cells #[.slice A0_0 l0_0.length c0_0] 24 (0, 0)) (kb BK686.out) hb); replace BK695 := am (blk_below (g := gb695) (o := .cells #[.slice Ao32 t691.length co32] 24 (0, 0)) (kb BK695.out) hb); replace BK700 := am (blk_below (g := gb700) (o := .cells #[.slice Ao37 t696.length co37] 24 (0, 0)) (kb BK700.out) hb); replace HB := am (below_step (bs HB.out) hb); (try clear hb); (try clear hb2); (try clear hk); (try clear hi); have hcz72_0 : w71.cell? ⟨gb695, 0, none⟩ = some (.slice Ao32 t691.length co32) := (blk_cell BK695.out 0).trans rfl; have hfz72_0 := blk_frozen BK695.out 0; have hcz73_0 : w71.cell? ⟨gb700, 0, none⟩ = some (.slice Ao37 t696.length co37) := (blk_cell BK700.out 0).trans rfl; have hfz73_0 := blk_frozen BK700.out 0) | (go_at_call 53; (with_reducible refine (mizmazelaw05_all.calls kj3 _ _ t691 _ _ t696 false _ ?side1 ?side2 ?side3 ?side4 A47.out).mono ?_); (case side1 => repeat (first | exact (Kd.S_reads' HO693.out).2.2 | (with_reducible refine Kd.C_alloc ?_ _) | (with_reducible refine Kd.C_drewN ?_ _) | (with_reducible refine Kd.C_drew ?_))); (case side2 => exact (Kd.S_reads' HO693.out).2.1); (case side3 => repeat (first | exact (Kd.S_reads' HO698.out).2.2 | (with_reducible refine Kd.C_alloc ?_ _) | (with_reducible refine Kd.C_drewN ?_ _) | (with_reducible refine Kd.C_drew ?_))); (case side4 => exact (Kd.S_reads' HO698.out).2.1); rintro e w74 ⟨rfl, hb⟩; replace HO693 := am (Kd.S_below (kS HO693.out) hb); replace HO698 := am (Kd.S_below (kS HO698.out) hb); replace BK686 := am (blk_below (g := gb686) (o := .cells #[.slice A0_0 l0_0.length c0_0] 24 (0, 0)) (kb BK686.out) hb); replace BK695 := am (blk_below (g := gb695) (o := .cells #[.slice Ao32 t691.length co32] 24 (0, 0)) (kb BK695.out) hb); replace BK700 := am (blk_below (g := gb700) (o := .cells #[.slice Ao37 t696.length co37] 24 (0, 0)) (kb BK700.out) hb); replace HB := am (below_step (bs HB.out) hb); (try clear hb); (try clear hb2); (try clear hk); (try clear hi)))
     go_meet
     case rel => exact ⟨_, (true), zz3, H', ⟨by have := HJ3.out; first | omega | exact Nat.le_refl _⟩, ⟨kS (Kd.S_mono HO693.out (fun _ hk => hk.2))⟩, ⟨kS (Kd.S_mono HO698.out (fun _ hk => hk.2))⟩, ⟨kb BK686.out⟩, ⟨kb BK695.out⟩, ⟨kb BK700.out⟩, ⟨bs HB.out⟩⟩
    subst c48
    have H1 : ((mizmazelaw05_all.f kj3 l0_0 t696).bind fun t704 => (mizmazelaw05_ColorAlike.j1 kj3 (!t704) l0_0 t696)) = some r := by rw [if_pos rfl] at H; exact H
    clear H
    have H := H1
    clear H1
    replace H := Option.bind_eq_some_iff.mp H
    obtain ⟨t704, A490, H⟩ := H
    replace H : (mizmazelaw05_ColorAlike.j1 kj3 (!t704) l0_0 t696) = some r := H
    have A49 := am A490
    clear A490
    have H' := am H
    clear H
    have hnb50 := NB686_695.out
    have hnc50 := NB695_686.out
    have hnb51 := NB686_700.out
    have hnc51 := NB700_686.out
    have hcz52_0 : w36.cell? ⟨gb686, 0, none⟩ = some (.slice A0_0 l0_0.length c0_0) := (blk_cell BK686.out 0).trans rfl
    have hfz52_0 := blk_frozen BK686.out 0
    go_wp2_with (first | (go_at_call 53; (with_reducible refine (mizmazelaw05_all.calls kj3 _ _ l0_0 _ _ l0_0 true _ ?side1 ?side2 ?side3 ?side4 A43.out).mono ?_); (case side1 => exact Kd.C_below HR0_0.out (bs HB.out)); (case side2 => exact HC0_0.out); (case side3 => exact Kd.C_below HR0_0.out (bs HB.out)); (case side4 => exact HC0_0.out); rintro e w53 ⟨rfl, hb⟩; replace HO693 := am (Kd.S_below (kS (Kd.S_mono (Kd.S_far (p := ⟨gb700, 0, none⟩) (Kd.S_types HO693.out BK700.out (by decide)) (fun _ hk => hk.2) (.slice Ao37 t696.length co37)) (fun _ h_ => h_.1))) hb); replace HO698 := am (Kd.S_below (kS (Kd.S_mono (Kd.S_far (p := ⟨gb700, 0, none⟩) (Kd.S_types HO698.out BK700.out (by decide)) (fun _ hk => hk.2) (.slice Ao37 t696.length co37)) (fun _ h_ => h_.1))) hb); replace BK686 := am (blk_below (g := gb686) (o := .cells #[.slice A0_0 l0_0.length c0_0] 24 (0, 0)) (by (with_reducible repeat (first | refine blk_drewN ?_ _ | refine blk_drew ?_ | refine blk_alloc ?_ _)); refine blk_far ?_ NB686_700.out _; (with_reducible repeat (first | refine blk_drewN ?_ _ | refine blk_drew ?_ | refine blk_alloc ?_ _)); exact BK686.out) hb); replace BK695 := am (blk_below (g := gb695) (o := .cells #[.slice Ao32 t691.length co32] 24 (0, 0)) (by (with_reducible repeat (first | refine blk_drewN ?_ _ | refine blk_drew ?_ | refine blk_alloc ?_ _)); refine blk_far ?_ NB695_700.out _; (with_reducible repeat (first | refine blk_drewN ?_ _ | refine blk_drew ?_ | refine blk_alloc ?_ _)); exact BK695.out) hb); replace BK700 := am (blk_below (g := gb700) (o := .cells #[.slice Ao37 t696.length co37] 24 (0, 0)) (by (with_reducible repeat (first | refine blk_drewN ?_ _ | refine blk_drew ?_ | refine blk_alloc ?_ _)); refine blk_put (cs := #[.slice none 0 0]) ?_ 0 _ rfl; (with_reducible repeat (first | refine blk_drewN ?_ _ | refine blk_drew ?_ | refine blk_alloc ?_ _)); exact BK700.out) hb); replace HB := am (below_step (bs HB.out) hb); (try clear hb); (try clear hb2); (try clear hk); (try clear hi); have hcz54_0 : w53.cell? ⟨gb686, 0, none⟩ = some (.slice A0_0 l0_0.length c0_0) := (blk_cell BK686.out 0).trans rfl; have hfz54_0 := blk_frozen BK686.out 0; have hnb55 := NB695_700.out; have hnc55 := NB700_695.out; have hcz56_0 : w53.cell? ⟨gb695, 0, none⟩ = some (.slice Ao32 t691.length co32) := (blk_cell BK695.out 0).trans rfl; have hfz56_0 := blk_frozen BK695.out 0) | (go_at_call 53; (with_reducible refine (mizmazelaw05_all.calls kj3 _ _ l0_0 _ _ t691 true _ ?side1 ?side2 ?side3 ?side4 A45.out).mono ?_); (case side1 => exact kc (Kd.C_below HR0_0.out HB.out)); (case side2 => exact HC0_0.out); (case side3 => repeat (first | exact (Kd.S_reads' HO693.out).2.2 | (with_reducible refine Kd.C_alloc ?_ _) | (with_reducible refine Kd.C_drewN ?_ _) | (with_reducible refine Kd.C_drew ?_))); (case side4 => exact (Kd.S_reads' HO693.out).2.1); rintro e w57 ⟨rfl, hb⟩; replace HO693 := am (Kd.S_below (kS HO693.out) hb); replace HO698 := am (Kd.S_below (kS HO698.out) hb); replace BK686 := am (blk_below (g := gb686) (o := .cells #[.slice A0_0 l0_0.length c0_0] 24 (0, 0)) (kb BK686.out) hb); replace BK695 := am (blk_below (g := gb695) (o := .cells #[.slice Ao32 t691.length co32] 24 (0, 0)) (kb BK695.out) hb); replace BK700 := am (blk_below (g := gb700) (o := .cells #[.slice Ao37 t696.length co37] 24 (0, 0)) (kb BK700.out) hb); replace HB := am (below_step (bs HB.out) hb); (try clear hb); (try clear hb2); (try clear hk); (try clear hi); have hcz58_0 : w57.cell? ⟨gb695, 0, none⟩ = some (.slice Ao32 t691.length co32) := (blk_cell BK695.out 0).trans rfl; have hfz58_0 := blk_frozen BK695.out 0; have hcz59_0 : w57.cell? ⟨gb700, 0, none⟩ = some (.slice Ao37 t696.length co37) := (blk_cell BK700.out 0).trans rfl; have hfz59_0 := blk_frozen BK700.out 0) | (go_at_call 53; (with_reducible refine (mizmazelaw05_all.calls kj3 _ _ t691 _ _ t696 true _ ?side1 ?side2 ?side3 ?side4 A47.out).mono ?_); (case side1 => repeat (first | exact (Kd.S_reads' HO693.out).2.2 | (with_reducible refine Kd.C_alloc ?_ _) | (with_reducible refine Kd.C_drewN ?_ _) | (with_reducible refine Kd.C_drew ?_))); (case side2 => exact (Kd.S_reads' HO693.out).2.1); (case side3 => repeat (first | exact (Kd.S_reads' HO698.out).2.2 | (with_reducible refine Kd.C_alloc ?_ _) | (with_reducible refine Kd.C_drewN ?_ _) | (with_reducible refine Kd.C_drew ?_))); (case side4 => exact (Kd.S_reads' HO698.out).2.1); rintro e w60 ⟨rfl, hb⟩; replace HO693 := am (Kd.S_below (kS HO693.out) hb); replace HO698 := am (Kd.S_below (kS HO698.out) hb); replace BK686 := am (blk_below (g := gb686) (o := .cells #[.slice A0_0 l0_0.length c0_0] 24 (0, 0)) (kb BK686.out) hb); replace BK695 := am (blk_below (g := gb695) (o := .cells #[.slice Ao32 t691.length co32] 24 (0, 0)) (kb BK695.out) hb); replace BK700 := am (blk_below (g := gb700) (o := .cells #[.slice Ao37 t696.length co37] 24 (0, 0)) (kb BK700.out) hb); replace HB := am (below_step (bs HB.out) hb); (try clear hb); (try clear hb2); (try clear hk); (try clear hi); have hcz61_0 : w60.cell? ⟨gb686, 0, none⟩ = some (.slice A0_0 l0_0.length c0_0) := (blk_cell BK686.out 0).trans rfl; have hfz61_0 := blk_frozen BK686.out 0; have hcz62_0 : w60.cell? ⟨gb700, 0, none⟩ = some (.slice Ao37 t696.length co37) := (blk_cell BK700.out 0).trans rfl; have hfz62_0 := blk_frozen BK700.out 0) | (go_at_call 53; (with_reducible refine (mizmazelaw05_all.calls kj3 _ _ l0_0 _ _ t696 t704 _ ?side1 ?side2 ?side3 ?side4 A49.out).mono ?_); (case side1 => exact kc (Kd.C_below HR0_0.out HB.out)); (case side2 => exact HC0_0.out); (case side3 => repeat (first | exact (Kd.S_reads' HO698.out).2.2 | (with_reducible refine Kd.C_alloc ?_ _) | (with_reducible refine Kd.C_drewN ?_ _) | (with_reducible refine Kd.C_drew ?_))); (case side4 => exact (Kd.S_reads' HO698.out).2.1); rintro e w63 ⟨rfl, hb⟩; replace HO693 := am (Kd.S_below (kS HO693.out) hb); replace HO698 := am (Kd.S_below (kS HO698.out) hb); replace BK686 := am (blk_below (g := gb686) (o := .cells #[.slice A0_0 l0_0.length c0_0] 24 (0, 0)) (kb BK686.out) hb); replace BK695 := am (blk_below (g := gb695) (o := .cells #[.slice Ao32 t691.length co32] 24 (0, 0)) (kb BK695.out) hb); replace BK700 := am (blk_below (g := gb700) (o := .cells #[.slice Ao37 t696.length co37] 24 (0, 0)) (kb BK700.out) hb); replace HB := am (below_step (bs HB.out) hb); (try clear hb); (try clear hb2); (try clear hk); (try clear hi)))
    go_meet
    case rel => exact ⟨_, (!t704), zz3, H', ⟨by have := HJ3.out; first | omega | exact Nat.le_refl _⟩, ⟨kS (Kd.S_mono HO693.out (fun _ hk => hk.2))⟩, ⟨kS (Kd.S_mono HO698.out (fun _ hk => hk.2))⟩, ⟨kb BK686.out⟩, ⟨kb BK695.out⟩, ⟨kb BK700.out⟩, ⟨bs HB.out⟩⟩
   case rest => as_aux_lemma =>
    clear HC28
    (try clear c1); (try clear c2); (try clear p2); (try clear c3); (try clear c4); (try clear c5); (try clear c6); (try clear c7); (try clear c8); (try clear c9); (try clear c13); (try clear c18); (try clear c23); (try clear c33); (try clear c38); (try clear c39); (try clear c41); (try clear c41b0); (try clear c41b1); (try clear c42); (try clear c42b0); (try clear c42b1); (try clear c44); (try clear c45); (try clear c46); (try clear c48); (try clear c50); (try clear c51); (try clear c55); (try clear c64); (try clear c65); (try clear c69); (try clear c75); (try clear c76); (try clear c80); (try clear c83); (try clear c84); (try clear hcz11_0); (try clear hcz13_0); (try clear hcz15_0); (try clear hcz17_0); (try clear hcz19_0); (try clear hcz21_0); (try clear hcz29_0); (try clear hcz34_0); (try clear hcz40_0); (try clear hcz52_0); (try clear hcz54_0); (try clear hcz56_0); (try clear hcz58_0); (try clear hcz59_0); (try clear hcz61_0); (try clear hcz62_0); (try clear hcz66_0); (try clear hcz68_0); (try clear hcz70_0); (try clear hcz72_0); (try clear hcz73_0); (try clear hcz77_0); (try clear hcz79_0); (try clear hcz81_0); (try clear hcz85_0); (try clear hfz11_0); (try clear hfz13_0); (try clear hfz15_0); (try clear hfz17_0); (try clear hfz19_0); (try clear hfz21_0); (try clear hfz29_0); (try clear hfz34_0); (try clear hfz40_0); (try clear hfz52_0); (try clear hfz54_0); (try clear hfz56_0); (try clear hfz58_0); (try clear hfz59_0); (try clear hfz61_0); (try clear hfz62_0); (try clear hfz66_0); (try clear hfz68_0); (try clear hfz70_0); (try clear hfz72_0); (try clear hfz73_0); (try clear hfz77_0); (try clear hfz79_0); (try clear hfz81_0); (try clear hfz85_0); (try clear p2)
    obtain ⟨kq, x78_27, rfl, HA, HJ27, HO_696000, HO_701000, BK686, BK695, BK700, HB⟩ := hcut
    cases kq with
    | zero => exact absurd HA.out (by simp [mizmazelaw05_ColorAlike.j1])
    | succ kj27 =>
     have H := HA.out
     clear HA
     simp only [mizmazelaw05_ColorAlike.j1] at H
     by_cases c87 : x78_27 = true
     ·subst c87
      have H1 : (some false) = some r := by rw [if_pos rfl] at H; exact H
      clear H
      have H := H1
      clear H1
      obtain rfl := Option.some.inj H
      go_wp2
      go_ret
      exact ⟨by first | rfl | (simp [errW_none, errW_some] <;> rfl) | (simp [*, errW_none, errW_some] <;> rfl), bs HB.out⟩
     replace c87 := Bool.eq_false_iff.mpr c87
     subst c87
     have H1 : ((net_Connected.f kj27 l0_0).bind fun bt705 => ((net_Connected.f kj27 t696).bind fun bt707 => (if bt705.2 = 0 then (if bt707.2 = 0 then (mizmazelaw05_ColorAlike.j2 kj27 (bt705.1 != bt707.1) l0_0 t696) else (mizmazelaw05_ColorAlike.j2 kj27 true l0_0 t696)) else (mizmazelaw05_ColorAlike.j2 kj27 true l0_0 t696)))) = some r := by rw [if_neg (show ¬ (false = true) by decide)] at H; exact H
     clear H
     have H := H1
     clear H1
     replace H := Option.bind_eq_some_iff.mp H
     obtain ⟨⟨t705, t706⟩, A880, H⟩ := H
     replace H : ((net_Connected.f kj27 t696).bind fun bt707 => (if t706 = 0 then (if bt707.2 = 0 then (mizmazelaw05_ColorAlike.j2 kj27 (t705 != bt707.1) l0_0 t696) else (mizmazelaw05_ColorAlike.j2 kj27 true l0_0 t696)) else (mizmazelaw05_ColorAlike.j2 kj27 true l0_0 t696))) = some r := H
     have A88 := am A880
     clear A880
     replace H := Option.bind_eq_some_iff.mp H
     obtain ⟨⟨t707, t708⟩, A890, H⟩ := H
     replace H : (if t706 = 0 then (if t708 = 0 then (mizmazelaw05_ColorAlike.j2 kj27 (t705 != t707) l0_0 t696) else (mizmazelaw05_ColorAlike.j2 kj27 true l0_0 t696)) else (mizmazelaw05_ColorAlike.j2 kj27 true l0_0 t696)) = some r := H
     have A89 := am A890
     clear A890
     have HC90 := am H
     clear H
     have hnb91 := NB686_695.out
     have hnc91 := NB695_686.out
     have hnb92 := NB686_700.out
     have hnc92 := NB700_686.out
     have hcz93_0 : wc.cell? ⟨gb686, 0, none⟩ = some (.slice A0_0 l0_0.length c0_0) := (blk_cell BK686.out 0).trans rfl
     have hfz93_0 := blk_frozen BK686.out 0
     go_upto_region 9 with (first | ((with_reducible refine gate_callee (f := 16) rfl ?_); refine goesL_ (some 81) rfl rfl Try.func16 (by kernel_rfl) rfl #[.agg #[.slice A0_0 l0_0.length c0_0]] rfl zz1 ?_; (with_reducible refine (net_Connected.calls kj27 _ _ l0_0 t705 t706 _ ?side1 ?side2 A88.out).mono ?_); (case side1 => exact kc (Kd.C_below HR0_0.out HB.out)); (case side2 => exact HC0_0.out); rintro e w94 ⟨rfl, hb⟩; refine ⟨_, rfl, ?_⟩; replace HO_696000 := am (Kd.S_below (kS HO_696000.out) hb); replace HO_701000 := am (Kd.S_below (kS HO_701000.out) hb); replace BK686 := am (blk_below (g := gb686) (o := .cells #[.slice A0_0 l0_0.length c0_0] 24 (0, 0)) (kb BK686.out) hb); replace BK695 := am (blk_below (g := gb695) (o := .cells #[.slice Ao32 t691.length co32] 24 (0, 0)) (kb BK695.out) hb); replace BK700 := am (blk_below (g := gb700) (o := .cells #[.slice Ao37 t696.length co37] 24 (0, 0)) (kb BK700.out) hb); replace HB := am (below_step (bs HB.out) hb); (try clear hb); (try clear hb2); (try clear hk); (try clear hi); have hnb95 := NB700_695.out; have hnc95 := NB695_700.out; have hcz96_0 : w94.cell? ⟨gb700, 0, none⟩ = some (.slice Ao37 t696.length co37) := (blk_cell BK700.out 0).trans rfl; have hfz96_0 := blk_frozen BK700.out 0) | ((with_reducible refine gate_callee (f := 16) rfl ?_); refine goesL_ (some 86) rfl rfl Try.func16 (by kernel_rfl) rfl #[.agg #[.slice Ao37 t696.length co37]] rfl zz1 ?_; (with_reducible refine (net_Connected.calls kj27 _ _ t696 t707 t708 _ ?side1 ?side2 A89.out).mono ?_); (case side1 => repeat (first | exact (Kd.S_reads' HO_701000.out).2.2 | (with_reducible refine Kd.C_alloc ?_ _) | (with_reducible refine Kd.C_drewN ?_ _) | (with_reducible refine Kd.C_drew ?_))); (case side2 => exact (Kd.S_reads' HO_701000.out).2.1); rintro e w97 ⟨rfl, hb⟩; refine ⟨_, rfl, ?_⟩; replace HO_696000 := am (Kd.S_below (kS HO_696000.out) hb); replace HO_701000 := am (Kd.S_below (kS HO_701000.out) hb); replace BK686 := am (blk_below (g := gb686) (o := .cells #[.slice A0_0 l0_0.length c0_0] 24 (0, 0)) (kb BK686.out) hb); replace BK695 := am (blk_below (g := gb695) (o := .cells #[.slice Ao32 t691.length co32] 24 (0, 0)) (kb BK695.out) hb); replace BK700 := am (blk_below (g := gb700) (o := .cells #[.slice Ao37 t696.length co37] 24 (0, 0)) (kb BK700.out) hb); replace HB := am (below_step (bs HB.out) hb); (try clear hb); (try clear hb2); (try clear hk); (try clear hi)))
     (try simp only [Act.put, List.setIfInBounds_toArray, List.set_cons_zero, List.set_cons_succ])
     go_cut [99] (fun v99 wc => ∃ (kq : Nat) (x99_89 : Bool), v99 = .bool x99_89 ∧ Aside0 (mizmazelaw05_ColorAlike.j2 kq x99_89 l0_0 t696 = some r) ∧ Aside0 (kq ≤ kj27) ∧ Aside0 (Kd.S (Kd.slice 3 (Kd.int .i64)) 28 wc w.heap.size (fun k_ => some k_ ≠ ((.slice Ao37 t696.length co37) : Value).ownBlock) (.slice Ao32 t691.length co32) t691) ∧ Aside0 (Kd.S (Kd.slice 3 (Kd.int .i64)) 28 wc w.heap.size (fun k_ => some k_ ≠ ((.slice Ao32 t691.length co32) : Value).ownBlock) (.slice Ao37 t696.length co37) t696) ∧ Aside0 (wc.heap[gb686]? = some (.cells #[(.slice A0_0 l0_0.length c0_0)] 24 (0, 0))) ∧ Aside0 (wc.heap[gb695]? = some (.cells #[(.slice Ao32 t691.length co32)] 24 (0, 0))) ∧ Aside0 (wc.heap[gb700]? = some (.cells #[(.slice Ao37 t696.length co37)] 24 (0, 0))) ∧ Aside0 (Below w.heap.size w wc))
     case first => as_aux_lemma =>
      have H := HC90.out
      clear HC90
      by_cases c98 : t706 = 0
      rotate_left
      ·rw [if_neg c98] at H
       have c98b0 : (t706 == 0) = false := beq_eq_false_iff_ne.mpr c98
       have c98b1 : (t706 != 0) = true := bne_iff_ne.mpr c98
       (first | rw [c98b0] | (simp only [i64_w, i32_w]; rw [c98b0]) | skip)
       have H' := am H
       clear H
       go_wp2
       go_meet
       case rel => exact ⟨_, (true), zz3, H', ⟨by have := HJ3.out; have := HJ27.out; first | omega | exact Nat.le_refl _⟩, ⟨kS HO_696000.out⟩, ⟨kS HO_701000.out⟩, ⟨kb BK686.out⟩, ⟨kb BK695.out⟩, ⟨kb BK700.out⟩, ⟨bs HB.out⟩⟩
      rw [if_pos c98] at H
      have c98b0 : (t706 == 0) = true := beq_iff_eq.mpr c98
      have c98b1 : (t706 != 0) = false := bne_eq_false_iff_eq.mpr c98
      clear c98
      (first | rw [c98b0] | (simp only [i64_w, i32_w]; rw [c98b0]) | skip)
      by_cases c99 : t708 = 0
      rotate_left
      ·rw [if_neg c99] at H
       have c99b0 : (t708 == 0) = false := beq_eq_false_iff_ne.mpr c99
       have c99b1 : (t708 != 0) = true := bne_iff_ne.mpr c99
       have H' := am H
       clear H
       go_wp2
       go_meet
       case rel => exact ⟨_, (true), zz3, H', ⟨by have := HJ3.out; have := HJ27.out; first | omega | exact Nat.le_refl _⟩, ⟨kS HO_696000.out⟩, ⟨kS HO_701000.out⟩, ⟨kb BK686.out⟩, ⟨kb BK695.out⟩, ⟨kb BK700.out⟩, ⟨bs HB.out⟩⟩
      rw [if_pos c99] at H
      have c99b0 : (t708 == 0) = true := beq_iff_eq.mpr c99
      have c99b1 : (t708 != 0) = false := bne_eq_false_iff_eq.mpr c99
      clear c99
      have H' := am H
      clear H
      go_wp2
      go_meet
      case rel => exact ⟨_, ((t705 != t707)), zz3, H', ⟨by have := HJ3.out; have := HJ27.out; first | omega | exact Nat.le_refl _⟩, ⟨kS HO_696000.out⟩, ⟨kS HO_701000.out⟩, ⟨kb BK686.out⟩, ⟨kb BK695.out⟩, ⟨kb BK700.out⟩, ⟨bs HB.out⟩⟩
     case rest => as_aux_lemma =>
      clear HC90
      (try clear c1); (try clear c2); (try clear p2); (try clear c3); (try clear c4); (try clear c5); (try clear c6); (try clear c7); (try clear c8); (try clear c9); (try clear c13); (try clear c16); (try clear c18); (try clear c23); (try clear c33); (try clear c38); (try clear c39); (try clear c41); (try clear c41b0); (try clear c41b1); (try clear c42); (try clear c42b0); (try clear c42b1); (try clear c44); (try clear c45); (try clear c46); (try clear c48); (try clear c50); (try clear c51); (try clear c55); (try clear c64); (try clear c65); (try clear c69); (try clear c75); (try clear c76); (try clear c80); (try clear c83); (try clear c84); (try clear c87); (try clear c91); (try clear c92); (try clear c95); (try clear c98); (try clear c98b0); (try clear c98b1); (try clear c99); (try clear c99b0); (try clear c99b1); (try clear hcz11_0); (try clear hcz13_0); (try clear hcz15_0); (try clear hcz17_0); (try clear hcz19_0); (try clear hcz21_0); (try clear hcz29_0); (try clear hcz34_0); (try clear hcz40_0); (try clear hcz52_0); (try clear hcz54_0); (try clear hcz56_0); (try clear hcz58_0); (try clear hcz59_0); (try clear hcz61_0); (try clear hcz62_0); (try clear hcz66_0); (try clear hcz68_0); (try clear hcz70_0); (try clear hcz72_0); (try clear hcz73_0); (try clear hcz77_0); (try clear hcz79_0); (try clear hcz81_0); (try clear hcz85_0); (try clear hcz93_0); (try clear hcz96_0); (try clear hfz11_0); (try clear hfz13_0); (try clear hfz15_0); (try clear hfz17_0); (try clear hfz19_0); (try clear hfz21_0); (try clear hfz29_0); (try clear hfz34_0); (try clear hfz40_0); (try clear hfz52_0); (try clear hfz54_0); (try clear hfz56_0); (try clear hfz58_0); (try clear hfz59_0); (try clear hfz61_0); (try clear hfz62_0); (try clear hfz66_0); (try clear hfz68_0); (try clear hfz70_0); (try clear hfz72_0); (try clear hfz73_0); (try clear hfz77_0); (try clear hfz79_0); (try clear hfz81_0); (try clear hfz85_0); (try clear hfz93_0); (try clear hfz96_0); (try clear p2)
      obtain ⟨kq, x99_89, rfl, HA, HJ89, HO_696000, HO_701000, BK686, BK695, BK700, HB⟩ := hcut
      cases kq with
      | zero => exact absurd HA.out (by simp [mizmazelaw05_ColorAlike.j2])
      | succ kj89 =>
       have H := HA.out
       clear HA
       simp only [mizmazelaw05_ColorAlike.j2] at H
       by_cases c100 : x99_89 = true
       ·subst c100
        have H1 : (some false) = some r := by rw [if_pos rfl] at H; exact H
        clear H
        have H := H1
        clear H1
        obtain rfl := Option.some.inj H
        go_wp2
        go_ret
        exact ⟨by first | rfl | (simp [errW_none, errW_some] <;> rfl) | (simp [*, errW_none, errW_some] <;> rfl), bs HB.out⟩
       replace c100 := Bool.eq_false_iff.mpr c100
       subst c100
       have H1 : ((net_Period.f kj89 l0_0).bind fun bt709 => ((net_Period.f kj89 t696).bind fun bt711 => (if bt709.2 = bt711.2 then (mizmazelaw05_ColorAlike.j3 kj89 (bt709.1 != bt711.1) l0_0 t696) else (mizmazelaw05_ColorAlike.j3 kj89 true l0_0 t696)))) = some r := by rw [if_neg (show ¬ (false = true) by decide)] at H; exact H
       clear H
       have H := H1
       clear H1
       replace H := Option.bind_eq_some_iff.mp H
       obtain ⟨⟨t709, t710⟩, A1010, H⟩ := H
       replace H : ((net_Period.f kj89 t696).bind fun bt711 => (if t710 = bt711.2 then (mizmazelaw05_ColorAlike.j3 kj89 (t709 != bt711.1) l0_0 t696) else (mizmazelaw05_ColorAlike.j3 kj89 true l0_0 t696))) = some r := H
       have A101 := am A1010
       clear A1010
       replace H := Option.bind_eq_some_iff.mp H
       obtain ⟨⟨t711, t712⟩, A1020, H⟩ := H
       replace H : (if t710 = t712 then (mizmazelaw05_ColorAlike.j3 kj89 (t709 != t711) l0_0 t696) else (mizmazelaw05_ColorAlike.j3 kj89 true l0_0 t696)) = some r := H
       have A102 := am A1020
       clear A1020
       have HC103 := am H
       clear H
       have hnb104 := NB686_695.out
       have hnc104 := NB695_686.out
       have hnb105 := NB686_700.out
       have hnc105 := NB700_686.out
       have hcz106_0 : wc.cell? ⟨gb686, 0, none⟩ = some (.slice A0_0 l0_0.length c0_0) := (blk_cell BK686.out 0).trans rfl
       have hfz106_0 := blk_frozen BK686.out 0
       go_upto_region 13 with (first | ((with_reducible refine gate_callee (f := 25) rfl ?_); refine goesL_ (some 102) rfl rfl Try.func25 (by kernel_rfl) rfl #[.agg #[.slice A0_0 l0_0.length c0_0]] rfl zz1 ?_; (with_reducible refine (net_Period.calls kj89 _ _ l0_0 t709 t710 _ ?side1 ?side2 A101.out).mono ?_); (case side1 => exact kc (Kd.C_below HR0_0.out HB.out)); (case side2 => exact HC0_0.out); rintro e w107 ⟨rfl, hb⟩; refine ⟨_, rfl, ?_⟩; replace HO_696000 := am (Kd.S_below (kS HO_696000.out) hb); replace HO_701000 := am (Kd.S_below (kS HO_701000.out) hb); replace BK686 := am (blk_below (g := gb686) (o := .cells #[.slice A0_0 l0_0.length c0_0] 24 (0, 0)) (kb BK686.out) hb); replace BK695 := am (blk_below (g := gb695) (o := .cells #[.slice Ao32 t691.length co32] 24 (0, 0)) (kb BK695.out) hb); replace BK700 := am (blk_below (g := gb700) (o := .cells #[.slice Ao37 t696.length co37] 24 (0, 0)) (kb BK700.out) hb); replace HB := am (below_step (bs HB.out) hb); (try clear hb); (try clear hb2); (try clear hk); (try clear hi); have hnb108 := NB700_695.out; have hnc108 := NB695_700.out; have hcz109_0 : w107.cell? ⟨gb700, 0, none⟩ = some (.slice Ao37 t696.length co37) := (blk_cell BK700.out 0).trans rfl; have hfz109_0 := blk_frozen BK700.out 0) | ((with_reducible refine gate_callee (f := 25) rfl ?_); refine goesL_ (some 107) rfl rfl Try.func25 (by kernel_rfl) rfl #[.agg #[.slice Ao37 t696.length co37]] rfl zz1 ?_; (with_reducible refine (net_Period.calls kj89 _ _ t696 t711 t712 _ ?side1 ?side2 A102.out).mono ?_); (case side1 => repeat (first | exact (Kd.S_reads' HO_701000.out).2.2 | (with_reducible refine Kd.C_alloc ?_ _) | (with_reducible refine Kd.C_drewN ?_ _) | (with_reducible refine Kd.C_drew ?_))); (case side2 => exact (Kd.S_reads' HO_701000.out).2.1); rintro e w110 ⟨rfl, hb⟩; refine ⟨_, rfl, ?_⟩; replace HO_696000 := am (Kd.S_below (kS HO_696000.out) hb); replace HO_701000 := am (Kd.S_below (kS HO_701000.out) hb); replace BK686 := am (blk_below (g := gb686) (o := .cells #[.slice A0_0 l0_0.length c0_0] 24 (0, 0)) (kb BK686.out) hb); replace BK695 := am (blk_below (g := gb695) (o := .cells #[.slice Ao32 t691.length co32] 24 (0, 0)) (kb BK695.out) hb); replace BK700 := am (blk_below (g := gb700) (o := .cells #[.slice Ao37 t696.length co37] 24 (0, 0)) (kb BK700.out) hb); replace HB := am (below_step (bs HB.out) hb); (try clear hb); (try clear hb2); (try clear hk); (try clear hi)))
       (try simp only [Act.put, List.setIfInBounds_toArray, List.set_cons_zero, List.set_cons_succ])
       go_cut [117] (fun v117 wc => ∃ (kq : Nat) (x117_102 : Bool), v117 = .bool x117_102 ∧ Aside0 (mizmazelaw05_ColorAlike.j3 kq x117_102 l0_0 t696 = some r) ∧ Aside0 (kq ≤ kj89) ∧ Aside0 (Kd.S (Kd.slice 3 (Kd.int .i64)) 28 wc w.heap.size (fun k_ => some k_ ≠ ((.slice Ao37 t696.length co37) : Value).ownBlock) (.slice Ao32 t691.length co32) t691) ∧ Aside0 (Kd.S (Kd.slice 3 (Kd.int .i64)) 28 wc w.heap.size (fun k_ => some k_ ≠ ((.slice Ao32 t691.length co32) : Value).ownBlock) (.slice Ao37 t696.length co37) t696) ∧ Aside0 (wc.heap[gb686]? = some (.cells #[(.slice A0_0 l0_0.length c0_0)] 24 (0, 0))) ∧ Aside0 (wc.heap[gb695]? = some (.cells #[(.slice Ao32 t691.length co32)] 24 (0, 0))) ∧ Aside0 (wc.heap[gb700]? = some (.cells #[(.slice Ao37 t696.length co37)] 24 (0, 0))) ∧ Aside0 (Below w.heap.size w wc))
       case first => as_aux_lemma =>
        have H := HC103.out
        clear HC103
        by_cases c111 : t710 = t712
        rotate_left
        ·rw [if_neg c111] at H
         have c111b0 : (t710 == t712) = false := beq_eq_false_iff_ne.mpr c111
         have c111b1 : (t710 != t712) = true := bne_iff_ne.mpr c111
         (first | rw [c111b0] | (simp only [i64_w, i32_w]; rw [c111b0]) | skip)
         have H' := am H
         clear H
         go_wp2
         go_meet
         case rel => exact ⟨_, (true), zz3, H', ⟨by have := HJ3.out; have := HJ27.out; have := HJ89.out; first | omega | exact Nat.le_refl _⟩, ⟨kS HO_696000.out⟩, ⟨kS HO_701000.out⟩, ⟨kb BK686.out⟩, ⟨kb BK695.out⟩, ⟨kb BK700.out⟩, ⟨bs HB.out⟩⟩
        rw [if_pos c111] at H
        have c111b0 : (t710 == t712) = true := beq_iff_eq.mpr c111
        have c111b1 : (t710 != t712) = false := bne_eq_false_iff_eq.mpr c111
        clear c111
        (first | rw [c111b0] | (simp only [i64_w, i32_w]; rw [c111b0]) | skip)
        have H' := am H
        clear H
        go_wp2
        go_meet
        case rel => exact ⟨_, ((t709 != t711)), zz3, H', ⟨by have := HJ3.out; have := HJ27.out; have := HJ89.out; first | omega | exact Nat.le_refl _⟩, ⟨kS HO_696000.out⟩, ⟨kS HO_701000.out⟩, ⟨kb BK686.out⟩, ⟨kb BK695.out⟩, ⟨kb BK700.out⟩, ⟨bs HB.out⟩⟩
       case rest => as_aux_lemma =>
        clear HC103
        (try clear c1); (try clear c2); (try clear p2); (try clear c3); (try clear c4); (try clear c5); (try clear c6); (try clear c7); (try clear c8); (try clear c9); (try clear c10); (try clear c11); (try clear c13); (try clear c16); (try clear c18); (try clear c23); (try clear c25); (try clear c33); (try clear c38); (try clear c39); (try clear c41); (try clear c41b0); (try clear c41b1); (try clear c42); (try clear c42b0); (try clear c42b1); (try clear c44); (try clear c45); (try clear c46); (try clear c48); (try clear c50); (try clear c51); (try clear c55); (try clear c64); (try clear c65); (try clear c69); (try clear c75); (try clear c76); (try clear c80); (try clear c83); (try clear c84); (try clear c87); (try clear c91); (try clear c92); (try clear c95); (try clear c98); (try clear c98b0); (try clear c98b1); (try clear c99); (try clear c99b0); (try clear c99b1); (try clear c100); (try clear c104); (try clear c105); (try clear c108); (try clear c111); (try clear c111b0); (try clear c111b1); (try clear hcz106_0); (try clear hcz109_0); (try clear hcz11_0); (try clear hcz13_0); (try clear hcz15_0); (try clear hcz17_0); (try clear hcz19_0); (try clear hcz21_0); (try clear hcz29_0); (try clear hcz34_0); (try clear hcz40_0); (try clear hcz52_0); (try clear hcz54_0); (try clear hcz56_0); (try clear hcz58_0); (try clear hcz59_0); (try clear hcz61_0); (try clear hcz62_0); (try clear hcz66_0); (try clear hcz68_0); (try clear hcz70_0); (try clear hcz72_0); (try clear hcz73_0); (try clear hcz77_0); (try clear hcz79_0); (try clear hcz81_0); (try clear hcz85_0); (try clear hcz93_0); (try clear hcz96_0); (try clear hfz106_0); (try clear hfz109_0); (try clear hfz11_0); (try clear hfz13_0); (try clear hfz15_0); (try clear hfz17_0); (try clear hfz19_0); (try clear hfz21_0); (try clear hfz29_0); (try clear hfz34_0); (try clear hfz40_0); (try clear hfz52_0); (try clear hfz54_0); (try clear hfz56_0); (try clear hfz58_0); (try clear hfz59_0); (try clear hfz61_0); (try clear hfz62_0); (try clear hfz66_0); (try clear hfz68_0); (try clear hfz70_0); (try clear hfz72_0); (try clear hfz73_0); (try clear hfz77_0); (try clear hfz79_0); (try clear hfz81_0); (try clear hfz85_0); (try clear hfz93_0); (try clear hfz96_0); (try clear p2)
        obtain ⟨kq, x117_102, rfl, HA, HJ102, HO_696000, HO_701000, BK686, BK695, BK700, HB⟩ := hcut
        cases kq with
        | zero => exact absurd HA.out (by simp [mizmazelaw05_ColorAlike.j3])
        | succ kj102 =>
         have H := HA.out
         clear HA
         simp only [mizmazelaw05_ColorAlike.j3] at H
         by_cases c112 : x117_102 = true
         ·subst c112
          have H1 : (some false) = some r := by rw [if_pos rfl] at H; exact H
          clear H
          have H := H1
          clear H1
          obtain rfl := Option.some.inj H
          go_wp2
          go_ret
          exact ⟨by first | rfl | (simp [errW_none, errW_some] <;> rfl) | (simp [*, errW_none, errW_some] <;> rfl), bs HB.out⟩
         replace c112 := Bool.eq_false_iff.mpr c112
         subst c112
         have H1 : ((net_Classes.f kj102 l0_0).bind fun bt713 => ((net_Classes.f kj102 t696).bind fun bt717 => (if bt713.2 = bt717.2 then ((mizmazeref01_Same.f kj102 bt713.1 bt717.1).bind fun t721 => (mizmazelaw05_ColorAlike.j4 kj102 (!t721) l0_0 t696)) else (mizmazelaw05_ColorAlike.j4 kj102 true l0_0 t696)))) = some r := by rw [if_neg (show ¬ (false = true) by decide)] at H; exact H
         clear H
         have H := H1
         clear H1
         replace H := Option.bind_eq_some_iff.mp H
         obtain ⟨⟨t713, t716⟩, A1130, H⟩ := H
         replace H : ((net_Classes.f kj102 t696).bind fun bt717 => (if t716 = bt717.2 then ((mizmazeref01_Same.f kj102 t713 bt717.1).bind fun t721 => (mizmazelaw05_ColorAlike.j4 kj102 (!t721) l0_0 t696)) else (mizmazelaw05_ColorAlike.j4 kj102 true l0_0 t696))) = some r := H
         have A113 := am A1130
         clear A1130
         replace H := Option.bind_eq_some_iff.mp H
         obtain ⟨⟨t717, t720⟩, A1140, H⟩ := H
         replace H : (if t716 = t720 then ((mizmazeref01_Same.f kj102 t713 t717).bind fun t721 => (mizmazelaw05_ColorAlike.j4 kj102 (!t721) l0_0 t696)) else (mizmazelaw05_ColorAlike.j4 kj102 true l0_0 t696)) = some r := H
         have A114 := am A1140
         clear A1140
         have HC115 := am H
         clear H
         have hnb116 := NB686_695.out
         have hnc116 := NB695_686.out
         have hnb117 := NB686_700.out
         have hnc117 := NB700_686.out
         have hcz118_0 : wc.cell? ⟨gb686, 0, none⟩ = some (.slice A0_0 l0_0.length c0_0) := (blk_cell BK686.out 0).trans rfl
         have hfz118_0 := blk_frozen BK686.out 0
         go_upto_region 17 with (first | ((with_reducible refine gate_callee (f := 26) rfl ?_); refine goesL_ (some 120) rfl rfl Try.func26 (by kernel_rfl) rfl #[.agg #[.slice A0_0 l0_0.length c0_0]] rfl zz1 ?_; (with_reducible refine (net_Classes.calls kj102 _ _ l0_0 t713 t716 _ ?side1 ?side2 A113.out).mono ?_); (case side1 => exact kc (Kd.C_below HR0_0.out HB.out)); (case side2 => exact HC0_0.out); rintro e w119 ⟨v714, rfl, ho0, hb⟩; refine ⟨_, rfl, ?_⟩; replace HO_696000 := am (Kd.S_elder' (kS HO_696000.out) (Kd.R_base ho0) hb); replace HO_701000 := am (Kd.S_elder' (kS HO_701000.out) (Kd.R_base ho0) hb); have HO715 := am (Kd.R_lower ho0 (below_size (bs HB.out))); replace BK686 := am (blk_below (g := gb686) (o := .cells #[.slice A0_0 l0_0.length c0_0] 24 (0, 0)) (kb BK686.out) hb); replace BK695 := am (blk_below (g := gb695) (o := .cells #[.slice Ao32 t691.length co32] 24 (0, 0)) (kb BK695.out) hb); replace BK700 := am (blk_below (g := gb700) (o := .cells #[.slice Ao37 t696.length co37] 24 (0, 0)) (kb BK700.out) hb); replace HB := am (below_step (bs HB.out) hb); (try clear hb); (try clear hb2); (try clear hk); (try clear hi); (try clear ho0); have hnb120 := NB700_695.out; have hnc120 := NB695_700.out; have hcz121_0 : w119.cell? ⟨gb700, 0, none⟩ = some (.slice Ao37 t696.length co37) := (blk_cell BK700.out 0).trans rfl; have hfz121_0 := blk_frozen BK700.out 0) | ((with_reducible refine gate_callee (f := 26) rfl ?_); refine goesL_ (some 125) rfl rfl Try.func26 (by kernel_rfl) rfl #[.agg #[.slice Ao37 t696.length co37]] rfl zz1 ?_; (with_reducible refine (net_Classes.calls kj102 _ _ t696 t717 t720 _ ?side1 ?side2 A114.out).mono ?_); (case side1 => repeat (first | exact (Kd.S_reads' HO_701000.out).2.2 | (with_reducible refine Kd.C_alloc ?_ _) | (with_reducible refine Kd.C_drewN ?_ _) | (with_reducible refine Kd.C_drew ?_))); (case side2 => exact (Kd.S_reads' HO_701000.out).2.1); rintro e w122 ⟨v718, rfl, ho0, hb⟩; refine ⟨_, rfl, ?_⟩; replace HO_696000 := am (Kd.S_elder' (kS HO_696000.out) (Kd.R_base ho0) hb); replace HO_701000 := am (Kd.S_elder' (kS HO_701000.out) (Kd.R_base ho0) hb); have HO719 := am (Kd.R_lower (Kd.R_new' ho0 (Kd.R_lt (kR HO715.out))) (below_size (bs HB.out))); replace HO715 := am (Kd.R_elder' (kR HO715.out) (Kd.R_base ho0) hb); replace BK686 := am (blk_below (g := gb686) (o := .cells #[.slice A0_0 l0_0.length c0_0] 24 (0, 0)) (kb BK686.out) hb); replace BK695 := am (blk_below (g := gb695) (o := .cells #[.slice Ao32 t691.length co32] 24 (0, 0)) (kb BK695.out) hb); replace BK700 := am (blk_below (g := gb700) (o := .cells #[.slice Ao37 t696.length co37] 24 (0, 0)) (kb BK700.out) hb); replace HB := am (below_step (bs HB.out) hb); (try clear hb); (try clear hb2); (try clear hk); (try clear hi); (try clear ho0)))
         (try simp only [Act.put, List.setIfInBounds_toArray, List.set_cons_zero, List.set_cons_succ])
         go_cut [136] (fun v136 wc => ∃ (kq : Nat) (x136_114 : Bool), v136 = .bool x136_114 ∧ Aside0 (mizmazelaw05_ColorAlike.j4 kq x136_114 l0_0 t696 = some r) ∧ Aside0 (kq ≤ kj102) ∧ Aside0 (Kd.S (Kd.slice 3 (Kd.int .i64)) 28 wc w.heap.size (fun k_ => some k_ ≠ ((.slice Ao37 t696.length co37) : Value).ownBlock) (.slice Ao32 t691.length co32) t691) ∧ Aside0 (Kd.S (Kd.slice 3 (Kd.int .i64)) 28 wc w.heap.size (fun k_ => some k_ ≠ ((.slice Ao32 t691.length co32) : Value).ownBlock) (.slice Ao37 t696.length co37) t696) ∧ Aside0 (wc.heap[gb686]? = some (.cells #[(.slice A0_0 l0_0.length c0_0)] 24 (0, 0))) ∧ Aside0 (wc.heap[gb695]? = some (.cells #[(.slice Ao32 t691.length co32)] 24 (0, 0))) ∧ Aside0 (wc.heap[gb700]? = some (.cells #[(.slice Ao37 t696.length co37)] 24 (0, 0))) ∧ Aside0 (Below w.heap.size w wc))
         case first => as_aux_lemma =>
          have H := HC115.out
          clear HC115
          by_cases c123 : t716 = t720
          rotate_left
          ·rw [if_neg c123] at H
           have c123b0 : (t716 == t720) = false := beq_eq_false_iff_ne.mpr c123
           have c123b1 : (t716 != t720) = true := bne_iff_ne.mpr c123
           (first | rw [c123b0] | (simp only [i64_w, i32_w]; rw [c123b0]) | skip)
           have H' := am H
           clear H
           go_wp2
           go_meet
           case rel => exact ⟨_, (true), zz3, H', ⟨by have := HJ3.out; have := HJ27.out; have := HJ89.out; have := HJ102.out; first | omega | exact Nat.le_refl _⟩, ⟨kS (Kd.S_mono HO_696000.out (fun _ hk => hk.1.1))⟩, ⟨kS (Kd.S_mono HO_701000.out (fun _ hk => hk.1.1))⟩, ⟨kb BK686.out⟩, ⟨kb BK695.out⟩, ⟨kb BK700.out⟩, ⟨bs HB.out⟩⟩
          rw [if_pos c123] at H
          have c123b0 : (t716 == t720) = true := beq_iff_eq.mpr c123
          have c123b1 : (t716 != t720) = false := bne_eq_false_iff_eq.mpr c123
          clear c123
          (first | rw [c123b0] | (simp only [i64_w, i32_w]; rw [c123b0]) | skip)
          replace H := Option.bind_eq_some_iff.mp H
          obtain ⟨t721, A1240, H⟩ := H
          replace H : (mizmazelaw05_ColorAlike.j4 kj102 (!t721) l0_0 t696) = some r := H
          have A124 := am A1240
          clear A1240
          have H' := am H
          clear H
          obtain ⟨Ao125, co125, eo125⟩ := Kd.R_slice HO715.out
          subst eo125
          obtain ⟨Ao126, co126, eo126⟩ := Kd.R_slice HO719.out
          subst eo126
          go_wp2_with (first | (go_at_call 23; (with_reducible refine (mizmazeref01_Same.calls kj102 _ _ t713 _ _ t717 t721 _ ?side1 ?side2 ?side3 ?side4 A124.out).mono ?_); (case side1 => repeat (first | exact (Kd.R_reads' HO715.out).2.2 | (with_reducible refine Kd.C_alloc ?_ _) | (with_reducible refine Kd.C_drewN ?_ _) | (with_reducible refine Kd.C_drew ?_))); (case side2 => exact (Kd.R_reads' HO715.out).2.1); (case side3 => repeat (first | exact (Kd.R_reads' HO719.out).2.2 | (with_reducible refine Kd.C_alloc ?_ _) | (with_reducible refine Kd.C_drewN ?_ _) | (with_reducible refine Kd.C_drew ?_))); (case side4 => exact (Kd.R_reads' HO719.out).2.1); rintro e w' ⟨rfl, ⟨nd, rfl⟩⟩))
          go_meet
          case rel => exact ⟨_, (!t721), zz3, H', ⟨by have := HJ3.out; have := HJ27.out; have := HJ89.out; have := HJ102.out; first | omega | exact Nat.le_refl _⟩, ⟨kS (Kd.S_mono HO_696000.out (fun _ hk => hk.1.1))⟩, ⟨kS (Kd.S_mono HO_701000.out (fun _ hk => hk.1.1))⟩, ⟨kb BK686.out⟩, ⟨kb BK695.out⟩, ⟨kb BK700.out⟩, ⟨bs HB.out⟩⟩
         case rest => as_aux_lemma =>
          clear HC115
          (try clear c1); (try clear c2); (try clear p2); (try clear c3); (try clear c4); (try clear c5); (try clear c6); (try clear c7); (try clear c8); (try clear c9); (try clear c10); (try clear c11); (try clear c12); (try clear c13); (try clear c16); (try clear c18); (try clear c23); (try clear c25); (try clear c26); (try clear c33); (try clear c38); (try clear c39); (try clear c41); (try clear c41b0); (try clear c41b1); (try clear c42); (try clear c42b0); (try clear c42b1); (try clear c44); (try clear c45); (try clear c46); (try clear c48); (try clear c50); (try clear c51); (try clear c55); (try clear c64); (try clear c65); (try clear c69); (try clear c75); (try clear c76); (try clear c80); (try clear c83); (try clear c84); (try clear c87); (try clear c91); (try clear c92); (try clear c95); (try clear c98); (try clear c98b0); (try clear c98b1); (try clear c99); (try clear c99b0); (try clear c99b1); (try clear c100); (try clear c104); (try clear c105); (try clear c108); (try clear c111); (try clear c111b0); (try clear c111b1); (try clear c112); (try clear c116); (try clear c117); (try clear c120); (try clear c123); (try clear c123b0); (try clear c123b1); (try clear hcz106_0); (try clear hcz109_0); (try clear hcz118_0); (try clear hcz11_0); (try clear hcz121_0); (try clear hcz13_0); (try clear hcz15_0); (try clear hcz17_0); (try clear hcz19_0); (try clear hcz21_0); (try clear hcz29_0); (try clear hcz34_0); (try clear hcz40_0); (try clear hcz52_0); (try clear hcz54_0); (try clear hcz56_0); (try clear hcz58_0); (try clear hcz59_0); (try clear hcz61_0); (try clear hcz62_0); (try clear hcz66_0); (try clear hcz68_0); (try clear hcz70_0); (try clear hcz72_0); (try clear hcz73_0); (try clear hcz77_0); (try clear hcz79_0); (try clear hcz81_0); (try clear hcz85_0); (try clear hcz93_0); (try clear hcz96_0); (try clear hfz106_0); (try clear hfz109_0); (try clear hfz118_0); (try clear hfz11_0); (try clear hfz121_0); (try clear hfz13_0); (try clear hfz15_0); (try clear hfz17_0); (try clear hfz19_0); (try clear hfz21_0); (try clear hfz29_0); (try clear hfz34_0); (try clear hfz40_0); (try clear hfz52_0); (try clear hfz54_0); (try clear hfz56_0); (try clear hfz58_0); (try clear hfz59_0); (try clear hfz61_0); (try clear hfz62_0); (try clear hfz66_0); (try clear hfz68_0); (try clear hfz70_0); (try clear hfz72_0); (try clear hfz73_0); (try clear hfz77_0); (try clear hfz79_0); (try clear hfz81_0); (try clear hfz85_0); (try clear hfz93_0); (try clear hfz96_0); (try clear p2)
          obtain ⟨kq, x136_114, rfl, HA, HJ114, HO_696000, HO_701000, BK686, BK695, BK700, HB⟩ := hcut
          cases kq with
          | zero => exact absurd HA.out (by simp [mizmazelaw05_ColorAlike.j4])
          | succ kj114 =>
           have H := HA.out
           clear HA
           simp only [mizmazelaw05_ColorAlike.j4] at H
           by_cases c127 : x136_114 = true
           ·subst c127
            have H1 : (some false) = some r := by rw [if_pos rfl] at H; exact H
            clear H
            have H := H1
            clear H1
            obtain rfl := Option.some.inj H
            go_wp2
            go_ret
            exact ⟨by first | rfl | (simp [errW_none, errW_some] <;> rfl) | (simp [*, errW_none, errW_some] <;> rfl), bs HB.out⟩
           replace c127 := Bool.eq_false_iff.mpr c127
           subst c127
           have H1 : ((net_Sinks.f kj114 l0_0).bind fun bt722 => ((net_Sinks.f kj114 t696).bind fun bt726 => (if bt722.2 = 0 then (if bt726.2 = 0 then ((mizmazeref01_Sames.f kj114 bt722.1 bt726.1).bind fun t730 => (mizmazelaw05_ColorAlike.j5 kj114 (!t730) l0_0 t696)) else (mizmazelaw05_ColorAlike.j5 kj114 true l0_0 t696)) else (mizmazelaw05_ColorAlike.j5 kj114 true l0_0 t696)))) = some r := by rw [if_neg (show ¬ (false = true) by decide)] at H; exact H
           clear H
           have H := H1
           clear H1
           replace H := Option.bind_eq_some_iff.mp H
           obtain ⟨⟨t722, t725⟩, A1280, H⟩ := H
           replace H : ((net_Sinks.f kj114 t696).bind fun bt726 => (if t725 = 0 then (if bt726.2 = 0 then ((mizmazeref01_Sames.f kj114 t722 bt726.1).bind fun t730 => (mizmazelaw05_ColorAlike.j5 kj114 (!t730) l0_0 t696)) else (mizmazelaw05_ColorAlike.j5 kj114 true l0_0 t696)) else (mizmazelaw05_ColorAlike.j5 kj114 true l0_0 t696))) = some r := H
           have A128 := am A1280
           clear A1280
           replace H := Option.bind_eq_some_iff.mp H
           obtain ⟨⟨t726, t729⟩, A1290, H⟩ := H
           replace H : (if t725 = 0 then (if t729 = 0 then ((mizmazeref01_Sames.f kj114 t722 t726).bind fun t730 => (mizmazelaw05_ColorAlike.j5 kj114 (!t730) l0_0 t696)) else (mizmazelaw05_ColorAlike.j5 kj114 true l0_0 t696)) else (mizmazelaw05_ColorAlike.j5 kj114 true l0_0 t696)) = some r := H
           have A129 := am A1290
           clear A1290
           have HC130 := am H
           clear H
           have hnb131 := NB686_695.out
           have hnc131 := NB695_686.out
           have hnb132 := NB686_700.out
           have hnc132 := NB700_686.out
           have hcz133_0 : wc.cell? ⟨gb686, 0, none⟩ = some (.slice A0_0 l0_0.length c0_0) := (blk_cell BK686.out 0).trans rfl
           have hfz133_0 := blk_frozen BK686.out 0
           go_upto_region 21 with (first | ((with_reducible refine gate_callee (f := 24) rfl ?_); refine goesL_ (some 139) rfl rfl Try.func24 (by kernel_rfl) rfl #[.agg #[.slice A0_0 l0_0.length c0_0]] rfl zz1 ?_; (with_reducible refine (net_Sinks.calls kj114 _ _ l0_0 t722 t725 _ ?side1 ?side2 A128.out).mono ?_); (case side1 => exact kc (Kd.C_below HR0_0.out HB.out)); (case side2 => exact HC0_0.out); rintro e w134 ⟨v723, rfl, ho0, hb⟩; refine ⟨_, rfl, ?_⟩; have HO724 := am (Kd.S_lower (Kd.S_new' (Kd.S_new' ho0 (Kd.S_lt (kS HO_696000.out))) (Kd.S_lt (kS HO_701000.out))) (below_size (bs HB.out))); replace HO_696000 := am (Kd.S_elder' (kS HO_696000.out) (Kd.S_base ho0) hb); replace HO_701000 := am (Kd.S_elder' (kS HO_701000.out) (Kd.S_base ho0) hb); replace BK686 := am (blk_below (g := gb686) (o := .cells #[.slice A0_0 l0_0.length c0_0] 24 (0, 0)) (kb BK686.out) hb); replace BK695 := am (blk_below (g := gb695) (o := .cells #[.slice Ao32 t691.length co32] 24 (0, 0)) (kb BK695.out) hb); replace BK700 := am (blk_below (g := gb700) (o := .cells #[.slice Ao37 t696.length co37] 24 (0, 0)) (kb BK700.out) hb); replace HB := am (below_step (bs HB.out) hb); (try clear hb); (try clear hb2); (try clear hk); (try clear hi); (try clear ho0); have hnb135 := NB700_695.out; have hnc135 := NB695_700.out; have hcz136_0 : w134.cell? ⟨gb700, 0, none⟩ = some (.slice Ao37 t696.length co37) := (blk_cell BK700.out 0).trans rfl; have hfz136_0 := blk_frozen BK700.out 0) | ((with_reducible refine gate_callee (f := 24) rfl ?_); refine goesL_ (some 144) rfl rfl Try.func24 (by kernel_rfl) rfl #[.agg #[.slice Ao37 t696.length co37]] rfl zz1 ?_; (with_reducible refine (net_Sinks.calls kj114 _ _ t696 t726 t729 _ ?side1 ?side2 A129.out).mono ?_); (case side1 => repeat (first | exact (Kd.S_reads' HO_701000.out).2.2 | (with_reducible refine Kd.C_alloc ?_ _) | (with_reducible refine Kd.C_drewN ?_ _) | (with_reducible refine Kd.C_drew ?_))); (case side2 => exact (Kd.S_reads' HO_701000.out).2.1); rintro e w137 ⟨v727, rfl, ho0, hb⟩; refine ⟨_, rfl, ?_⟩; have HO728 := am (Kd.S_lower (Kd.S_new' (Kd.S_new' (Kd.S_new' ho0 (Kd.S_lt (kS HO_696000.out))) (Kd.S_lt (kS HO_701000.out))) (Kd.S_lt (kS HO724.out))) (below_size (bs HB.out))); replace HO_696000 := am (Kd.S_elder' (kS HO_696000.out) (Kd.S_base ho0) hb); replace HO_701000 := am (Kd.S_elder' (kS HO_701000.out) (Kd.S_base ho0) hb); replace HO724 := am (Kd.S_elder' (kS HO724.out) (Kd.S_base ho0) hb); replace BK686 := am (blk_below (g := gb686) (o := .cells #[.slice A0_0 l0_0.length c0_0] 24 (0, 0)) (kb BK686.out) hb); replace BK695 := am (blk_below (g := gb695) (o := .cells #[.slice Ao32 t691.length co32] 24 (0, 0)) (kb BK695.out) hb); replace BK700 := am (blk_below (g := gb700) (o := .cells #[.slice Ao37 t696.length co37] 24 (0, 0)) (kb BK700.out) hb); replace HB := am (below_step (bs HB.out) hb); (try clear hb); (try clear hb2); (try clear hk); (try clear hi); (try clear ho0)))
           (try simp only [Act.put, List.setIfInBounds_toArray, List.set_cons_zero, List.set_cons_succ])
           go_cut [158] (fun v158 wc => ∃ (kq : Nat) (x158_129 : Bool), v158 = .bool x158_129 ∧ Aside0 (mizmazelaw05_ColorAlike.j5 kq x158_129 l0_0 t696 = some r) ∧ Aside0 (kq ≤ kj114) ∧ Aside0 (Kd.S (Kd.slice 3 (Kd.int .i64)) 28 wc w.heap.size (fun k_ => some k_ ≠ ((.slice Ao37 t696.length co37) : Value).ownBlock) (.slice Ao32 t691.length co32) t691) ∧ Aside0 (Kd.S (Kd.slice 3 (Kd.int .i64)) 28 wc w.heap.size (fun k_ => some k_ ≠ ((.slice Ao32 t691.length co32) : Value).ownBlock) (.slice Ao37 t696.length co37) t696) ∧ Aside0 (wc.heap[gb686]? = some (.cells #[(.slice A0_0 l0_0.length c0_0)] 24 (0, 0))) ∧ Aside0 (wc.heap[gb695]? = some (.cells #[(.slice Ao32 t691.length co32)] 24 (0, 0))) ∧ Aside0 (wc.heap[gb700]? = some (.cells #[(.slice Ao37 t696.length co37)] 24 (0, 0))) ∧ Aside0 (Below w.heap.size w wc))
           case first => as_aux_lemma =>
            have H := HC130.out
            clear HC130
            by_cases c138 : t725 = 0
            rotate_left
            ·rw [if_neg c138] at H
             have c138b0 : (t725 == 0) = false := beq_eq_false_iff_ne.mpr c138
             have c138b1 : (t725 != 0) = true := bne_iff_ne.mpr c138
             (first | rw [c138b0] | (simp only [i64_w, i32_w]; rw [c138b0]) | skip)
             have H' := am H
             clear H
             go_wp2
             go_meet
             case rel => exact ⟨_, (true), zz3, H', ⟨by have := HJ3.out; have := HJ27.out; have := HJ89.out; have := HJ102.out; have := HJ114.out; first | omega | exact Nat.le_refl _⟩, ⟨kS (Kd.S_mono HO_696000.out (fun _ hk => hk.1.1))⟩, ⟨kS (Kd.S_mono HO_701000.out (fun _ hk => hk.1.1))⟩, ⟨kb BK686.out⟩, ⟨kb BK695.out⟩, ⟨kb BK700.out⟩, ⟨bs HB.out⟩⟩
            rw [if_pos c138] at H
            have c138b0 : (t725 == 0) = true := beq_iff_eq.mpr c138
            have c138b1 : (t725 != 0) = false := bne_eq_false_iff_eq.mpr c138
            clear c138
            (first | rw [c138b0] | (simp only [i64_w, i32_w]; rw [c138b0]) | skip)
            by_cases c139 : t729 = 0
            rotate_left
            ·rw [if_neg c139] at H
             have c139b0 : (t729 == 0) = false := beq_eq_false_iff_ne.mpr c139
             have c139b1 : (t729 != 0) = true := bne_iff_ne.mpr c139
             have H' := am H
             clear H
             go_wp2
             go_meet
             case rel => exact ⟨_, (true), zz3, H', ⟨by have := HJ3.out; have := HJ27.out; have := HJ89.out; have := HJ102.out; have := HJ114.out; first | omega | exact Nat.le_refl _⟩, ⟨kS (Kd.S_mono HO_696000.out (fun _ hk => hk.1.1))⟩, ⟨kS (Kd.S_mono HO_701000.out (fun _ hk => hk.1.1))⟩, ⟨kb BK686.out⟩, ⟨kb BK695.out⟩, ⟨kb BK700.out⟩, ⟨bs HB.out⟩⟩
            rw [if_pos c139] at H
            have c139b0 : (t729 == 0) = true := beq_iff_eq.mpr c139
            have c139b1 : (t729 != 0) = false := bne_eq_false_iff_eq.mpr c139
            clear c139
            replace H := Option.bind_eq_some_iff.mp H
            obtain ⟨t730, A1400, H⟩ := H
            replace H : (mizmazelaw05_ColorAlike.j5 kj114 (!t730) l0_0 t696) = some r := H
            have A140 := am A1400
            clear A1400
            have H' := am H
            clear H
            obtain ⟨Ao141, co141, eo141⟩ := Kd.S_slice HO724.out
            subst eo141
            obtain ⟨Ao142, co142, eo142⟩ := Kd.S_slice HO728.out
            subst eo142
            go_wp2_with (first | (go_at_call 27; (with_reducible refine (mizmazeref01_Sames.calls kj114 _ _ t722 _ _ t726 t730 _ ?side1 ?side2 ?side3 ?side4 A140.out).mono ?_); (case side1 => repeat (first | exact (Kd.S_reads' HO724.out).2.2 | (with_reducible refine Kd.C_alloc ?_ _) | (with_reducible refine Kd.C_drewN ?_ _) | (with_reducible refine Kd.C_drew ?_))); (case side2 => exact (Kd.S_reads' HO724.out).2.1); (case side3 => repeat (first | exact (Kd.S_reads' HO728.out).2.2 | (with_reducible refine Kd.C_alloc ?_ _) | (with_reducible refine Kd.C_drewN ?_ _) | (with_reducible refine Kd.C_drew ?_))); (case side4 => exact (Kd.S_reads' HO728.out).2.1); rintro e w' ⟨rfl, ⟨nd, rfl⟩⟩))
            go_meet
            case rel => exact ⟨_, (!t730), zz3, H', ⟨by have := HJ3.out; have := HJ27.out; have := HJ89.out; have := HJ102.out; have := HJ114.out; first | omega | exact Nat.le_refl _⟩, ⟨kS (Kd.S_mono HO_696000.out (fun _ hk => hk.1.1))⟩, ⟨kS (Kd.S_mono HO_701000.out (fun _ hk => hk.1.1))⟩, ⟨kb BK686.out⟩, ⟨kb BK695.out⟩, ⟨kb BK700.out⟩, ⟨bs HB.out⟩⟩
           case rest => as_aux_lemma =>
            clear HC130
            (try clear c1); (try clear c2); (try clear p2); (try clear c3); (try clear c4); (try clear c5); (try clear c6); (try clear c7); (try clear c8); (try clear c9); (try clear c10); (try clear c11); (try clear c12); (try clear c13); (try clear c16); (try clear c18); (try clear c23); (try clear c24); (try clear c25); (try clear c26); (try clear c33); (try clear c38); (try clear c39); (try clear c41); (try clear c41b0); (try clear c41b1); (try clear c42); (try clear c42b0); (try clear c42b1); (try clear c44); (try clear c45); (try clear c46); (try clear c48); (try clear c50); (try clear c51); (try clear c55); (try clear c64); (try clear c65); (try clear c69); (try clear c75); (try clear c76); (try clear c80); (try clear c83); (try clear c84); (try clear c87); (try clear c91); (try clear c92); (try clear c95); (try clear c98); (try clear c98b0); (try clear c98b1); (try clear c99); (try clear c99b0); (try clear c99b1); (try clear c100); (try clear c104); (try clear c105); (try clear c108); (try clear c111); (try clear c111b0); (try clear c111b1); (try clear c112); (try clear c116); (try clear c117); (try clear c120); (try clear c123); (try clear c123b0); (try clear c123b1); (try clear c127); (try clear c131); (try clear c132); (try clear c135); (try clear c138); (try clear c138b0); (try clear c138b1); (try clear c139); (try clear c139b0); (try clear c139b1); (try clear hcz106_0); (try clear hcz109_0); (try clear hcz118_0); (try clear hcz11_0); (try clear hcz121_0); (try clear hcz133_0); (try clear hcz136_0); (try clear hcz13_0); (try clear hcz15_0); (try clear hcz17_0); (try clear hcz19_0); (try clear hcz21_0); (try clear hcz29_0); (try clear hcz34_0); (try clear hcz40_0); (try clear hcz52_0); (try clear hcz54_0); (try clear hcz56_0); (try clear hcz58_0); (try clear hcz59_0); (try clear hcz61_0); (try clear hcz62_0); (try clear hcz66_0); (try clear hcz68_0); (try clear hcz70_0); (try clear hcz72_0); (try clear hcz73_0); (try clear hcz77_0); (try clear hcz79_0); (try clear hcz81_0); (try clear hcz85_0); (try clear hcz93_0); (try clear hcz96_0); (try clear hfz106_0); (try clear hfz109_0); (try clear hfz118_0); (try clear hfz11_0); (try clear hfz121_0); (try clear hfz133_0); (try clear hfz136_0); (try clear hfz13_0); (try clear hfz15_0); (try clear hfz17_0); (try clear hfz19_0); (try clear hfz21_0); (try clear hfz29_0); (try clear hfz34_0); (try clear hfz40_0); (try clear hfz52_0); (try clear hfz54_0); (try clear hfz56_0); (try clear hfz58_0); (try clear hfz59_0); (try clear hfz61_0); (try clear hfz62_0); (try clear hfz66_0); (try clear hfz68_0); (try clear hfz70_0); (try clear hfz72_0); (try clear hfz73_0); (try clear hfz77_0); (try clear hfz79_0); (try clear hfz81_0); (try clear hfz85_0); (try clear hfz93_0); (try clear hfz96_0); (try clear p2)
            obtain ⟨kq, x158_129, rfl, HA, HJ129, HO_696000, HO_701000, BK686, BK695, BK700, HB⟩ := hcut
            cases kq with
            | zero => exact absurd HA.out (by simp [mizmazelaw05_ColorAlike.j5])
            | succ kj129 =>
             have H := HA.out
             clear HA
             simp only [mizmazelaw05_ColorAlike.j5] at H
             by_cases c143 : x158_129 = true
             ·subst c143
              have H1 : (some false) = some r := by rw [if_pos rfl] at H; exact H
              clear H
              have H := H1
              clear H1
              obtain rfl := Option.some.inj H
              go_wp2
              go_ret
              exact ⟨by first | rfl | (simp [errW_none, errW_some] <;> rfl) | (simp [*, errW_none, errW_some] <;> rfl), bs HB.out⟩
             replace c143 := Bool.eq_false_iff.mpr c143
             subst c143
             have H1 : ((color_Colorings.f kj129 l0_0).bind fun bt731 => ((color_Colorings.f kj129 t696).bind fun bt733 => (if bt731.2 = bt733.2 then (if bt731.1 = bt733.1 then ((mizmazelaw05_awake.f kj129).bind fun t735 => (some t735)) else (some false)) else (some false)))) = some r := by rw [if_neg (show ¬ (false = true) by decide)] at H; exact H
             clear H
             have H := H1
             clear H1
             replace H := Option.bind_eq_some_iff.mp H
             obtain ⟨⟨t731, t732⟩, A1440, H⟩ := H
             replace H : ((color_Colorings.f kj129 t696).bind fun bt733 => (if t732 = bt733.2 then (if t731 = bt733.1 then ((mizmazelaw05_awake.f kj129).bind fun t735 => (some t735)) else (some false)) else (some false))) = some r := H
             have A144 := am A1440
             clear A1440
             replace H := Option.bind_eq_some_iff.mp H
             obtain ⟨⟨t733, t734⟩, A1450, H⟩ := H
             replace H : (if t732 = t734 then (if t731 = t733 then ((mizmazelaw05_awake.f kj129).bind fun t735 => (some t735)) else (some false)) else (some false)) = some r := H
             have A145 := am A1450
             clear A1450
             by_cases c146 : t732 = t734
             rotate_left
             ·rw [if_neg c146] at H
              have c146b0 : (t732 == t734) = false := beq_eq_false_iff_ne.mpr c146
              have c146b1 : (t732 != t734) = true := bne_iff_ne.mpr c146
              obtain rfl := Option.some.inj H
              have hnb164 := NB686_695.out
              have hnc164 := NB695_686.out
              have hnb165 := NB686_700.out
              have hnc165 := NB700_686.out
              have hcz166_0 : wc.cell? ⟨gb686, 0, none⟩ = some (.slice A0_0 l0_0.length c0_0) := (blk_cell BK686.out 0).trans rfl
              have hfz166_0 := blk_frozen BK686.out 0
              go_wp2_with (first | ((with_reducible refine gate_callee (f := 47) rfl ?_); refine goesL_ (some 161) rfl rfl Try.func47 (by kernel_rfl) rfl #[.agg #[.slice A0_0 l0_0.length c0_0]] rfl zz1 ?_; (with_reducible refine (color_Colorings.calls kj129 _ _ l0_0 t731 t732 _ ?side1 ?side2 A144.out).mono ?_); (case side1 => exact kc (Kd.C_below HR0_0.out HB.out)); (case side2 => exact HC0_0.out); rintro e w167 ⟨rfl, hb⟩; refine ⟨_, rfl, ?_⟩; replace HO_696000 := am (Kd.S_below (kS HO_696000.out) hb); replace HO_701000 := am (Kd.S_below (kS HO_701000.out) hb); replace BK686 := am (blk_below (g := gb686) (o := .cells #[.slice A0_0 l0_0.length c0_0] 24 (0, 0)) (kb BK686.out) hb); replace BK695 := am (blk_below (g := gb695) (o := .cells #[.slice Ao32 t691.length co32] 24 (0, 0)) (kb BK695.out) hb); replace BK700 := am (blk_below (g := gb700) (o := .cells #[.slice Ao37 t696.length co37] 24 (0, 0)) (kb BK700.out) hb); replace HB := am (below_step (bs HB.out) hb); (try clear hb); (try clear hb2); (try clear hk); (try clear hi); have hnb168 := NB700_695.out; have hnc168 := NB695_700.out; have hcz169_0 : w167.cell? ⟨gb700, 0, none⟩ = some (.slice Ao37 t696.length co37) := (blk_cell BK700.out 0).trans rfl; have hfz169_0 := blk_frozen BK700.out 0) | ((with_reducible refine gate_callee (f := 47) rfl ?_); refine goesL_ (some 166) rfl rfl Try.func47 (by kernel_rfl) rfl #[.agg #[.slice Ao37 t696.length co37]] rfl zz1 ?_; (with_reducible refine (color_Colorings.calls kj129 _ _ t696 t733 t734 _ ?side1 ?side2 A145.out).mono ?_); (case side1 => repeat (first | exact (Kd.S_reads' HO_701000.out).2.2 | (with_reducible refine Kd.C_alloc ?_ _) | (with_reducible refine Kd.C_drewN ?_ _) | (with_reducible refine Kd.C_drew ?_))); (case side2 => exact (Kd.S_reads' HO_701000.out).2.1); rintro e w170 ⟨rfl, hb⟩; refine ⟨_, rfl, ?_⟩; replace HO_696000 := am (Kd.S_below (kS HO_696000.out) hb); replace HO_701000 := am (Kd.S_below (kS HO_701000.out) hb); replace BK686 := am (blk_below (g := gb686) (o := .cells #[.slice A0_0 l0_0.length c0_0] 24 (0, 0)) (kb BK686.out) hb); replace BK695 := am (blk_below (g := gb695) (o := .cells #[.slice Ao32 t691.length co32] 24 (0, 0)) (kb BK695.out) hb); replace BK700 := am (blk_below (g := gb700) (o := .cells #[.slice Ao37 t696.length co37] 24 (0, 0)) (kb BK700.out) hb); replace HB := am (below_step (bs HB.out) hb); (try clear hb); (try clear hb2); (try clear hk); (try clear hi)))
              go_ret
              exact ⟨by first | rfl | (simp [errW_none, errW_some] <;> rfl) | (simp [*, errW_none, errW_some] <;> rfl), bs HB.out⟩
             rw [if_pos c146] at H
             have c146b0 : (t732 == t734) = true := beq_iff_eq.mpr c146
             have c146b1 : (t732 != t734) = false := bne_eq_false_iff_eq.mpr c146
             clear c146
             by_cases c147 : t731 = t733
             rotate_left
             ·rw [if_neg c147] at H
              have c147b0 : (t731 == t733) = false := beq_eq_false_iff_ne.mpr c147
              have c147b1 : (t731 != t733) = true := bne_iff_ne.mpr c147
              obtain rfl := Option.some.inj H
              have hnb157 := NB686_695.out
              have hnc157 := NB695_686.out
              have hnb158 := NB686_700.out
              have hnc158 := NB700_686.out
              have hcz159_0 : wc.cell? ⟨gb686, 0, none⟩ = some (.slice A0_0 l0_0.length c0_0) := (blk_cell BK686.out 0).trans rfl
              have hfz159_0 := blk_frozen BK686.out 0
              go_wp2_with (first | ((with_reducible refine gate_callee (f := 47) rfl ?_); refine goesL_ (some 161) rfl rfl Try.func47 (by kernel_rfl) rfl #[.agg #[.slice A0_0 l0_0.length c0_0]] rfl zz1 ?_; (with_reducible refine (color_Colorings.calls kj129 _ _ l0_0 t731 t732 _ ?side1 ?side2 A144.out).mono ?_); (case side1 => exact kc (Kd.C_below HR0_0.out HB.out)); (case side2 => exact HC0_0.out); rintro e w160 ⟨rfl, hb⟩; refine ⟨_, rfl, ?_⟩; replace HO_696000 := am (Kd.S_below (kS HO_696000.out) hb); replace HO_701000 := am (Kd.S_below (kS HO_701000.out) hb); replace BK686 := am (blk_below (g := gb686) (o := .cells #[.slice A0_0 l0_0.length c0_0] 24 (0, 0)) (kb BK686.out) hb); replace BK695 := am (blk_below (g := gb695) (o := .cells #[.slice Ao32 t691.length co32] 24 (0, 0)) (kb BK695.out) hb); replace BK700 := am (blk_below (g := gb700) (o := .cells #[.slice Ao37 t696.length co37] 24 (0, 0)) (kb BK700.out) hb); replace HB := am (below_step (bs HB.out) hb); (try clear hb); (try clear hb2); (try clear hk); (try clear hi); have hnb161 := NB700_695.out; have hnc161 := NB695_700.out; have hcz162_0 : w160.cell? ⟨gb700, 0, none⟩ = some (.slice Ao37 t696.length co37) := (blk_cell BK700.out 0).trans rfl; have hfz162_0 := blk_frozen BK700.out 0) | ((with_reducible refine gate_callee (f := 47) rfl ?_); refine goesL_ (some 166) rfl rfl Try.func47 (by kernel_rfl) rfl #[.agg #[.slice Ao37 t696.length co37]] rfl zz1 ?_; (with_reducible refine (color_Colorings.calls kj129 _ _ t696 t733 t734 _ ?side1 ?side2 A145.out).mono ?_); (case side1 => repeat (first | exact (Kd.S_reads' HO_701000.out).2.2 | (with_reducible refine Kd.C_alloc ?_ _) | (with_reducible refine Kd.C_drewN ?_ _) | (with_reducible refine Kd.C_drew ?_))); (case side2 => exact (Kd.S_reads' HO_701000.out).2.1); rintro e w163 ⟨rfl, hb⟩; refine ⟨_, rfl, ?_⟩; replace HO_696000 := am (Kd.S_below (kS HO_696000.out) hb); replace HO_701000 := am (Kd.S_below (kS HO_701000.out) hb); replace BK686 := am (blk_below (g := gb686) (o := .cells #[.slice A0_0 l0_0.length c0_0] 24 (0, 0)) (kb BK686.out) hb); replace BK695 := am (blk_below (g := gb695) (o := .cells #[.slice Ao32 t691.length co32] 24 (0, 0)) (kb BK695.out) hb); replace BK700 := am (blk_below (g := gb700) (o := .cells #[.slice Ao37 t696.length co37] 24 (0, 0)) (kb BK700.out) hb); replace HB := am (below_step (bs HB.out) hb); (try clear hb); (try clear hb2); (try clear hk); (try clear hi)))
              go_ret
              exact ⟨by first | rfl | (simp [errW_none, errW_some] <;> rfl) | (simp [*, errW_none, errW_some] <;> rfl), bs HB.out⟩
             rw [if_pos c147] at H
             have c147b0 : (t731 == t733) = true := beq_iff_eq.mpr c147
             have c147b1 : (t731 != t733) = false := bne_eq_false_iff_eq.mpr c147
             clear c147
             replace H := Option.bind_eq_some_iff.mp H
             obtain ⟨t735, A1480, H⟩ := H
             replace H : (some t735) = some r := H
             have A148 := am A1480
             clear A1480
             obtain rfl := Option.some.inj H
             have hnb149 := NB686_695.out
             have hnc149 := NB695_686.out
             have hnb150 := NB686_700.out
             have hnc150 := NB700_686.out
             have hcz151_0 : wc.cell? ⟨gb686, 0, none⟩ = some (.slice A0_0 l0_0.length c0_0) := (blk_cell BK686.out 0).trans rfl
             have hfz151_0 := blk_frozen BK686.out 0
             go_wp2_with (first | ((with_reducible refine gate_callee (f := 47) rfl ?_); refine goesL_ (some 161) rfl rfl Try.func47 (by kernel_rfl) rfl #[.agg #[.slice A0_0 l0_0.length c0_0]] rfl zz1 ?_; (with_reducible refine (color_Colorings.calls kj129 _ _ l0_0 t731 t732 _ ?side1 ?side2 A144.out).mono ?_); (case side1 => exact kc (Kd.C_below HR0_0.out HB.out)); (case side2 => exact HC0_0.out); rintro e w152 ⟨rfl, hb⟩; refine ⟨_, rfl, ?_⟩; replace HO_696000 := am (Kd.S_below (kS HO_696000.out) hb); replace HO_701000 := am (Kd.S_below (kS HO_701000.out) hb); replace BK686 := am (blk_below (g := gb686) (o := .cells #[.slice A0_0 l0_0.length c0_0] 24 (0, 0)) (kb BK686.out) hb); replace BK695 := am (blk_below (g := gb695) (o := .cells #[.slice Ao32 t691.length co32] 24 (0, 0)) (kb BK695.out) hb); replace BK700 := am (blk_below (g := gb700) (o := .cells #[.slice Ao37 t696.length co37] 24 (0, 0)) (kb BK700.out) hb); replace HB := am (below_step (bs HB.out) hb); (try clear hb); (try clear hb2); (try clear hk); (try clear hi); have hnb153 := NB700_695.out; have hnc153 := NB695_700.out; have hcz154_0 : w152.cell? ⟨gb700, 0, none⟩ = some (.slice Ao37 t696.length co37) := (blk_cell BK700.out 0).trans rfl; have hfz154_0 := blk_frozen BK700.out 0) | ((with_reducible refine gate_callee (f := 47) rfl ?_); refine goesL_ (some 166) rfl rfl Try.func47 (by kernel_rfl) rfl #[.agg #[.slice Ao37 t696.length co37]] rfl zz1 ?_; (with_reducible refine (color_Colorings.calls kj129 _ _ t696 t733 t734 _ ?side1 ?side2 A145.out).mono ?_); (case side1 => repeat (first | exact (Kd.S_reads' HO_701000.out).2.2 | (with_reducible refine Kd.C_alloc ?_ _) | (with_reducible refine Kd.C_drewN ?_ _) | (with_reducible refine Kd.C_drew ?_))); (case side2 => exact (Kd.S_reads' HO_701000.out).2.1); rintro e w155 ⟨rfl, hb⟩; refine ⟨_, rfl, ?_⟩; replace HO_696000 := am (Kd.S_below (kS HO_696000.out) hb); replace HO_701000 := am (Kd.S_below (kS HO_701000.out) hb); replace BK686 := am (blk_below (g := gb686) (o := .cells #[.slice A0_0 l0_0.length c0_0] 24 (0, 0)) (kb BK686.out) hb); replace BK695 := am (blk_below (g := gb695) (o := .cells #[.slice Ao32 t691.length co32] 24 (0, 0)) (kb BK695.out) hb); replace BK700 := am (blk_below (g := gb700) (o := .cells #[.slice Ao37 t696.length co37] 24 (0, 0)) (kb BK700.out) hb); replace HB := am (below_step (bs HB.out) hb); (try clear hb); (try clear hb2); (try clear hk); (try clear hi)) | (go_at_call 45; (with_reducible refine (mizmazelaw05_awake.calls kj129  t735 _ A148.out).mono ?_); rintro e w156 ⟨rfl, hb⟩; replace HO_696000 := am (Kd.S_below (kS HO_696000.out) hb); replace HO_701000 := am (Kd.S_below (kS HO_701000.out) hb); replace BK686 := am (blk_below (g := gb686) (o := .cells #[.slice A0_0 l0_0.length c0_0] 24 (0, 0)) (kb BK686.out) hb); replace BK695 := am (blk_below (g := gb695) (o := .cells #[.slice Ao32 t691.length co32] 24 (0, 0)) (kb BK695.out) hb); replace BK700 := am (blk_below (g := gb700) (o := .cells #[.slice Ao37 t696.length co37] 24 (0, 0)) (kb BK700.out) hb); replace HB := am (below_step (bs HB.out) hb); (try clear hb); (try clear hb2); (try clear hk); (try clear hi)))
             go_ret
             exact ⟨by first | rfl | (simp [errW_none, errW_some] <;> rfl) | (simp [*, errW_none, errW_some] <;> rfl), bs HB.out⟩
end Go.Proofs.Ytjgdalhdiohclaa.Q
end
