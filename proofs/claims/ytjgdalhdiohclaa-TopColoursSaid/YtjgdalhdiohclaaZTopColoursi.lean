/- Part of the proof of TopColours (text 9 of 33) -/
import Derived.Test.YtjgdalhdiohclaaZTopColoursh
set_option linter.unusedVariables false
set_option linter.unusedSimpArgs false
set_option linter.unusedSectionVars false
set_option maxRecDepth 100000
set_option maxHeartbeats 8000000
open Go.RowKit Go.Proofs.YtjgdalhdiohclaaW.PrintWords Go.Proofs.YtjgdalhdiohclaaW.PrintLast Go.Proofs.YtjgdalhdiohclaaW.PrintMore
section
namespace Go.Proofs.Ytjgdalhdiohclaa.Q
attribute [local go_sem] max2_int min2_int max_two min_two max_three min_three max_four min_four
mutual
def mizmazetop_alike.j0 : Nat → Bool → List (List Int) → List (List Int) → Option (Bool)
 | 0, _, _, _ => none
 | k + 1, x31, x823000, x824000 => if x31 = true then (some false) else (mizmazetop_alike.l0 k 0 x823000 x824000)
def mizmazetop_alike.l0 : Nat → Int → List (List Int) → List (List Int) → Option (Bool)
 | 0, _, _, _ => none
 | k + 1, x5, x823000, x824000 => if x5 < (x823000.length : Int) then (mizmazetop_alike.l1 k x5 0 x823000 x824000) else (some true)
def mizmazetop_alike.l1 : Nat → Int → Int → List (List Int) → List (List Int) → Option (Bool)
 | 0, _, _, _, _ => none
 | k + 1, x5, x6, x823000, x824000 => if x6 < (x823000.length : Int) then (if 0 ≤ x5 then (if x5 < (x823000.length : Int) then ((mizmazetop_times.f k (rd_L1 x823000 x5) x6).bind fun t828 => (if x5 < (x824000.length : Int) then ((mizmazetop_times.f k (rd_L1 x824000 x5) x6).bind fun t830 => (if t828 = t830 then (mizmazetop_alike.l1 k x5 (wrap64 (x6 + 1)) x823000 x824000) else (some false))) else (none))) else (none)) else (none)) else (mizmazetop_alike.l0 k (wrap64 (x5 + 1)) x823000 x824000)
end
def mizmazetop_alike.f (k : Nat) (l0_0 : List (List Int)) (l1_0 : List (List Int)) : Option (Bool) := (mizmazetop_valid.f k l1_0).bind fun t824 => (if t824 = true then (if (l0_0.length : Int) = (l1_0.length : Int) then (if 0 < (l0_0.length : Int) then (if 0 < (l1_0.length : Int) then (mizmazetop_alike.j0 k (((rd_L1 l0_0 0).length : Int) != ((rd_L1 l1_0 0).length : Int)) l0_0 l1_0) else (none)) else (none)) else (mizmazetop_alike.j0 k true l0_0 l1_0)) else (mizmazetop_alike.j0 k true l0_0 l1_0))
def mizmazetop_alike.T1 : Bool × List (List Nat × List Nat) := (true, [([], []), ([0], [0]), ([1], [1]), ([2, 1], [2]), ([3], [3]), ([4, 3], [3, 4]), ([5, 3], [3, 5]), ([3], [3]), ([7, 3], [3, 7]), ([8, 3], [3, 8]), ([6, 9, 3], [3, 6, 9]), ([3, 10], [3, 10]), ([11, 3], [11]), ([12], [12]), ([13, 12], [12, 13]), ([14, 12], [12, 14]), ([15, 12], [12, 15]), ([16, 12], [12, 16]), ([12], [12]), ([18, 12], [12, 18]), ([19, 12], [12, 19]), ([20, 12], [12, 20]), ([21, 12], [12, 21]), ([17, 22, 12], [12, 17, 22]), ([12, 23], [12, 23])])
def mizmazetop_alike.B1 : List Nat := [0, 1, 3, 7, 15, 31, 63, 15, 143, 399, 1023, 2047, 4095, 8191, 16383, 32767, 65535, 131071, 8191, 270335, 794623, 1843199, 3940351, 8388607, 16777215]
theorem mizmazetop_alike.tab1 : rtab .any (opsOf Try.f59 1) = mizmazetop_alike.T1 := by kernel_rfl
theorem mizmazetop_alike.bits1 : waitsOk mizmazetop_alike.T1.2 mizmazetop_alike.B1 = true := by kernel_rfl
def mizmazetop_alike.T9 : Bool × List (List Nat × List Nat) := (true, [([], []), ([0], [0]), ([], []), ([1, 2], [1, 2]), ([3], [3]), ([], []), ([4, 5], [4, 5]), ([], []), ([7], [7]), ([], []), ([8, 9], [8, 9]), ([10], [10]), ([], []), ([11, 12, 6], [11, 12]), ([6, 13], [6, 13])])
def mizmazetop_alike.B9 : List Nat := [0, 1, 0, 7, 15, 0, 63, 0, 128, 0, 896, 1920, 0, 8191, 16383]
theorem mizmazetop_alike.tab9 : rtab .any (opsOf Try.f59 9) = mizmazetop_alike.T9 := by kernel_rfl
theorem mizmazetop_alike.bits9 : waitsOk mizmazetop_alike.T9.2 mizmazetop_alike.B9 = true := by kernel_rfl
def ta0 : Array Bool := #[true, false, false, false, false, false, false, false, false, false, false, false, false, false, false, false, false, false, false, false, false, false, false, false, false]
def ta1 : Array Bool := #[true, true, false, false, false, false, false, false, false, false, false, false, false, false, false, false, false, false, false, false, false, false, false, false, false]
def ta2 : Array Bool := #[true, true, true, false, false, false, false, false, false, false, false, false, false, false, false, false, false, false, false, false, false, false, false, false, false]
def ta3 : Array Bool := #[true, true, true, true, false, false, false, false, false, false, false, false, false, false, false, false, false, false, false, false, false, false, false, false, false]
def ta4 : Array Bool := #[true, true, true, true, true, false, false, false, false, false, false, false, false, false, false, false, false, false, false, false, false, false, false, false, false]
def ta5 : Array Bool := #[true, true, true, true, true, false, false, true, false, false, false, false, false, false, false, false, false, false, false, false, false, false, false, false, false]
def ta6 : Array Bool := #[true, true, true, true, true, true, false, true, false, false, false, false, false, false, false, false, false, false, false, false, false, false, false, false, false]
def ta7 : Array Bool := #[true, true, true, true, true, true, true, true, false, false, false, false, false, false, false, false, false, false, false, false, false, false, false, false, false]
def ta8 : Array Bool := #[true, true, true, true, true, true, true, true, true, false, false, false, false, false, false, false, false, false, false, false, false, false, false, false, false]
def ta9 : Array Bool := #[true, true, true, true, true, true, true, true, true, true, false, false, false, false, false, false, false, false, false, false, false, false, false, false, false]
def ta10 : Array Bool := #[true, true, true, true, true, true, true, true, true, true, true, false, false, false, false, false, false, false, false, false, false, false, false, false, false]
def ta11 : Array Bool := #[true, true, true, true, true, true, true, true, true, true, true, true, false, false, false, false, false, false, false, false, false, false, false, false, false]
def ta12 : Array Bool := #[true, true, true, true, true, true, true, true, true, true, true, true, true, false, false, false, false, false, false, false, false, false, false, false, false]
def ta13 : Array Bool := #[true, true, true, true, true, true, true, true, true, true, true, true, true, true, false, false, false, false, false, false, false, false, false, false, false]
def ta14 : Array Bool := #[true, true, true, true, true, true, true, true, true, true, true, true, true, true, false, false, false, false, true, false, false, false, false, false, false]
def ta15 : Array Bool := #[true, true, true, true, true, true, true, true, true, true, true, true, true, true, true, false, false, false, true, false, false, false, false, false, false]
def ta16 : Array Bool := #[true, true, true, true, true, true, true, true, true, true, true, true, true, true, true, true, false, false, true, false, false, false, false, false, false]
def ta17 : Array Bool := #[true, true, true, true, true, true, true, true, true, true, true, true, true, true, true, true, true, false, true, false, false, false, false, false, false]
def ta18 : Array Bool := #[true, true, true, true, true, true, true, true, true, true, true, true, true, true, true, true, true, true, true, false, false, false, false, false, false]
def ta19 : Array Bool := #[true, true, true, true, true, true, true, true, true, true, true, true, true, true, true, true, true, true, true, true, false, false, false, false, false]
def ta20 : Array Bool := #[true, true, true, true, true, true, true, true, true, true, true, true, true, true, true, true, true, true, true, true, true, false, false, false, false]
def ta21 : Array Bool := #[true, true, true, true, true, true, true, true, true, true, true, true, true, true, true, true, true, true, true, true, true, true, false, false, false]
def ta22 : Array Bool := #[true, true, true, true, true, true, true, true, true, true, true, true, true, true, true, true, true, true, true, true, true, true, true, false, false]
def ta23 : Array Bool := #[true, true, true, true, true, true, true, true, true, true, true, true, true, true, true, true, true, true, true, true, true, true, true, true, false]
def ta24 : Array Bool := #[true, true, true, true, true, true, true, true, true, true, true, true, true, true, true, true, true, true, true, true, true, true, true, true, true]
def ta25 : Array Bool := #[true, true, true, true, true, true, true, true, true, true, true, true, true, true, true, false, false, false, false, false, false, false, false, false, false]
def ta26 : Array Bool := #[true, true, true, true, true, true, true, true, true, true, true, true, true, true, true, true, false, false, false, false, false, false, false, false, false]
def ta27 : Array Bool := #[true, true, true, true, true, true, true, true, true, true, true, true, true, true, true, true, true, false, false, false, false, false, false, false, false]
def ta28 : Array Bool := #[true, true, true, true, true, true, true, true, true, true, true, true, true, true, true, true, true, true, false, false, false, false, false, false, false]
def ta29 : Array Bool := #[true, true, true, true, true, true, false, false, false, false, false, false, false, false, false, false, false, false, false, false, false, false, false, false, false]
def ta30 : Array Bool := #[true, true, true, true, true, true, true, false, false, false, false, false, false, false, false, false, false, false, false, false, false, false, false, false, false]
def ta31 : Array Bool := #[true, false, false, false, false, false, false, false, false, false, false, false, false, false, false]
def ta32 : Array Bool := #[true, false, true, false, false, false, false, false, false, false, false, false, false, false, false]
def ta33 : Array Bool := #[true, false, true, false, false, true, false, false, false, false, false, false, false, false, false]
def ta34 : Array Bool := #[true, false, true, false, false, true, false, true, false, false, false, false, false, false, false]
def ta35 : Array Bool := #[true, false, true, false, false, true, false, true, false, true, false, false, false, false, false]
def ta36 : Array Bool := #[true, false, true, false, false, true, false, true, false, true, false, false, true, false, false]
def ta37 : Array Bool := #[true, true, true, false, false, true, false, true, false, true, false, false, true, false, false]
def ta38 : Array Bool := #[true, true, true, true, false, true, false, true, false, true, false, false, true, false, false]
def ta39 : Array Bool := #[true, true, true, true, true, true, false, true, false, true, false, false, true, false, false]
def ta40 : Array Bool := #[true, true, true, true, true, true, false, true, true, true, false, false, true, false, false]
def ta41 : Array Bool := #[true, true, true, true, true, true, false, true, true, true, true, false, true, false, false]
def ta42 : Array Bool := #[true, true, true, true, true, true, false, true, true, true, true, true, true, false, false]
def ta43 : Array Bool := #[true, true, true, true, true, true, true, true, true, true, true, true, true, false, false]
def ta44 : Array Bool := #[true, true, true, true, true, true, true, true, true, true, true, true, true, true, false]
def ta45 : Array Bool := #[true, true, true, true, true, true, true, true, true, true, true, true, true, true, true]
theorem mizmazetop_alike.calls (k : Nat) (A0_0 : Option Addr) (c0_0 : Nat) (l0_0 : List (List Int)) (A1_0 : Option Addr) (c1_0 : Nat) (l1_0 : List (List Int)) (r : Bool) (w : World) (hr0_0 : Kd.C (Kd.slice 3 (Kd.int .i64)) w A0_0 l0_0.length l0_0) (hc0_0 : l0_0.length ≤ c0_0) (hr1_0 : Kd.C (Kd.slice 3 (Kd.int .i64)) w A1_0 l1_0.length l1_0) (hc1_0 : l1_0.length ≤ c1_0) (h : mizmazetop_alike.f k l0_0 l1_0 = some r) :
    Calls Try.prog 59 #[.agg #[.slice A0_0 l0_0.length c0_0], .agg #[.slice A1_0 l1_0.length c1_0]] w fun e w' => e = .returned (.bool r) ∧ Below w.heap.size w w' := by
 have hu24 := Try.underlying24
 have HR0_0 := am hr0_0
 have HC0_0 := am hc0_0
 clear hr0_0 hc0_0
 have HR1_0 := am hr1_0
 have HC1_0 := am hc1_0
 clear hr1_0 hc1_0
 have HB := am (Below.refl w.heap.size w)
 have H : ((mizmazetop_valid.f k l1_0).bind fun t824 => (if t824 = true then (if (l0_0.length : Int) = (l1_0.length : Int) then (if 0 < (l0_0.length : Int) then (if 0 < (l1_0.length : Int) then (mizmazetop_alike.j0 k (((rd_L1 l0_0 0).length : Int) != ((rd_L1 l1_0 0).length : Int)) l0_0 l1_0) else (none)) else (none)) else (mizmazetop_alike.j0 k true l0_0 l1_0)) else (mizmazetop_alike.j0 k true l0_0 l1_0))) = some r := h
 clear h
 have HC3 := am H
 clear H
 go_enter Try.func59, Try.ntmps59
 go_upto_region 1 with (first | ((with_reducible refine gate_dst (N := 2) rfl ?_); (try (refine gate_guard (by rfl) ?_; dsimp only)); refine box_event zz5 (N := 2) zz5 (cs := #[.slice A0_0 l0_0.length c0_0]) (t := 24) zz6 ?_; intro gb822 hg w4 hbox hb; have BK822 := am (hbox); have GW822 := am ((by rw [hg]; exact (below_size (bw HB.out)) : w.heap.size ≤ gb822)); have GE822 := am ((by rw [hg]; exact (below_size (bw HB.out)) : w.heap.size ≤ gb822)); replace HB := am (below_step (bw HB.out) hb); clear hb hbox hg) | ((with_reducible refine gate_dst (N := 3) rfl ?_); (try (refine gate_guard (by rfl) ?_; dsimp only)); refine box_event zz5 (N := 3) zz5 (cs := #[.slice A1_0 l1_0.length c1_0]) (t := 24) zz6 ?_; intro gb823 hg w5 hbox hb; have BK823 := am (hbox); have GW823 := am ((by rw [hg]; exact (below_size (bs HB.out)) : w.heap.size ≤ gb823)); have GE823 := am ((by rw [hg]; exact (below_size (bs HB.out)) : w.heap.size ≤ gb823)); replace HB := am (below_step (bs HB.out) hb); have NB822_823 := am ((by rw [hg]; exact Nat.ne_of_lt (blk_lt (g := gb822) (o := .cells #[.slice A0_0 l0_0.length c0_0] 24 (0, 0)) (kb BK822.out)) : gb822 ≠ gb823)); have NB823_822 := am ((by rw [hg]; exact Nat.ne_of_gt (blk_lt (g := gb822) (o := .cells #[.slice A0_0 l0_0.length c0_0] 24 (0, 0)) (kb BK822.out)) : gb823 ≠ gb822)); replace BK822 := am (blk_below (g := gb822) (o := .cells #[.slice A0_0 l0_0.length c0_0] 24 (0, 0)) (kb BK822.out) hb); clear hb hbox hg))
 (try simp only [Act.put, List.setIfInBounds_toArray, List.set_cons_zero, List.set_cons_succ])
 go_cut [31] (fun v31 wc => ∃ (kq : Nat) (x31_2 : Bool), v31 = .bool x31_2 ∧ Aside0 (mizmazetop_alike.j0 kq x31_2 l0_0 l1_0 = some r) ∧ Aside0 (kq ≤ k) ∧ Aside0 (wc.heap[gb822]? = some (.cells #[(.slice A0_0 l0_0.length c0_0)] 24 (0, 0))) ∧ Aside0 (wc.heap[gb823]? = some (.cells #[(.slice A1_0 l1_0.length c1_0)] 24 (0, 0))) ∧ Aside0 (Below w.heap.size w wc))
 case first =>
  have H := HC3.out
  clear HC3
  replace H := Option.bind_eq_some_iff.mp H
  obtain ⟨t824, A60, H⟩ := H
  replace H : (if t824 = true then (if (l0_0.length : Int) = (l1_0.length : Int) then (if 0 < (l0_0.length : Int) then (if 0 < (l1_0.length : Int) then (mizmazetop_alike.j0 k (((rd_L1 l0_0 0).length : Int) != ((rd_L1 l1_0 0).length : Int)) l0_0 l1_0) else (none)) else (none)) else (mizmazetop_alike.j0 k true l0_0 l1_0)) else (mizmazetop_alike.j0 k true l0_0 l1_0)) = some r := H
  have A6 := am A60
  clear A60
  by_cases c7 : t824 = true
  rotate_left
  ·replace c7 := Bool.eq_false_iff.mpr c7
   subst c7
   have H1 : (mizmazetop_alike.j0 k true l0_0 l1_0) = some r := by rw [if_neg (show ¬ (false = true) by decide)] at H; exact H
   clear H
   have H := H1
   clear H1
   have H' := am H
   clear H
   try go_wp2
   replace BK822 := am (blk_drew BK822.out)
   replace BK823 := am (blk_drew BK823.out)
   replace HB := am (bd HB.out)
   refine start_ (n := 25) (S := fun w' => w'.cell? ⟨gb823, 0, none⟩ = some (.slice A1_0 l1_0.length c1_0)) (ds := []) #[false, false, false, false, false, false, false, false, false, false, false, false, false, false, false, false, false, false, false, false, false, false, false, false, false] (by kernel_rfl) rfl rfl ((blk_cell BK823.out 0).trans rfl) (fun hHeld => ?_); refine with_tabW mizmazetop_alike.tab1 mizmazetop_alike.bits1 (fun HT_ HW_ => ?_)
   generalize w5.drew = w15 at BK822 BK823 HB hHeld ⊢
   refine tv_ 0 7 ta0 HT_ HW_ hHeld ?_
   refine one_ (i := 1) (N := some 8) ta1 rfl rfl (one_of HT_.out (by kernel_rfl)) (by decide) (fun K hK => ?_)
   refine goes_ Try.func54 (by kernel_rfl) rfl #[.agg #[.slice A1_0 l1_0.length c1_0]] (by rfl) rfl rfl zz1 ?_
   with_reducible refine (mizmazetop_valid.calls k _ _ l1_0 false _ ?side1 ?side2 A6.out).mono ?_
   (case side1 => exact kc (Kd.C_below HR1_0.out HB.out))
   (case side2 => exact HC1_0.out)
   rintro e w16 ⟨rfl, hb⟩
   refine ⟨_, rfl, ?_⟩
   replace BK822 := am (blk_below (g := gb822) (o := .cells #[.slice A0_0 l0_0.length c0_0] 24 (0, 0)) (kb BK822.out) hb)
   replace BK823 := am (blk_below (g := gb823) (o := .cells #[.slice A1_0 l1_0.length c1_0] 24 (0, 0)) (kb BK823.out) hb)
   replace HB := am (below_step (bs HB.out) hb)
   (try clear hb)
   (try clear hb2)
   (try clear hk)
   (try clear hi)
   refine hK.out _ _ ((blk_cell BK823.out 0).trans rfl) (fun hHeld => ?_)
   clear hK K
   refine nm_ 8 ?_
   refine pv_ 2 9 ta2 HT_ ?_
   refine pv_ 3 10 ta3 HT_ ?_
   refine pu_ 4 11 ta4 HT_ ?_
   refine pu_ 5 12 ta29 HT_ ?_
   refine pu_ 6 13 ta30 HT_ ?_
   refine pu_ 7 14 ta7 HT_ ?_
   refine pu_ 8 15 ta8 HT_ ?_
   refine pu_ 9 16 ta9 HT_ ?_
   refine pu_ 10 17 ta10 HT_ ?_
   refine pv_ 11 18 ta11 HT_ ?_
   refine pv_ 12 19 ta12 HT_ ?_
   refine pu_ 13 20 ta13 HT_ ?_
   refine pu_ 14 21 ta25 HT_ ?_
   refine pu_ 15 22 ta26 HT_ ?_
   refine pu_ 16 23 ta27 HT_ ?_
   refine pu_ 17 24 ta28 HT_ ?_
   refine pu_ 18 25 ta18 HT_ ?_
   refine pu_ 19 26 ta19 HT_ ?_
   refine pu_ 20 27 ta20 HT_ ?_
   refine pu_ 21 28 ta21 HT_ ?_
   refine pu_ 22 29 ta22 HT_ ?_
   refine pu_ 23 30 ta23 HT_ ?_
   refine pv_ 24 31 ta24 HT_ ?_
   refine done_ (done_of HT_.out (by kernel_rfl)) ?_
   try go_wp2
   go_meet
   case rel => exact ⟨_, (true), zz3, H', ⟨by first | omega | exact Nat.le_refl _⟩, ⟨kb BK822.out⟩, ⟨kb BK823.out⟩, ⟨bs HB.out⟩⟩
  subst c7
  have H1 : (if (l0_0.length : Int) = (l1_0.length : Int) then (if 0 < (l0_0.length : Int) then (if 0 < (l1_0.length : Int) then (mizmazetop_alike.j0 k (((rd_L1 l0_0 0).length : Int) != ((rd_L1 l1_0 0).length : Int)) l0_0 l1_0) else (none)) else (none)) else (mizmazetop_alike.j0 k true l0_0 l1_0)) = some r := by rw [if_pos rfl] at H; exact H
  clear H
  have H := H1
  clear H1
  by_cases c8 : (l0_0.length : Int) = (l1_0.length : Int)
  rotate_left
  ·rw [if_neg c8] at H
   have c8b0 : ((l0_0.length : Int) == (l1_0.length : Int)) = false := beq_eq_false_iff_ne.mpr c8
   have c8b1 : ((l0_0.length : Int) != (l1_0.length : Int)) = true := bne_iff_ne.mpr c8
   have c8b2 : (l0_0.length == l1_0.length) = false := by first | simpa using c8 | (simp at c8 ⊢; omega)
   (first | rw [c8b0] | (simp only [i64_w, i32_w]; rw [c8b0]) | skip)
   have H' := am H
   clear H
   try go_wp2
   replace BK822 := am (blk_drew BK822.out)
   replace BK823 := am (blk_drew BK823.out)
   replace HB := am (bd HB.out)
   refine start_ (n := 25) (S := fun w' => w'.cell? ⟨gb823, 0, none⟩ = some (.slice A1_0 l1_0.length c1_0) ∧ w'.cell? ⟨gb822, 0, none⟩ = some (.slice A0_0 l0_0.length c0_0)) (ds := []) #[false, false, false, false, false, false, false, false, false, false, false, false, false, false, false, false, false, false, false, false, false, false, false, false, false] (by kernel_rfl) rfl rfl ⟨(blk_cell BK823.out 0).trans rfl, (blk_cell BK822.out 0).trans rfl⟩ (fun hHeld => ?_); refine with_tabW mizmazetop_alike.tab1 mizmazetop_alike.bits1 (fun HT_ HW_ => ?_)
   generalize w5.drew = w13 at BK822 BK823 HB hHeld ⊢
   refine tv_ 0 7 ta0 HT_ HW_ hHeld ?_
   refine one_ (i := 1) (N := some 8) ta1 rfl rfl (one_of HT_.out (by kernel_rfl)) (by decide) (fun K hK => ?_)
   refine goes_ Try.func54 (by kernel_rfl) rfl #[.agg #[.slice A1_0 l1_0.length c1_0]] (by rfl) rfl rfl zz1 ?_
   with_reducible refine (mizmazetop_valid.calls k _ _ l1_0 true _ ?side1 ?side2 A6.out).mono ?_
   (case side1 => exact kc (Kd.C_below HR1_0.out HB.out))
   (case side2 => exact HC1_0.out)
   rintro e w14 ⟨rfl, hb⟩
   refine ⟨_, rfl, ?_⟩
   replace BK822 := am (blk_below (g := gb822) (o := .cells #[.slice A0_0 l0_0.length c0_0] 24 (0, 0)) (kb BK822.out) hb)
   replace BK823 := am (blk_below (g := gb823) (o := .cells #[.slice A1_0 l1_0.length c1_0] 24 (0, 0)) (kb BK823.out) hb)
   replace HB := am (below_step (bs HB.out) hb)
   (try clear hb)
   (try clear hb2)
   (try clear hk)
   (try clear hi)
   refine hK.out _ _ ⟨(blk_cell BK823.out 0).trans rfl, (blk_cell BK822.out 0).trans rfl⟩ (fun hHeld => ?_)
   clear hK K
   refine nm_ 8 ?_
   refine pv_ 2 9 ta2 HT_ ?_
   refine pv_ 3 10 ta3 HT_ ?_
   refine pv_ 4 11 ta4 HT_ ?_
   refine pv_ 7 14 ta5 HT_ ?_
   refine tv_ 5 12 ta6 HT_ HW_ hHeld ?_
   refine pv_ 6 13 ta7 HT_ ?_
   refine tv_ 8 15 ta8 HT_ HW_ hHeld ?_
   refine pv_ 9 16 ta9 HT_ ?_
   refine pv_ 10 17 ta10 HT_ ?_
   refine pv_ 11 18 ta11 HT_ ?_
   refine pv_ 12 19 ta12 HT_ ?_
   refine pu_ 13 20 ta13 HT_ ?_
   refine pu_ 14 21 ta25 HT_ ?_
   refine pu_ 15 22 ta26 HT_ ?_
   refine pu_ 16 23 ta27 HT_ ?_
   refine pu_ 17 24 ta28 HT_ ?_
   refine pu_ 18 25 ta18 HT_ ?_
   refine pu_ 19 26 ta19 HT_ ?_
   refine pu_ 20 27 ta20 HT_ ?_
   refine pu_ 21 28 ta21 HT_ ?_
   refine pu_ 22 29 ta22 HT_ ?_
   refine pu_ 23 30 ta23 HT_ ?_
   refine pv_ 24 31 ta24 HT_ ?_
   refine done_ (done_of HT_.out (by kernel_rfl)) ?_
   try go_wp2
   go_meet
   case rel => exact ⟨_, (true), zz3, H', ⟨by first | omega | exact Nat.le_refl _⟩, ⟨kb BK822.out⟩, ⟨kb BK823.out⟩, ⟨bs HB.out⟩⟩
  rw [if_pos c8] at H
  have c8b0 : ((l0_0.length : Int) == (l1_0.length : Int)) = true := beq_iff_eq.mpr c8
  have c8b1 : ((l0_0.length : Int) != (l1_0.length : Int)) = false := bne_eq_false_iff_eq.mpr c8
  have c8b2 : (l0_0.length == l1_0.length) = true := by first | simpa using c8 | (simp at c8 ⊢; omega)
  clear c8
  (first | rw [c8b0] | (simp only [i64_w, i32_w]; rw [c8b0]) | skip)
  by_cases c9 : 0 < (l0_0.length : Int)
  rotate_left
  ·rw [if_neg c9] at H
   exact absurd H (by simp)
  rw [if_pos c9] at H
  have c9b0 : decide (0 < (l0_0.length : Int)) = true := decide_eq_true c9
  have c9b1 : decide (0 < l0_0.length) = true := decide_eq_true (by omega)
  clear c9
  by_cases c10 : 0 < (l1_0.length : Int)
  rotate_left
  ·rw [if_neg c10] at H
   exact absurd H (by simp)
  rw [if_pos c10] at H
  have c10b0 : decide (0 < (l1_0.length : Int)) = true := decide_eq_true c10
  have c10b1 : decide (0 < l1_0.length) = true := decide_eq_true (by omega)
  clear c10
  have H' := am H
  clear H
  try go_wp2
  replace BK822 := am (blk_drew BK822.out)
  replace BK823 := am (blk_drew BK823.out)
  replace HB := am (bd HB.out)
  have p825 : 0 ≤ (0 : Int) := (by omega)
  have q825 : 0 < (l0_0.length : Int) := od zz2
  obtain ⟨ad825, A825_0, c825_0, e825, hx825_0, hl825_0, hi825_0⟩ := at_L1 HR0_0.out 0 p825 q825
  have hw825_0 := hx825_0
  (try rw [show ((0 : Int)).toNat = 0 from rfl] at hw825_0)
  (try rw [show 0 * 1 = 0 from rfl] at hw825_0)
  (try rw [Addr.add_zero'] at hw825_0)
  cases e825
  have qi825 : (0 < l0_0.length) = True := eq_true (by omega)
  (try rw [show ((0 : Int)).toNat = 0 from rfl] at hx825_0)
  (try rw [Addr.add_zero'] at hx825_0)
  replace hx825_0 := (HB.out.cell (World.block_lt_of_cell? w _ hx825_0)).trans hx825_0
  have HR825_0 := am hi825_0
  have HC825_0 := am hl825_0
  clear hi825_0 hl825_0
  replace p825 := eq_true p825
  replace q825 := eq_true q825
  have p826 : 0 ≤ (0 : Int) := (by omega)
  have q826 : 0 < (l1_0.length : Int) := od zz2
  obtain ⟨ad826, A826_0, c826_0, e826, hx826_0, hl826_0, hi826_0⟩ := at_L1 HR1_0.out 0 p826 q826
  have hw826_0 := hx826_0
  (try rw [show ((0 : Int)).toNat = 0 from rfl] at hw826_0)
  (try rw [show 0 * 1 = 0 from rfl] at hw826_0)
  (try rw [Addr.add_zero'] at hw826_0)
  cases e826
  have qi826 : (0 < l1_0.length) = True := eq_true (by omega)
  (try rw [show ((0 : Int)).toNat = 0 from rfl] at hx826_0)
  (try rw [Addr.add_zero'] at hx826_0)
  replace hx826_0 := (HB.out.cell (World.block_lt_of_cell? w _ hx826_0)).trans hx826_0
  have HR826_0 := am hi826_0
  have HC826_0 := am hl826_0
  clear hi826_0 hl826_0
  replace p826 := eq_true p826
  replace q826 := eq_true q826
  refine start_ (n := 25) (S := fun w' => w'.cell? ⟨gb823, 0, none⟩ = some (.slice (some ad826) l1_0.length c1_0) ∧ w'.cell? ⟨gb822, 0, none⟩ = some (.slice (some ad825) l0_0.length c0_0) ∧ w'.cell? ad825 = some (.slice A825_0 (rd_L1 l0_0 0).length c825_0) ∧ w'.cell? ad826 = some (.slice A826_0 (rd_L1 l1_0 0).length c826_0)) (ds := []) #[false, false, false, false, false, false, false, false, false, false, false, false, false, false, false, false, false, false, false, false, false, false, false, false, false] (by kernel_rfl) rfl rfl ⟨(blk_cell BK823.out 0).trans rfl, (blk_cell BK822.out 0).trans rfl, ((HB.out.cell (World.block_lt_of_cell? w _ hw825_0)).trans hw825_0), ((HB.out.cell (World.block_lt_of_cell? w _ hw826_0)).trans hw826_0)⟩ (fun hHeld => ?_); refine with_tabW mizmazetop_alike.tab1 mizmazetop_alike.bits1 (fun HT_ HW_ => ?_)
  generalize w5.drew = w11 at BK822 BK823 HB HR825_0 HR826_0 hx825_0 hx826_0 hHeld ⊢
  refine tv_ 0 7 ta0 HT_ HW_ hHeld ?_
  refine one_ (i := 1) (N := some 8) ta1 rfl rfl (one_of HT_.out (by kernel_rfl)) (by decide) (fun K hK => ?_)
  refine goes_ Try.func54 (by kernel_rfl) rfl #[.agg #[.slice (some ad826) l1_0.length c1_0]] (by rfl) rfl rfl zz1 ?_
  with_reducible refine (mizmazetop_valid.calls k _ _ l1_0 true _ ?side1 ?side2 A6.out).mono ?_
  (case side1 => exact kc (Kd.C_below HR1_0.out HB.out))
  (case side2 => exact HC1_0.out)
  rintro e w12 ⟨rfl, hb⟩
  refine ⟨_, rfl, ?_⟩
  replace BK822 := am (blk_below (g := gb822) (o := .cells #[.slice (some ad825) l0_0.length c0_0] 24 (0, 0)) (kb BK822.out) hb)
  replace BK823 := am (blk_below (g := gb823) (o := .cells #[.slice (some ad826) l1_0.length c1_0] 24 (0, 0)) (kb BK823.out) hb)
  replace HB := am (below_step (bs HB.out) hb)
  (try clear hb)
  (try clear hb2)
  (try clear hk)
  (try clear hi)
  refine hK.out _ _ ⟨(blk_cell BK823.out 0).trans rfl, (blk_cell BK822.out 0).trans rfl, ((HB.out.cell (World.block_lt_of_cell? w _ hw825_0)).trans hw825_0), ((HB.out.cell (World.block_lt_of_cell? w _ hw826_0)).trans hw826_0)⟩ (fun hHeld => ?_)
  clear hK K
  refine nm_ 8 ?_
  refine pv_ 2 9 ta2 HT_ ?_
  refine pv_ 3 10 ta3 HT_ ?_
  refine pv_ 4 11 ta4 HT_ ?_
  refine pv_ 7 14 ta5 HT_ ?_
  refine tv_ 5 12 ta6 HT_ HW_ hHeld ?_
  refine pv_ 6 13 ta7 HT_ ?_
  refine tv_ 8 15 ta8 HT_ HW_ hHeld ?_
  refine pv_ 9 16 ta9 HT_ ?_
  refine pv_ 10 17 ta10 HT_ ?_
  refine pv_ 11 18 ta11 HT_ ?_
  refine pv_ 12 19 ta12 HT_ ?_
  refine pv_ 13 20 ta13 HT_ ?_
  refine pv_ 18 25 ta14 HT_ ?_
  refine tv_ 14 21 ta15 HT_ HW_ hHeld ?_
  refine pv_ 15 22 ta16 HT_ ?_
  refine tv_ 16 23 ta17 HT_ HW_ hHeld ?_
  refine pv_ 17 24 ta18 HT_ ?_
  refine tv_ 19 26 ta19 HT_ HW_ hHeld ?_
  refine pv_ 20 27 ta20 HT_ ?_
  refine tv_ 21 28 ta21 HT_ HW_ hHeld ?_
  refine pv_ 22 29 ta22 HT_ ?_
  refine pv_ 23 30 ta23 HT_ ?_
  refine pv_ 24 31 ta24 HT_ ?_
  refine done_ (done_of HT_.out (by kernel_rfl)) ?_
  try go_wp2
  go_meet
  case rel => exact ⟨_, ((((rd_L1 l0_0 0).length : Int) != ((rd_L1 l1_0 0).length : Int))), zz3, H', ⟨by first | omega | exact Nat.le_refl _⟩, ⟨kb BK822.out⟩, ⟨kb BK823.out⟩, ⟨bs HB.out⟩⟩
 case rest =>
  clear HC3
  (try clear c1); (try clear p2); (try clear c5); (try clear c7); (try clear c8); (try clear c8b0); (try clear c8b1); (try clear c8b2); (try clear c9); (try clear c10)
  obtain ⟨kq, x31_2, rfl, HA, HJ2, BK822, BK823, HB⟩ := hcut
  cases kq with
  | zero => exact absurd HA.out (by simp [mizmazetop_alike.j0])
  | succ kj2 =>
   have H := HA.out
   clear HA
   simp only [mizmazetop_alike.j0] at H
   by_cases c17 : x31_2 = true
   ·subst c17
    have H1 : (some false) = some r := by rw [if_pos rfl] at H; exact H
    clear H
    have H := H1
    clear H1
    obtain rfl := Option.some.inj H
    go_wp2
    go_ret
    exact ⟨by first | rfl | (simp [errW_none, errW_some] <;> rfl) | (simp [*, errW_none, errW_some] <;> rfl), bs HB.out⟩
   replace c17 := Bool.eq_false_iff.mpr c17
   subst c17
   have H1 : (mizmazetop_alike.l0 kj2 0 l0_0 l1_0) = some r := by rw [if_neg (show ¬ (false = true) by decide)] at H; exact H
   clear H
   have H := H1
   clear H1
   have H' := am H
   clear H
   go_wp2
   go_loopg [5] kj2 (fun kq v5 w' => ∃ (x5_2 : Int), v5 = .int .i64 x5_2 ∧ Aside0 (mizmazetop_alike.l0 kq x5_2 l0_0 l1_0 = some r) ∧ Aside0 (kq ≤ kj2) ∧ Aside0 (w'.heap[gb822]? = some (.cells #[(.slice A0_0 l0_0.length c0_0)] 24 (0, 0))) ∧ Aside0 (w'.heap[gb823]? = some (.cells #[(.slice A1_0 l1_0.length c1_0)] 24 (0, 0))) ∧ Aside0 (Below w.heap.size w w'))
   case atStart => exact ⟨(0), zz3, H', ⟨Nat.le_refl _⟩, ⟨kb BK822.out⟩, ⟨kb BK823.out⟩, ⟨bs HB.out⟩⟩
   case round =>
    clear H'
    (try clear c1); (try clear p2); (try clear c5); (try clear c7); (try clear c8); (try clear c8b0); (try clear c8b1); (try clear c8b2); (try clear c9); (try clear c10); (try clear c17); (try clear p2)
    obtain ⟨x5_2, rfl, HA, HK2, BK822, BK823, HB⟩ := hrel
    cases gk with
    | zero => exact absurd HA.out (by simp [mizmazetop_alike.l0])
    | succ k2 =>
     have H := HA.out
     clear HA
     simp only [mizmazetop_alike.l0] at H
     by_cases c18 : x5_2 < (l0_0.length : Int)
     rotate_left
     ·rw [if_neg c18] at H
      have c18b0 : decide (x5_2 < (l0_0.length : Int)) = false := decide_eq_false c18
      clear c18
      obtain rfl := Option.some.inj H
      have hnb36 := NB822_823.out
      have hnc36 := NB823_822.out
      have hcz37_0 : wr.cell? ⟨gb822, 0, none⟩ = some (.slice A0_0 l0_0.length c0_0) := (blk_cell BK822.out 0).trans rfl
      have hfz37_0 := blk_frozen BK822.out 0
      go_wp2
      go_ret
      exact ⟨by first | rfl | (simp [errW_none, errW_some] <;> rfl) | (simp [*, errW_none, errW_some] <;> rfl), bs HB.out⟩
     rw [if_pos c18] at H
     have c18b0 : decide (x5_2 < (l0_0.length : Int)) = true := decide_eq_true c18
     clear c18
     have H' := am H
     clear H
     have hnb19 := NB822_823.out
     have hnc19 := NB823_822.out
     have hcz20_0 : wr.cell? ⟨gb822, 0, none⟩ = some (.slice A0_0 l0_0.length c0_0) := (blk_cell BK822.out 0).trans rfl
     have hfz20_0 := blk_frozen BK822.out 0
     go_wp2
     go_loopg [6] k2 (fun kq v6 w' => ∃ (x6_3 : Int), v6 = .int .i64 x6_3 ∧ Aside0 (mizmazetop_alike.l1 kq x5_2 x6_3 l0_0 l1_0 = some r) ∧ Aside0 (kq ≤ k2) ∧ Aside0 (w'.heap[gb822]? = some (.cells #[(.slice A0_0 l0_0.length c0_0)] 24 (0, 0))) ∧ Aside0 (w'.heap[gb823]? = some (.cells #[(.slice A1_0 l1_0.length c1_0)] 24 (0, 0))) ∧ Aside0 (Below w.heap.size w w'))
     case atStart => exact ⟨(0), zz3, H', ⟨Nat.le_refl _⟩, ⟨kb BK822.out⟩, ⟨kb BK823.out⟩, ⟨bs HB.out⟩⟩
     case round =>
      clear H'
      (try clear c1); (try clear p2); (try clear c5); (try clear c7); (try clear c8); (try clear c8b0); (try clear c8b1); (try clear c8b2); (try clear c9); (try clear c10); (try clear c17); (try clear c18); (try clear c18b0); (try clear c19); (try clear hcz20_0); (try clear hfz20_0); (try clear p2)
      obtain ⟨x6_3, rfl, HA, HK3, BK822, BK823, HB⟩ := hrel
      cases gk with
      | zero => exact absurd HA.out (by simp [mizmazetop_alike.l1])
      | succ k3 =>
       have H := HA.out
       clear HA
       simp only [mizmazetop_alike.l1] at H
       by_cases c21 : x6_3 < (l0_0.length : Int)
       rotate_left
       ·rw [if_neg c21] at H
        have c21b0 : decide (x6_3 < (l0_0.length : Int)) = false := decide_eq_false c21
        clear c21
        have H' := am H
        clear H
        have hnb34 := NB822_823.out
        have hnc34 := NB823_822.out
        have hcz35_0 : wr.cell? ⟨gb822, 0, none⟩ = some (.slice A0_0 l0_0.length c0_0) := (blk_cell BK822.out 0).trans rfl
        have hfz35_0 := blk_frozen BK822.out 0
        go_wp2
        go_roundg k3
        case measure => have := HJ2.out; have := HK2.out; have := HK3.out; omega
        case rel => exact ⟨(wrap64 (x5_2 + 1)), zz3, H', ⟨by have := HJ2.out; have := HK2.out; have := HK3.out; omega⟩, ⟨kb BK822.out⟩, ⟨kb BK823.out⟩, ⟨bs HB.out⟩⟩
       rw [if_pos c21] at H
       have c21b0 : decide (x6_3 < (l0_0.length : Int)) = true := decide_eq_true c21
       clear c21
       by_cases c22 : 0 ≤ x5_2
       rotate_left
       ·rw [if_neg c22] at H
        exact absurd H (by simp)
       rw [if_pos c22] at H
       have c22b0 : decide (0 ≤ x5_2) = true := decide_eq_true c22
       clear c22
       by_cases c23 : x5_2 < (l0_0.length : Int)
       rotate_left
       ·rw [if_neg c23] at H
        exact absurd H (by simp)
       rw [if_pos c23] at H
       have c23b0 : decide (x5_2 < (l0_0.length : Int)) = true := decide_eq_true c23
       clear c23
       replace H := Option.bind_eq_some_iff.mp H
       obtain ⟨t828, A240, H⟩ := H
       replace H : (if x5_2 < (l1_0.length : Int) then ((mizmazetop_times.f k3 (rd_L1 l1_0 x5_2) x6_3).bind fun t830 => (if t828 = t830 then (mizmazetop_alike.l1 k3 x5_2 (wrap64 (x6_3 + 1)) l0_0 l1_0) else (some false))) else (none)) = some r := H
       have A24 := am A240
       clear A240
       by_cases c25 : x5_2 < (l1_0.length : Int)
       rotate_left
       ·rw [if_neg c25] at H
        exact absurd H (by simp)
       rw [if_pos c25] at H
       have c25b0 : decide (x5_2 < (l1_0.length : Int)) = true := decide_eq_true c25
       clear c25
       replace H := Option.bind_eq_some_iff.mp H
       obtain ⟨t830, A260, H⟩ := H
       replace H : (if t828 = t830 then (mizmazetop_alike.l1 k3 x5_2 (wrap64 (x6_3 + 1)) l0_0 l1_0) else (some false)) = some r := H
       have A26 := am A260
       clear A260
       by_cases c27 : t828 = t830
       rotate_left
       ·rw [if_neg c27] at H
        have c27b0 : (t828 == t830) = false := beq_eq_false_iff_ne.mpr c27
        have c27b1 : (t828 != t830) = true := bne_iff_ne.mpr c27
        obtain rfl := Option.some.inj H
        have hnb31 := NB822_823.out
        have hnc31 := NB823_822.out
        have hcz32_0 : wr.cell? ⟨gb822, 0, none⟩ = some (.slice A0_0 l0_0.length c0_0) := (blk_cell BK822.out 0).trans rfl
        have hfz32_0 := blk_frozen BK822.out 0
        try go_wp2
        replace BK822 := am (blk_drew BK822.out)
        replace BK823 := am (blk_drew BK823.out)
        replace HB := am (bd HB.out)
        have p827 : 0 ≤ (x5_2 : Int) := od zz2
        have q827 : x5_2 < (l0_0.length : Int) := od zz2
        obtain ⟨ad827, A827_0, c827_0, e827, hx827_0, hl827_0, hi827_0⟩ := at_L1 HR0_0.out x5_2 p827 q827
        have hw827_0 := hx827_0
        cases e827
        replace hx827_0 := (HB.out.cell (World.block_lt_of_cell? w _ hx827_0)).trans hx827_0
        have HR827_0 := am hi827_0
        have HC827_0 := am hl827_0
        clear hi827_0 hl827_0
        replace p827 := eq_true p827
        replace q827 := eq_true q827
        have p829 : 0 ≤ (x5_2 : Int) := od zz2
        have q829 : x5_2 < (l1_0.length : Int) := od zz2
        obtain ⟨ad829, A829_0, c829_0, e829, hx829_0, hl829_0, hi829_0⟩ := at_L1 HR1_0.out x5_2 p829 q829
        have hw829_0 := hx829_0
        cases e829
        replace hx829_0 := (HB.out.cell (World.block_lt_of_cell? w _ hx829_0)).trans hx829_0
        have HR829_0 := am hi829_0
        have HC829_0 := am hl829_0
        clear hi829_0 hl829_0
        replace p829 := eq_true p829
        replace q829 := eq_true q829
        refine start_ (n := 15) (S := fun w' => w'.cell? ⟨gb822, 0, none⟩ = some (.slice (some ad827) l0_0.length c0_0) ∧ w'.cell? ⟨gb823, 0, none⟩ = some (.slice (some ad829) l1_0.length c1_0) ∧ w'.cell? (ad827.add (x5_2).toNat) = some (.slice A827_0 (rd_L1 l0_0 x5_2).length c827_0) ∧ w'.cell? (ad829.add (x5_2).toNat) = some (.slice A829_0 (rd_L1 l1_0 x5_2).length c829_0)) (ds := []) #[false, false, false, false, false, false, false, false, false, false, false, false, false, false, false] (by kernel_rfl) rfl rfl ⟨(blk_cell BK822.out 0).trans rfl, (blk_cell BK823.out 0).trans rfl, ((HB.out.cell (World.block_lt_of_cell? w _ hw827_0)).trans hw827_0), ((HB.out.cell (World.block_lt_of_cell? w _ hw829_0)).trans hw829_0)⟩ (fun hHeld => ?_); refine with_tabW mizmazetop_alike.tab9 mizmazetop_alike.bits9 (fun HT_ HW_ => ?_)
        generalize wr.drew = w33 at BK822 BK823 HB HR827_0 HR829_0 hx827_0 hx829_0 hHeld ⊢
        refine pv_ 0 46 ta31 HT_ ?_
        refine pv_ 2 48 ta32 HT_ ?_
        refine pv_ 5 51 ta33 HT_ ?_
        refine pv_ 7 53 ta34 HT_ ?_
        refine pv_ 9 55 ta35 HT_ ?_
        refine pv_ 12 58 ta36 HT_ ?_
        refine tv_ 1 47 ta37 HT_ HW_ hHeld ?_
        refine pv_ 3 49 ta38 HT_ ?_
        refine tv_ 4 50 ta39 HT_ HW_ hHeld ?_
        refine tv_ 8 54 ta40 HT_ HW_ hHeld ?_
        refine pv_ 10 56 ta41 HT_ ?_
        refine tv_ 11 57 ta42 HT_ HW_ hHeld ?_
        refine one_ (i := 6) (N := some 52) ta43 rfl rfl (one_of HT_.out (by kernel_rfl)) (by decide) (fun K hK => ?_)
        refine goes_ Try.func98 (by kernel_rfl) rfl #[.slice A827_0 (rd_L1 l0_0 x5_2).length c827_0, .int .i64 x6_3] (by rfl) rfl rfl zz1 ?_
        with_reducible refine (mizmazetop_times.calls k3 _ _ (rd_L1 l0_0 x5_2) x6_3 t828 _ ?side1 ?side2 A24.out).mono ?_
        (case side1 => exact kc (Kd.C_below HR827_0.out HB.out))
        (case side2 => exact HC827_0.out)
        rintro e w' ⟨rfl, ⟨nd, rfl⟩⟩
        refine ⟨_, rfl, ?_⟩
        refine hK.out _ _ ⟨(blk_cell BK822.out 0).trans rfl, (blk_cell BK823.out 0).trans rfl, ((HB.out.cell (World.block_lt_of_cell? w _ hw827_0)).trans hw827_0), ((HB.out.cell (World.block_lt_of_cell? w _ hw829_0)).trans hw829_0)⟩ (fun hHeld => ?_)
        clear hK K
        refine nm_ 52 ?_
        refine one_ (i := 13) (N := some 59) ta44 rfl rfl (one_of HT_.out (by kernel_rfl)) (by decide) (fun K hK => ?_)
        refine goes_ Try.func98 (by kernel_rfl) rfl #[.slice A829_0 (rd_L1 l1_0 x5_2).length c829_0, .int .i64 x6_3] (by rfl) rfl rfl zz1 ?_
        with_reducible refine (mizmazetop_times.calls k3 _ _ (rd_L1 l1_0 x5_2) x6_3 t830 _ ?side1 ?side2 A26.out).mono ?_
        (case side1 => repeat (first | exact (Kd.C_below HR829_0.out (bs HB.out)) | (with_reducible refine Kd.C_alloc ?_ _) | (with_reducible refine Kd.C_drewN ?_ _) | (with_reducible refine Kd.C_drew ?_)))
        (case side2 => exact HC829_0.out)
        rintro e w' ⟨rfl, ⟨nd, rfl⟩⟩
        refine ⟨_, rfl, ?_⟩
        refine hK.out _ _ ⟨(blk_cell BK822.out 0).trans rfl, (blk_cell BK823.out 0).trans rfl, ((HB.out.cell (World.block_lt_of_cell? w _ hw827_0)).trans hw827_0), ((HB.out.cell (World.block_lt_of_cell? w _ hw829_0)).trans hw829_0)⟩ (fun hHeld => ?_)
        clear hK K
        refine nm_ 59 ?_
        refine pv_ 14 60 ta45 HT_ ?_
        refine done_ (done_of HT_.out (by kernel_rfl)) ?_
        try go_wp2
        go_ret
        exact ⟨by first | rfl | (simp [errW_none, errW_some] <;> rfl) | (simp [*, errW_none, errW_some] <;> rfl), bs HB.out⟩
       rw [if_pos c27] at H
       have c27b0 : (t828 == t830) = true := beq_iff_eq.mpr c27
       have c27b1 : (t828 != t830) = false := bne_eq_false_iff_eq.mpr c27
       clear c27
       have H' := am H
       clear H
       have hnb28 := NB822_823.out
       have hnc28 := NB823_822.out
       have hcz29_0 : wr.cell? ⟨gb822, 0, none⟩ = some (.slice A0_0 l0_0.length c0_0) := (blk_cell BK822.out 0).trans rfl
       have hfz29_0 := blk_frozen BK822.out 0
       try go_wp2
       replace BK822 := am (blk_drew BK822.out)
       replace BK823 := am (blk_drew BK823.out)
       replace HB := am (bd HB.out)
       have p827 : 0 ≤ (x5_2 : Int) := od zz2
       have q827 : x5_2 < (l0_0.length : Int) := od zz2
       obtain ⟨ad827, A827_0, c827_0, e827, hx827_0, hl827_0, hi827_0⟩ := at_L1 HR0_0.out x5_2 p827 q827
       have hw827_0 := hx827_0
       cases e827
       replace hx827_0 := (HB.out.cell (World.block_lt_of_cell? w _ hx827_0)).trans hx827_0
       have HR827_0 := am hi827_0
       have HC827_0 := am hl827_0
       clear hi827_0 hl827_0
       replace p827 := eq_true p827
       replace q827 := eq_true q827
       have p829 : 0 ≤ (x5_2 : Int) := od zz2
       have q829 : x5_2 < (l1_0.length : Int) := od zz2
       obtain ⟨ad829, A829_0, c829_0, e829, hx829_0, hl829_0, hi829_0⟩ := at_L1 HR1_0.out x5_2 p829 q829
       have hw829_0 := hx829_0
       cases e829
       replace hx829_0 := (HB.out.cell (World.block_lt_of_cell? w _ hx829_0)).trans hx829_0
       have HR829_0 := am hi829_0
       have HC829_0 := am hl829_0
       clear hi829_0 hl829_0
       replace p829 := eq_true p829
       replace q829 := eq_true q829
       refine start_ (n := 15) (S := fun w' => w'.cell? ⟨gb822, 0, none⟩ = some (.slice (some ad827) l0_0.length c0_0) ∧ w'.cell? ⟨gb823, 0, none⟩ = some (.slice (some ad829) l1_0.length c1_0) ∧ w'.cell? (ad827.add (x5_2).toNat) = some (.slice A827_0 (rd_L1 l0_0 x5_2).length c827_0) ∧ w'.cell? (ad829.add (x5_2).toNat) = some (.slice A829_0 (rd_L1 l1_0 x5_2).length c829_0)) (ds := []) #[false, false, false, false, false, false, false, false, false, false, false, false, false, false, false] (by kernel_rfl) rfl rfl ⟨(blk_cell BK822.out 0).trans rfl, (blk_cell BK823.out 0).trans rfl, ((HB.out.cell (World.block_lt_of_cell? w _ hw827_0)).trans hw827_0), ((HB.out.cell (World.block_lt_of_cell? w _ hw829_0)).trans hw829_0)⟩ (fun hHeld => ?_); refine with_tabW mizmazetop_alike.tab9 mizmazetop_alike.bits9 (fun HT_ HW_ => ?_)
       generalize wr.drew = w30 at BK822 BK823 HB HR827_0 HR829_0 hx827_0 hx829_0 hHeld ⊢
       refine pv_ 0 46 ta31 HT_ ?_
       refine pv_ 2 48 ta32 HT_ ?_
       refine pv_ 5 51 ta33 HT_ ?_
       refine pv_ 7 53 ta34 HT_ ?_
       refine pv_ 9 55 ta35 HT_ ?_
       refine pv_ 12 58 ta36 HT_ ?_
       refine tv_ 1 47 ta37 HT_ HW_ hHeld ?_
       refine pv_ 3 49 ta38 HT_ ?_
       refine tv_ 4 50 ta39 HT_ HW_ hHeld ?_
       refine tv_ 8 54 ta40 HT_ HW_ hHeld ?_
       refine pv_ 10 56 ta41 HT_ ?_
       refine tv_ 11 57 ta42 HT_ HW_ hHeld ?_
       refine one_ (i := 6) (N := some 52) ta43 rfl rfl (one_of HT_.out (by kernel_rfl)) (by decide) (fun K hK => ?_)
       refine goes_ Try.func98 (by kernel_rfl) rfl #[.slice A827_0 (rd_L1 l0_0 x5_2).length c827_0, .int .i64 x6_3] (by rfl) rfl rfl zz1 ?_
       with_reducible refine (mizmazetop_times.calls k3 _ _ (rd_L1 l0_0 x5_2) x6_3 t828 _ ?side1 ?side2 A24.out).mono ?_
       (case side1 => exact kc (Kd.C_below HR827_0.out HB.out))
       (case side2 => exact HC827_0.out)
       rintro e w' ⟨rfl, ⟨nd, rfl⟩⟩
       refine ⟨_, rfl, ?_⟩
       refine hK.out _ _ ⟨(blk_cell BK822.out 0).trans rfl, (blk_cell BK823.out 0).trans rfl, ((HB.out.cell (World.block_lt_of_cell? w _ hw827_0)).trans hw827_0), ((HB.out.cell (World.block_lt_of_cell? w _ hw829_0)).trans hw829_0)⟩ (fun hHeld => ?_)
       clear hK K
       refine nm_ 52 ?_
       refine one_ (i := 13) (N := some 59) ta44 rfl rfl (one_of HT_.out (by kernel_rfl)) (by decide) (fun K hK => ?_)
       refine goes_ Try.func98 (by kernel_rfl) rfl #[.slice A829_0 (rd_L1 l1_0 x5_2).length c829_0, .int .i64 x6_3] (by rfl) rfl rfl zz1 ?_
       with_reducible refine (mizmazetop_times.calls k3 _ _ (rd_L1 l1_0 x5_2) x6_3 t830 _ ?side1 ?side2 A26.out).mono ?_
       (case side1 => repeat (first | exact (Kd.C_below HR829_0.out (bs HB.out)) | (with_reducible refine Kd.C_alloc ?_ _) | (with_reducible refine Kd.C_drewN ?_ _) | (with_reducible refine Kd.C_drew ?_)))
       (case side2 => exact HC829_0.out)
       rintro e w' ⟨rfl, ⟨nd, rfl⟩⟩
       refine ⟨_, rfl, ?_⟩
       refine hK.out _ _ ⟨(blk_cell BK822.out 0).trans rfl, (blk_cell BK823.out 0).trans rfl, ((HB.out.cell (World.block_lt_of_cell? w _ hw827_0)).trans hw827_0), ((HB.out.cell (World.block_lt_of_cell? w _ hw829_0)).trans hw829_0)⟩ (fun hHeld => ?_)
       clear hK K
       refine nm_ 59 ?_
       refine pv_ 14 60 ta45 HT_ ?_
       refine done_ (done_of HT_.out (by kernel_rfl)) ?_
       try go_wp2
       go_roundg k3
       case measure => have := HJ2.out; have := HK2.out; have := HK3.out; omega
       case rel => exact ⟨(wrap64 (x6_3 + 1)), zz3, H', ⟨by have := HJ2.out; have := HK2.out; have := HK3.out; omega⟩, ⟨kb BK822.out⟩, ⟨kb BK823.out⟩, ⟨bs HB.out⟩⟩
end Go.Proofs.Ytjgdalhdiohclaa.Q
end
section
namespace Go.Proofs.Ytjgdalhdiohclaa.Q
attribute [local go_sem] max2_int min2_int max_two min_two max_three min_three max_four min_four
end Go.Proofs.Ytjgdalhdiohclaa.Q
end
section
namespace Go.Proofs.Ytjgdalhdiohclaa.Q
attribute [local go_sem] max2_int min2_int max_two min_two max_three min_three max_four min_four
end Go.Proofs.Ytjgdalhdiohclaa.Q
end
section
namespace Go.Proofs.Ytjgdalhdiohclaa.Q
attribute [local go_sem] max2_int min2_int max_two min_two max_three min_three max_four min_four
end Go.Proofs.Ytjgdalhdiohclaa.Q
end
section
namespace Go.Proofs.Ytjgdalhdiohclaa.Q
attribute [local go_sem] max2_int min2_int max_two min_two max_three min_three max_four min_four
def mizmazeref01_Letters.f (l0_0 : List (List Int)) : Option (Int) := if 0 < (l0_0.length : Int) then (some ((rd_L1 l0_0 0).length : Int)) else (none)
end Go.Proofs.Ytjgdalhdiohclaa.Q
end
section
namespace Go.Proofs.Ytjgdalhdiohclaa.Q
attribute [local go_sem] max2_int min2_int max_two min_two max_three min_three max_four min_four
end Go.Proofs.Ytjgdalhdiohclaa.Q
end
section
namespace Go.Proofs.Ytjgdalhdiohclaa.Q
attribute [local go_sem] max2_int min2_int max_two min_two max_three min_three max_four min_four
end Go.Proofs.Ytjgdalhdiohclaa.Q
end
section
namespace Go.Proofs.Ytjgdalhdiohclaa.Q
attribute [local go_sem] max2_int min2_int max_two min_two max_three min_three max_four min_four
end Go.Proofs.Ytjgdalhdiohclaa.Q
end
section
namespace Go.Proofs.Ytjgdalhdiohclaa.Q
attribute [local go_sem] max2_int min2_int max_two min_two max_three min_three max_four min_four
end Go.Proofs.Ytjgdalhdiohclaa.Q
end
section
namespace Go.Proofs.Ytjgdalhdiohclaa.Q
attribute [local go_sem] max2_int min2_int max_two min_two max_three min_three max_four min_four
end Go.Proofs.Ytjgdalhdiohclaa.Q
end
section
namespace Go.Proofs.Ytjgdalhdiohclaa.Q
attribute [local go_sem] max2_int min2_int max_two min_two max_three min_three max_four min_four
end Go.Proofs.Ytjgdalhdiohclaa.Q
end
section
namespace Go.Proofs.Ytjgdalhdiohclaa.Q
attribute [local go_sem] max2_int min2_int max_two min_two max_three min_three max_four min_four
end Go.Proofs.Ytjgdalhdiohclaa.Q
end
section
namespace Go.Proofs.Ytjgdalhdiohclaa.Q
attribute [local go_sem] max2_int min2_int max_two min_two max_three min_three max_four min_four
end Go.Proofs.Ytjgdalhdiohclaa.Q
end
section
namespace Go.Proofs.Ytjgdalhdiohclaa.Q
attribute [local go_sem] max2_int min2_int max_two min_two max_three min_three max_four min_four
end Go.Proofs.Ytjgdalhdiohclaa.Q
end
section
namespace Go.Proofs.Ytjgdalhdiohclaa.Q
attribute [local go_sem] max2_int min2_int max_two min_two max_three min_three max_four min_four
end Go.Proofs.Ytjgdalhdiohclaa.Q
end
section
namespace Go.Proofs.Ytjgdalhdiohclaa.Q
attribute [local go_sem] max2_int min2_int max_two min_two max_three min_three max_four min_four
end Go.Proofs.Ytjgdalhdiohclaa.Q
end
section
namespace Go.Proofs.Ytjgdalhdiohclaa.Q
attribute [local go_sem] max2_int min2_int max_two min_two max_three min_three max_four min_four
end Go.Proofs.Ytjgdalhdiohclaa.Q
end
section
namespace Go.Proofs.Ytjgdalhdiohclaa.Q
attribute [local go_sem] max2_int min2_int max_two min_two max_three min_three max_four min_four
end Go.Proofs.Ytjgdalhdiohclaa.Q
end
section
namespace Go.Proofs.Ytjgdalhdiohclaa.Q
attribute [local go_sem] max2_int min2_int max_two min_two max_three min_three max_four min_four
end Go.Proofs.Ytjgdalhdiohclaa.Q
end
section
namespace Go.Proofs.Ytjgdalhdiohclaa.Q
attribute [local go_sem] max2_int min2_int max_two min_two max_three min_three max_four min_four
end Go.Proofs.Ytjgdalhdiohclaa.Q
end
section
namespace Go.Proofs.Ytjgdalhdiohclaa.Q
attribute [local go_sem] max2_int min2_int max_two min_two max_three min_three max_four min_four
end Go.Proofs.Ytjgdalhdiohclaa.Q
end
section
namespace Go.Proofs.Ytjgdalhdiohclaa.Q
attribute [local go_sem] max2_int min2_int max_two min_two max_three min_three max_four min_four
end Go.Proofs.Ytjgdalhdiohclaa.Q
end
section
namespace Go.Proofs.Ytjgdalhdiohclaa.Q
attribute [local go_sem] max2_int min2_int max_two min_two max_three min_three max_four min_four
end Go.Proofs.Ytjgdalhdiohclaa.Q
end
section
namespace Go.Proofs.Ytjgdalhdiohclaa.Q
attribute [local go_sem] max2_int min2_int max_two min_two max_three min_three max_four min_four
end Go.Proofs.Ytjgdalhdiohclaa.Q
end
section
namespace Go.Proofs.Ytjgdalhdiohclaa.Q
attribute [local go_sem] max2_int min2_int max_two min_two max_three min_three max_four min_four
end Go.Proofs.Ytjgdalhdiohclaa.Q
end
section
namespace Go.Proofs.Ytjgdalhdiohclaa.Q
attribute [local go_sem] max2_int min2_int max_two min_two max_three min_three max_four min_four
end Go.Proofs.Ytjgdalhdiohclaa.Q
end
