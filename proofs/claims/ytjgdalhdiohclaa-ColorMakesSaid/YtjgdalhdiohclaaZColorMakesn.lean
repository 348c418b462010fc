/- Colored and Same return the documented results, or the documented errors, for any automata and permutations. (text 14 of 27) -/
import Derived.Test.YtjgdalhdiohclaaZColorMakesg
import Derived.Test.YtjgdalhdiohclaaZColorMakesh
open Go.RowKit Go.Proofs.YtjgdalhdiohclaaW.PrintWords Go.Proofs.YtjgdalhdiohclaaW.PrintLast Go.Proofs.YtjgdalhdiohclaaW.PrintMore
/-! Part QRef05Same -/
section
-- Written by xprint.py, a program of this session's, over the kit's print. Lean checks it.
namespace Go.Proofs.Ytjgdalhdiohclaa.Q
attribute [local go_sem] max2_int min2_int max_two min_two max_three min_three max_four min_four
set_option linter.unusedVariables false
set_option linter.unusedSimpArgs false

/-! ### mizmazeref05_Same: function 46 -/
mutual
def mizmazeref05_Same.j0 : Nat → Bool → List (List Int) → List (List Int) → Option (Bool)
 | 0, _, _, _ => none
 | k + 1, x20, x505000, x506000 => if x20 = true then (some false) else (mizmazeref05_Same.l0 k 0 x505000 x506000)
def mizmazeref05_Same.l0 : Nat → Int → List (List Int) → List (List Int) → Option (Bool)
 | 0, _, _, _ => none
 | k + 1, x5, x505000, x506000 => if x5 < (x505000.length : Int) then (mizmazeref05_Same.l1 k x5 0 x505000 x506000) else (some true)
def mizmazeref05_Same.l1 : Nat → Int → Int → List (List Int) → List (List Int) → Option (Bool)
 | 0, _, _, _, _ => none
 | k + 1, x5, x6, x505000, x506000 => if x6 < (x505000.length : Int) then (if 0 ≤ x5 then (if x5 < (x505000.length : Int) then ((mizmazeref05_Times.f k (rd_L1 x505000 x5) x6).bind fun t509 => (if x5 < (x506000.length : Int) then ((mizmazeref05_Times.f k (rd_L1 x506000 x5) x6).bind fun t511 => (if t509 = t511 then (mizmazeref05_Same.l1 k x5 (wrap64 (x6 + 1)) x505000 x506000) else (some false))) else (none))) else (none)) else (none)) else (mizmazeref05_Same.l0 k (wrap64 (x5 + 1)) x505000 x506000)
end
def mizmazeref05_Same.f (k : Nat) (l0_0 : List (List Int)) (l1_0 : List (List Int)) : Option (Bool) := if (l0_0.length : Int) = (l1_0.length : Int) then ((mizmazeref01_Letters.f l0_0).bind fun t506 => ((mizmazeref01_Letters.f l1_0).bind fun t507 => (mizmazeref05_Same.j0 k (t506 != t507) l0_0 l1_0))) else (mizmazeref05_Same.j0 k true l0_0 l1_0)
theorem mizmazeref05_Same.mono_l : ∀ k, (∀ y0 y1 y2, LeO (mizmazeref05_Same.j0 k y0 y1 y2) (mizmazeref05_Same.j0 (k + 1) y0 y1 y2)) ∧ (∀ y0 y1 y2, LeO (mizmazeref05_Same.l0 k y0 y1 y2) (mizmazeref05_Same.l0 (k + 1) y0 y1 y2)) ∧ (∀ y0 y1 y2 y3, LeO (mizmazeref05_Same.l1 k y0 y1 y2 y3) (mizmazeref05_Same.l1 (k + 1) y0 y1 y2 y3))
 | 0 => ⟨fun _ _ _ r h => by simp [mizmazeref05_Same.j0] at h, fun _ _ _ r h => by simp [mizmazeref05_Same.l0] at h, fun _ _ _ _ r h => by simp [mizmazeref05_Same.l1] at h⟩
 | k + 1 => by
  obtain ⟨ih0, ih1, ih2⟩ := mizmazeref05_Same.mono_l k
  refine ⟨?_, ?_, ?_⟩
  ·intro y0 y1 y2
   unfold mizmazeref05_Same.j0
   repeat' first
   | (with_reducible exact ih0 _ _ _)
   | (with_reducible exact ih1 _ _ _)
   | (with_reducible exact ih2 _ _ _ _)
   | (with_reducible exact mizmazeref05_Times.mono _ _ _)
   | (with_reducible exact LeO.refl _)
   | (with_reducible exact LeO.none _)
   | (with_reducible refine LeO.ite ?_ ?_)
   | (with_reducible refine LeO.bind ?_ (fun _ => ?_))
   | exact ih0 _ _ _
   | exact ih1 _ _ _
   | exact ih2 _ _ _ _
   | exact mizmazeref05_Times.mono _ _ _
   | exact LeO.none _
   | refine LeO.ite ?_ ?_
   | refine LeO.bind ?_ (fun _ => ?_)
  ·intro y0 y1 y2
   unfold mizmazeref05_Same.l0
   repeat' first
   | (with_reducible exact ih0 _ _ _)
   | (with_reducible exact ih1 _ _ _)
   | (with_reducible exact ih2 _ _ _ _)
   | (with_reducible exact mizmazeref05_Times.mono _ _ _)
   | (with_reducible exact LeO.refl _)
   | (with_reducible exact LeO.none _)
   | (with_reducible refine LeO.ite ?_ ?_)
   | (with_reducible refine LeO.bind ?_ (fun _ => ?_))
   | exact ih0 _ _ _
   | exact ih1 _ _ _
   | exact ih2 _ _ _ _
   | exact mizmazeref05_Times.mono _ _ _
   | exact LeO.none _
   | refine LeO.ite ?_ ?_
   | refine LeO.bind ?_ (fun _ => ?_)
  ·intro y0 y1 y2 y3
   unfold mizmazeref05_Same.l1
   repeat' first
   | (with_reducible exact ih0 _ _ _)
   | (with_reducible exact ih1 _ _ _)
   | (with_reducible exact ih2 _ _ _ _)
   | (with_reducible exact mizmazeref05_Times.mono _ _ _)
   | (with_reducible exact LeO.refl _)
   | (with_reducible exact LeO.none _)
   | (with_reducible refine LeO.ite ?_ ?_)
   | (with_reducible refine LeO.bind ?_ (fun _ => ?_))
   | exact ih0 _ _ _
   | exact ih1 _ _ _
   | exact ih2 _ _ _ _
   | exact mizmazeref05_Times.mono _ _ _
   | exact LeO.none _
   | refine LeO.ite ?_ ?_
   | refine LeO.bind ?_ (fun _ => ?_)
theorem mizmazeref05_Same.mono : ∀ a0 a1 k, LeO (mizmazeref05_Same.f k a0 a1) (mizmazeref05_Same.f (k + 1) a0 a1) := by
 intro a0 a1 k
 obtain ⟨ih0, ih1, ih2⟩ := mizmazeref05_Same.mono_l k
 unfold mizmazeref05_Same.f
 repeat' first
   | (with_reducible exact ih0 _ _ _)
   | (with_reducible exact ih1 _ _ _)
   | (with_reducible exact ih2 _ _ _ _)
   | (with_reducible exact mizmazeref05_Times.mono _ _ _)
   | (with_reducible exact LeO.refl _)
   | (with_reducible exact LeO.none _)
   | (with_reducible refine LeO.ite ?_ ?_)
   | (with_reducible refine LeO.bind ?_ (fun _ => ?_))
   | exact ih0 _ _ _
   | exact ih1 _ _ _
   | exact ih2 _ _ _ _
   | exact mizmazeref05_Times.mono _ _ _
   | exact LeO.none _
   | refine LeO.ite ?_ ?_
   | refine LeO.bind ?_ (fun _ => ?_)
def mizmazeref05_Same.T1 : Bool × List (List Nat × List Nat) := (true, [([], []), ([0], [0]), ([1], [1]), ([], []), ([3], [3]), ([4], [4]), ([2, 5], [2, 5]), ([6], [6]), ([7], [7]), ([8, 7, 7], [7, 8]), ([7], [7]), ([10, 9, 7], [7, 10]), ([9, 11, 7], [7, 9, 11]), ([7, 12], [7, 12])])
def mizmazeref05_Same.B1 : List Nat := [0, 1, 3, 0, 8, 24, 63, 127, 255, 511, 255, 2047, 4095, 8191]
theorem mizmazeref05_Same.tab1 : rtab .any (opsOf Try.f46 1) = mizmazeref05_Same.T1 := by kernel_rfl
theorem mizmazeref05_Same.bits1 : waitsOk mizmazeref05_Same.T1.2 mizmazeref05_Same.B1 = true := by kernel_rfl
def mizmazeref05_Same.T9 : Bool × List (List Nat × List Nat) := (true, [([], []), ([0], [0]), ([], []), ([1, 2], [1, 2]), ([3], [3]), ([], []), ([4, 5], [4, 5]), ([], []), ([7], [7]), ([], []), ([8, 9], [8, 9]), ([10], [10]), ([], []), ([11, 12, 6], [11, 12]), ([6, 13], [6, 13])])
def mizmazeref05_Same.B9 : List Nat := [0, 1, 0, 7, 15, 0, 63, 0, 128, 0, 896, 1920, 0, 8191, 16383]
theorem mizmazeref05_Same.tab9 : rtab .any (opsOf Try.f46 9) = mizmazeref05_Same.T9 := by kernel_rfl
theorem mizmazeref05_Same.bits9 : waitsOk mizmazeref05_Same.T9.2 mizmazeref05_Same.B9 = true := by kernel_rfl
def rs0 : Array Bool := #[true, false, false, false, false, false, false, false, false, false, false, false, false, false]
def rs1 : Array Bool := #[true, false, false, true, false, false, false, false, false, false, false, false, false, false]
def rs2 : Array Bool := #[true, true, false, true, false, false, false, false, false, false, false, false, false, false]
def rs3 : Array Bool := #[true, true, true, true, false, false, false, false, false, false, false, false, false, false]
def rs4 : Array Bool := #[true, true, true, true, true, false, false, false, false, false, false, false, false, false]
def rs5 : Array Bool := #[true, true, true, true, true, true, false, false, false, false, false, false, false, false]
def rs6 : Array Bool := #[true, true, true, true, true, true, true, false, false, false, false, false, false, false]
def rs7 : Array Bool := #[true, true, true, true, true, true, true, true, false, false, false, false, false, false]
def rs8 : Array Bool := #[true, true, true, true, true, true, true, true, true, false, false, false, false, false]
def rs9 : Array Bool := #[true, true, true, true, true, true, true, true, true, false, true, false, false, false]
def rs10 : Array Bool := #[true, true, true, true, true, true, true, true, true, true, true, false, false, false]
def rs11 : Array Bool := #[true, true, true, true, true, true, true, true, true, true, true, true, false, false]
def rs12 : Array Bool := #[true, true, true, true, true, true, true, true, true, true, true, true, true, false]
def rs13 : Array Bool := #[true, true, true, true, true, true, true, true, true, true, true, true, true, true]
def rs14 : Array Bool := #[true, true, true, true, true, true, true, true, true, true, false, false, false, false]
def rs15 : Array Bool := #[true, false, false, false, false, false, false, false, false, false, false, false, false, false, false]
def rs16 : Array Bool := #[true, false, true, false, false, false, false, false, false, false, false, false, false, false, false]
def rs17 : Array Bool := #[true, false, true, false, false, true, false, false, false, false, false, false, false, false, false]
def rs18 : Array Bool := #[true, false, true, false, false, true, false, true, false, false, false, false, false, false, false]
def rs19 : Array Bool := #[true, false, true, false, false, true, false, true, false, true, false, false, false, false, false]
def rs20 : Array Bool := #[true, false, true, false, false, true, false, true, false, true, false, false, true, false, false]
def rs21 : Array Bool := #[true, true, true, false, false, true, false, true, false, true, false, false, true, false, false]
def rs22 : Array Bool := #[true, true, true, true, false, true, false, true, false, true, false, false, true, false, false]
def rs23 : Array Bool := #[true, true, true, true, true, true, false, true, false, true, false, false, true, false, false]
def rs24 : Array Bool := #[true, true, true, true, true, true, false, true, true, true, false, false, true, false, false]
def rs25 : Array Bool := #[true, true, true, true, true, true, false, true, true, true, true, false, true, false, false]
def rs26 : Array Bool := #[true, true, true, true, true, true, false, true, true, true, true, true, true, false, false]
def rs27 : Array Bool := #[true, true, true, true, true, true, true, true, true, true, true, true, true, false, false]
def rs28 : Array Bool := #[true, true, true, true, true, true, true, true, true, true, true, true, true, true, false]
def rs29 : Array Bool := #[true, true, true, true, true, true, true, true, true, true, true, true, true, true, true]
set_option maxHeartbeats 8000000 in
set_option maxRecDepth 100000 in
theorem mizmazeref05_Same.calls (k : Nat) (A0_0 : Option Addr) (c0_0 : Nat) (l0_0 : List (List Int)) (A1_0 : Option Addr) (c1_0 : Nat) (l1_0 : List (List Int)) (r : Bool) (w : World) (hr0_0 : Kd.C (Kd.slice 3 (Kd.int .i64)) w A0_0 l0_0.length l0_0) (hc0_0 : l0_0.length ≤ c0_0) (hr1_0 : Kd.C (Kd.slice 3 (Kd.int .i64)) w A1_0 l1_0.length l1_0) (hc1_0 : l1_0.length ≤ c1_0) (h : mizmazeref05_Same.f k l0_0 l1_0 = some r) :
    Calls Try.prog 46 #[.agg #[.slice A0_0 l0_0.length c0_0], .agg #[.slice A1_0 l1_0.length c1_0]] w fun e w' => e = .returned (.bool r) ∧ Below w.heap.size w w' := by
 have hu24 := Try.underlying24
 have HR0_0 := am hr0_0
 have HC0_0 := am hc0_0
 clear hr0_0 hc0_0
 have HR1_0 := am hr1_0
 have HC1_0 := am hc1_0
 clear hr1_0 hc1_0
 have HB := am (Below.refl w.heap.size w)
 have H : (if (l0_0.length : Int) = (l1_0.length : Int) then ((mizmazeref01_Letters.f l0_0).bind fun t506 => ((mizmazeref01_Letters.f l1_0).bind fun t507 => (mizmazeref05_Same.j0 k (t506 != t507) l0_0 l1_0))) else (mizmazeref05_Same.j0 k true l0_0 l1_0)) = some r := h
 clear h
 have HC3 := am H
 clear H
 go_enter Try.func46, Try.ntmps46
 go_upto_region 1 with (first | ((with_reducible refine gate_dst (N := 2) rfl ?_); refine box_event ?hg (N := 2) ?hd (cs := #[.slice A0_0 l0_0.length c0_0]) (t := 24) ?hr ?_; (case hd => rfl); (case hg => rfl); (case hr => first | (go_simp; done) | (go_simp; rfl)); intro gb504 hg w4 hbox hb; have n0_ := am (below_step (bw HB.out) hb); have n1_ := am (hbox); have n2_ := am ((by rw [hg]; exact (below_size (bw HB.out)) : w.heap.size ≤ gb504)); have n3_ := am ((by rw [hg]; exact (below_size (bw HB.out)) : w.heap.size ≤ gb504)); clear HB; have HB := n0_; have BK504 := n1_; have GW504 := n2_; have GE504 := n3_; clear n0_ n1_ n2_ n3_; clear hb hbox hg) | ((with_reducible refine gate_dst (N := 3) rfl ?_); refine box_event ?hg (N := 3) ?hd (cs := #[.slice A1_0 l1_0.length c1_0]) (t := 24) ?hr ?_; (case hd => rfl); (case hg => rfl); (case hr => first | (go_simp; done) | (go_simp; rfl)); intro gb505 hg w5 hbox hb; have n0_ := am (blk_below (g := gb504) (o := .cells #[.slice A0_0 l0_0.length c0_0] 24 (0, 0)) (kb BK504.out) hb); have n1_ := am (below_step (bs HB.out) hb); have n2_ := am (hbox); have n3_ := am ((by rw [hg]; exact (below_size (bs HB.out)) : w.heap.size ≤ gb505)); have n4_ := am ((by rw [hg]; exact (below_size (bs HB.out)) : w.heap.size ≤ gb505)); have n5_ := am ((by rw [hg]; exact Nat.ne_of_lt (blk_lt (g := gb504) (o := .cells #[.slice A0_0 l0_0.length c0_0] 24 (0, 0)) (kb BK504.out)) : gb504 ≠ gb505)); have n6_ := am ((by rw [hg]; exact Nat.ne_of_gt (blk_lt (g := gb504) (o := .cells #[.slice A0_0 l0_0.length c0_0] 24 (0, 0)) (kb BK504.out)) : gb505 ≠ gb504)); clear BK504; clear HB; have BK504 := n0_; have HB := n1_; have BK505 := n2_; have GW505 := n3_; have GE505 := n4_; have NB504_505 := n5_; have NB505_504 := n6_; clear n0_ n1_ n2_ n3_ n4_ n5_ n6_; clear hb hbox hg))
 (try simp only [Act.put, List.setIfInBounds_toArray, List.set_cons_zero, List.set_cons_succ])
 go_cut [20] (fun v20 wc => ∃ (kq : Nat) (x20_2 : Bool), v20 = .bool x20_2 ∧ Aside0 (mizmazeref05_Same.j0 kq x20_2 l0_0 l1_0 = some r) ∧ Aside0 (kq ≤ k) ∧ Aside0 (wc.heap[gb504]? = some (.cells #[(.slice A0_0 l0_0.length c0_0)] 24 (0, 0))) ∧ Aside0 (wc.heap[gb505]? = some (.cells #[(.slice A1_0 l1_0.length c1_0)] 24 (0, 0))) ∧ Aside0 (Below w.heap.size w wc))
 case first =>
  have H := HC3.out
  clear HC3
  by_cases c6 : (l0_0.length : Int) = (l1_0.length : Int)
  rotate_left
  ·rw [if_neg c6] at H
   have c6b0 : ((l0_0.length : Int) == (l1_0.length : Int)) = false := beq_eq_false_iff_ne.mpr c6
   have c6b1 : ((l0_0.length : Int) != (l1_0.length : Int)) = true := bne_iff_ne.mpr c6
   have c6b2 : (l0_0.length == l1_0.length) = false := by first | simpa using c6 | (simp at c6 ⊢; omega)
   (first | rw [c6b0] | (simp only [i64_w, i32_w]; rw [c6b0]) | skip)
   have H' := am H
   clear H
   try go_wp2
   have n0_ := am (blk_drew BK504.out)
   have n1_ := am (blk_drew BK505.out)
   have n2_ := am (bd HB.out)
   clear BK504
   clear BK505
   clear HB
   have BK504 := n0_
   have BK505 := n1_
   have HB := n2_
   clear n0_ n1_ n2_
   refine start_ (n := 14) (S := fun w' => w'.cell? ⟨gb504, 0, none⟩ = some (.slice A0_0 l0_0.length c0_0) ∧ w'.cell? ⟨gb505, 0, none⟩ = some (.slice A1_0 l1_0.length c1_0)) (ds := []) #[false, false, false, false, false, false, false, false, false, false, false, false, false, false] (by kernel_rfl) rfl rfl ⟨(blk_cell BK504.out 0).trans rfl, (blk_cell BK505.out 0).trans rfl⟩ (fun hHeld => ?_); refine with_tabW mizmazeref05_Same.tab1 mizmazeref05_Same.bits1 (fun HT_ HW_ => ?_)
   generalize w5.drew = w12 at BK504 BK505 HB hHeld ⊢
   refine pv_ 0 7 rs0 HT_ ?_
   refine pv_ 3 10 rs1 HT_ ?_
   refine take_ (i := 1) (N := some 8) (v := ?_) (a' := ?_) rs2 rfl rfl (take_ofW HT_.out HW_.out (by kernel_rfl)) (fun _ _ _ h => h) (Or.inl ⟨by rfl, ?_⟩) hHeld ?_ ?_
   rotate_left
   ·rintro w' ⟨s0, s1⟩
    go_simp
    with_reducible rfl
   rotate_left
   ·simp only [Act.put, List.setIfInBounds_toArray, List.set_cons_zero, List.set_cons_succ, i64_w, i32_w]
    rfl
   refine pv_ 2 9 rs3 HT_ ?_
   refine take_ (i := 4) (N := some 11) (v := ?_) (a' := ?_) rs4 rfl rfl (take_ofW HT_.out HW_.out (by kernel_rfl)) (fun _ _ _ h => h) (Or.inl ⟨by rfl, ?_⟩) hHeld ?_ ?_
   rotate_left
   ·rintro w' ⟨s0, s1⟩
    go_simp
    with_reducible rfl
   rotate_left
   ·simp only [Act.put, List.setIfInBounds_toArray, List.set_cons_zero, List.set_cons_succ, i64_w, i32_w]
    rfl
   refine pv_ 5 12 rs5 HT_ ?_
   refine pv_ 6 13 rs6 HT_ ?_
   refine pv_ 7 14 rs7 HT_ ?_
   refine pu_ 8 15 rs8 HT_ ?_
   refine pu_ 9 16 rs14 HT_ ?_
   refine pu_ 10 17 rs10 HT_ ?_
   refine pu_ 11 18 rs11 HT_ ?_
   refine pu_ 12 19 rs12 HT_ ?_
   refine pv_ 13 20 rs13 HT_ ?_
   refine done_ (done_of HT_.out (by kernel_rfl)) ?_
   try go_wp2
   go_meet
   case rel => exact ⟨_, (true), (by first | rfl | (simp; done) | (simp [*]; done)), H', ⟨by first | omega | exact Nat.le_refl _⟩, ⟨by (with_reducible repeat (first | refine blk_drewN ?_ _ | refine blk_drew ?_ | refine blk_alloc ?_ _)); exact BK504.out⟩, ⟨by (with_reducible repeat (first | refine blk_drewN ?_ _ | refine blk_drew ?_ | refine blk_alloc ?_ _)); exact BK505.out⟩, ⟨by repeat (first | (with_reducible first | exact HB.out | apply ba | apply pb | apply bd | refine below_set ?_ GE504.out | refine below_set ?_ GE505.out) | exact HB.out)⟩⟩
  rw [if_pos c6] at H
  have c6b0 : ((l0_0.length : Int) == (l1_0.length : Int)) = true := beq_iff_eq.mpr c6
  have c6b1 : ((l0_0.length : Int) != (l1_0.length : Int)) = false := bne_eq_false_iff_eq.mpr c6
  have c6b2 : (l0_0.length == l1_0.length) = true := by first | simpa using c6 | (simp at c6 ⊢; omega)
  clear c6
  (first | rw [c6b0] | (simp only [i64_w, i32_w]; rw [c6b0]) | skip)
  replace H := Option.bind_eq_some_iff.mp H
  obtain ⟨t506, A70, H⟩ := H
  replace H : ((mizmazeref01_Letters.f l1_0).bind fun t507 => (mizmazeref05_Same.j0 k (t506 != t507) l0_0 l1_0)) = some r := H
  have A7 := am A70
  clear A70
  replace H := Option.bind_eq_some_iff.mp H
  obtain ⟨t507, A80, H⟩ := H
  replace H : (mizmazeref05_Same.j0 k (t506 != t507) l0_0 l1_0) = some r := H
  have A8 := am A80
  clear A80
  have H' := am H
  clear H
  try go_wp2
  have n0_ := am (blk_drew BK504.out)
  have n1_ := am (blk_drew BK505.out)
  have n2_ := am (bd HB.out)
  clear BK504
  clear BK505
  clear HB
  have BK504 := n0_
  have BK505 := n1_
  have HB := n2_
  clear n0_ n1_ n2_
  refine start_ (n := 14) (S := fun w' => w'.cell? ⟨gb504, 0, none⟩ = some (.slice A0_0 l0_0.length c0_0) ∧ w'.cell? ⟨gb505, 0, none⟩ = some (.slice A1_0 l1_0.length c1_0)) (ds := []) #[false, false, false, false, false, false, false, false, false, false, false, false, false, false] (by kernel_rfl) rfl rfl ⟨(blk_cell BK504.out 0).trans rfl, (blk_cell BK505.out 0).trans rfl⟩ (fun hHeld => ?_); refine with_tabW mizmazeref05_Same.tab1 mizmazeref05_Same.bits1 (fun HT_ HW_ => ?_)
  generalize w5.drew = w9 at BK504 BK505 HB hHeld ⊢
  refine pv_ 0 7 rs0 HT_ ?_
  refine pv_ 3 10 rs1 HT_ ?_
  refine take_ (i := 1) (N := some 8) (v := ?_) (a' := ?_) rs2 rfl rfl (take_ofW HT_.out HW_.out (by kernel_rfl)) (fun _ _ _ h => h) (Or.inl ⟨by rfl, ?_⟩) hHeld ?_ ?_
  rotate_left
  ·rintro w' ⟨s0, s1⟩
   go_simp
   with_reducible rfl
  rotate_left
  ·simp only [Act.put, List.setIfInBounds_toArray, List.set_cons_zero, List.set_cons_succ, i64_w, i32_w]
   rfl
  refine pv_ 2 9 rs3 HT_ ?_
  refine take_ (i := 4) (N := some 11) (v := ?_) (a' := ?_) rs4 rfl rfl (take_ofW HT_.out HW_.out (by kernel_rfl)) (fun _ _ _ h => h) (Or.inl ⟨by rfl, ?_⟩) hHeld ?_ ?_
  rotate_left
  ·rintro w' ⟨s0, s1⟩
   go_simp
   with_reducible rfl
  rotate_left
  ·simp only [Act.put, List.setIfInBounds_toArray, List.set_cons_zero, List.set_cons_succ, i64_w, i32_w]
   rfl
  refine pv_ 5 12 rs5 HT_ ?_
  refine pv_ 6 13 rs6 HT_ ?_
  refine pv_ 7 14 rs7 HT_ ?_
  refine take_ (i := 8) (N := some 15) (v := ?_) (a' := ?_) rs8 rfl rfl (take_ofW HT_.out HW_.out (by kernel_rfl)) (fun _ _ _ h => h) (Or.inl ⟨by rfl, ?_⟩) hHeld ?_ ?_
  rotate_left
  ·rintro w' ⟨s0, s1⟩
   go_simp
   with_reducible rfl
  rotate_left
  ·simp only [Act.put, List.setIfInBounds_toArray, List.set_cons_zero, List.set_cons_succ, i64_w, i32_w]
   rfl
  refine take_ (i := 10) (N := some 17) (v := ?_) (a' := ?_) rs9 rfl rfl (take_ofW HT_.out HW_.out (by kernel_rfl)) (fun _ _ _ h => h) (Or.inl ⟨by rfl, ?_⟩) hHeld ?_ ?_
  rotate_left
  ·rintro w' ⟨s0, s1⟩
   go_simp
   with_reducible rfl
  rotate_left
  ·simp only [Act.put, List.setIfInBounds_toArray, List.set_cons_zero, List.set_cons_succ, i64_w, i32_w]
   rfl
  refine one_ (i := 9) (N := some 16) rs10 rfl rfl (one_of HT_.out (by kernel_rfl)) (by decide) (fun K hK => ?_)
  refine goes_ Try.func38 (by kernel_rfl) rfl #[.agg #[.slice A0_0 l0_0.length c0_0]] (by rfl) rfl rfl (by (try simp only [List.map_toArray, List.map_cons, List.map_nil]); first | done | rfl | (simp only [List.length_drop, List.length_take]; rfl)) ?_
  with_reducible refine (mizmazeref01_Letters.calls _ _ l0_0 t506 _ ?side1 ?side2 A7.out).mono ?_
  (case side1 => repeat (first | exact (Kd.C_below HR0_0.out HB.out) | (with_reducible refine Kd.C_alloc ?_ _) | (with_reducible refine Kd.C_drewN ?_ _) | (with_reducible refine Kd.C_drew ?_)))
  (case side2 => exact HC0_0.out)
  rintro e w10 ⟨rfl, hb⟩
  refine ⟨_, rfl, ?_⟩
  have n0_ := am (blk_below (g := gb504) (o := .cells #[.slice A0_0 l0_0.length c0_0] 24 (0, 0)) (kb BK504.out) hb)
  have n1_ := am (blk_below (g := gb505) (o := .cells #[.slice A1_0 l1_0.length c1_0] 24 (0, 0)) (kb BK505.out) hb)
  have n2_ := am (below_step (bs HB.out) hb)
  clear BK504
  clear BK505
  clear HB
  have BK504 := n0_
  have BK505 := n1_
  have HB := n2_
  clear n0_ n1_ n2_
  (try clear hb)
  (try clear hb2)
  (try clear hk)
  (try clear hi)
  refine hK.out _ _ ⟨(blk_cell BK504.out 0).trans rfl, (blk_cell BK505.out 0).trans rfl⟩ (fun hHeld => ?_)
  clear hK K
  refine norm_ (a' := ?_) ?_ ?_
  rotate_left
  ·show Act.put _ (some 16) _ = _
   simp only [Act.put, List.setIfInBounds_toArray, List.set_cons_zero, List.set_cons_succ, i64_w, i32_w]
   rfl
  refine one_ (i := 11) (N := some 18) rs11 rfl rfl (one_of HT_.out (by kernel_rfl)) (by decide) (fun K hK => ?_)
  refine goes_ Try.func38 (by kernel_rfl) rfl #[.agg #[.slice A1_0 l1_0.length c1_0]] (by rfl) rfl rfl (by (try simp only [List.map_toArray, List.map_cons, List.map_nil]); first | done | rfl | (simp only [List.length_drop, List.length_take]; rfl)) ?_
  with_reducible refine (mizmazeref01_Letters.calls _ _ l1_0 t507 _ ?side1 ?side2 A8.out).mono ?_
  (case side1 => repeat (first | exact (Kd.C_below HR1_0.out HB.out) | (with_reducible refine Kd.C_alloc ?_ _) | (with_reducible refine Kd.C_drewN ?_ _) | (with_reducible refine Kd.C_drew ?_)))
  (case side2 => exact HC1_0.out)
  rintro e w11 ⟨rfl, hb⟩
  refine ⟨_, rfl, ?_⟩
  have n0_ := am (blk_below (g := gb504) (o := .cells #[.slice A0_0 l0_0.length c0_0] 24 (0, 0)) (kb BK504.out) hb)
  have n1_ := am (blk_below (g := gb505) (o := .cells #[.slice A1_0 l1_0.length c1_0] 24 (0, 0)) (kb BK505.out) hb)
  have n2_ := am (below_step (bs HB.out) hb)
  clear BK504
  clear BK505
  clear HB
  have BK504 := n0_
  have BK505 := n1_
  have HB := n2_
  clear n0_ n1_ n2_
  (try clear hb)
  (try clear hb2)
  (try clear hk)
  (try clear hi)
  refine hK.out _ _ ⟨(blk_cell BK504.out 0).trans rfl, (blk_cell BK505.out 0).trans rfl⟩ (fun hHeld => ?_)
  clear hK K
  refine norm_ (a' := ?_) ?_ ?_
  rotate_left
  ·show Act.put _ (some 18) _ = _
   simp only [Act.put, List.setIfInBounds_toArray, List.set_cons_zero, List.set_cons_succ, i64_w, i32_w]
   rfl
  refine pv_ 12 19 rs12 HT_ ?_
  refine pv_ 13 20 rs13 HT_ ?_
  refine done_ (done_of HT_.out (by kernel_rfl)) ?_
  try go_wp2
  go_meet
  case rel => exact ⟨_, ((t506 != t507)), (by first | rfl | (simp; done) | (simp [*]; done)), H', ⟨by first | omega | exact Nat.le_refl _⟩, ⟨by (with_reducible repeat (first | refine blk_drewN ?_ _ | refine blk_drew ?_ | refine blk_alloc ?_ _)); exact BK504.out⟩, ⟨by (with_reducible repeat (first | refine blk_drewN ?_ _ | refine blk_drew ?_ | refine blk_alloc ?_ _)); exact BK505.out⟩, ⟨by repeat (first | (with_reducible first | exact HB.out | apply ba | apply pb | apply bd | refine below_set ?_ GE504.out | refine below_set ?_ GE505.out) | exact HB.out)⟩⟩
 case rest =>
  clear HC3
  try clear c1
  try clear p2
  try clear c3
  try clear c4
  try clear c6
  try clear c6b0
  try clear c6b1
  try clear c6b2
  obtain ⟨kq, x20_2, rfl, HA, HJ2, BK504, BK505, HB⟩ := hcut
  cases kq with
  | zero => exact absurd HA.out (by simp [mizmazeref05_Same.j0])
  | succ kj2 =>
   have H := HA.out
   clear HA
   simp only [mizmazeref05_Same.j0] at H
   by_cases c13 : x20_2 = true
   ·subst c13
    have H1 : (some false) = some r := by rw [if_pos rfl] at H; exact H
    clear H
    have H := H1
    clear H1
    obtain rfl := Option.some.inj H
    go_wp2
    go_ret
    exact ⟨by first | rfl | (simp [errW_none, errW_some] <;> rfl) | (simp [*, errW_none, errW_some] <;> rfl), by repeat (first | (with_reducible first | exact HB.out | apply ba | apply pb | apply bd | refine below_set ?_ GE504.out | refine below_set ?_ GE505.out) | exact HB.out)⟩
   replace c13 := Bool.eq_false_iff.mpr c13
   subst c13
   have H1 : (mizmazeref05_Same.l0 kj2 0 l0_0 l1_0) = some r := by rw [if_neg (show ¬ (false = true) by decide)] at H; exact H
   clear H
   have H := H1
   clear H1
   have H' := am H
   clear H
   go_wp2
   go_loopg [5] kj2 (fun kq v5 w' => ∃ (x5_2 : Int), v5 = .int .i64 x5_2 ∧ Aside0 (mizmazeref05_Same.l0 kq x5_2 l0_0 l1_0 = some r) ∧ Aside0 (kq ≤ kj2) ∧ Aside0 (w'.heap[gb504]? = some (.cells #[(.slice A0_0 l0_0.length c0_0)] 24 (0, 0))) ∧ Aside0 (w'.heap[gb505]? = some (.cells #[(.slice A1_0 l1_0.length c1_0)] 24 (0, 0))) ∧ Aside0 (Below w.heap.size w w'))
   case atStart => exact ⟨(0), (by first | rfl | (simp; done) | (simp [*]; done)), H', ⟨Nat.le_refl _⟩, ⟨by (with_reducible repeat (first | refine blk_drewN ?_ _ | refine blk_drew ?_ | refine blk_alloc ?_ _)); exact BK504.out⟩, ⟨by (with_reducible repeat (first | refine blk_drewN ?_ _ | refine blk_drew ?_ | refine blk_alloc ?_ _)); exact BK505.out⟩, ⟨by repeat (first | (with_reducible first | exact HB.out | apply ba | apply pb | apply bd | refine below_set ?_ GE504.out | refine below_set ?_ GE505.out) | exact HB.out)⟩⟩
   case round =>
    clear H'
    try clear c1
    try clear p2
    try clear c3
    try clear c4
    try clear c6
    try clear c6b0
    try clear c6b1
    try clear c6b2
    try clear c13
    try clear p2
    obtain ⟨x5_2, rfl, HA, HK2, BK504, BK505, HB⟩ := hrel
    cases gk with
    | zero => exact absurd HA.out (by simp [mizmazeref05_Same.l0])
    | succ k2 =>
     have H := HA.out
     clear HA
     simp only [mizmazeref05_Same.l0] at H
     by_cases c14 : x5_2 < (l0_0.length : Int)
     rotate_left
     ·rw [if_neg c14] at H
      have c14b0 : decide (x5_2 < (l0_0.length : Int)) = false := decide_eq_false c14
      clear c14
      obtain rfl := Option.some.inj H
      have hnb32 := NB504_505.out
      have hnc32 := NB505_504.out
      have hcz33_0 : wr.cell? ⟨gb504, 0, none⟩ = some (.slice A0_0 l0_0.length c0_0) := (blk_cell BK504.out 0).trans rfl
      have hfz33_0 := blk_frozen BK504.out 0
      go_wp2
      go_ret
      exact ⟨by first | rfl | (simp [errW_none, errW_some] <;> rfl) | (simp [*, errW_none, errW_some] <;> rfl), by repeat (first | (with_reducible first | exact HB.out | apply ba | apply pb | apply bd | refine below_set ?_ GE504.out | refine below_set ?_ GE505.out) | exact HB.out)⟩

     rw [if_pos c14] at H
     have c14b0 : decide (x5_2 < (l0_0.length : Int)) = true := decide_eq_true c14
     clear c14
     have H' := am H
     clear H
     have hnb15 := NB504_505.out
     have hnc15 := NB505_504.out
     have hcz16_0 : wr.cell? ⟨gb504, 0, none⟩ = some (.slice A0_0 l0_0.length c0_0) := (blk_cell BK504.out 0).trans rfl
     have hfz16_0 := blk_frozen BK504.out 0
     go_wp2
     go_loopg [6] k2 (fun kq v6 w' => ∃ (x6_3 : Int), v6 = .int .i64 x6_3 ∧ Aside0 (mizmazeref05_Same.l1 kq x5_2 x6_3 l0_0 l1_0 = some r) ∧ Aside0 (kq ≤ k2) ∧ Aside0 (w'.heap[gb504]? = some (.cells #[(.slice A0_0 l0_0.length c0_0)] 24 (0, 0))) ∧ Aside0 (w'.heap[gb505]? = some (.cells #[(.slice A1_0 l1_0.length c1_0)] 24 (0, 0))) ∧ Aside0 (Below w.heap.size w w'))
     case atStart => exact ⟨(0), (by first | rfl | (simp; done) | (simp [*]; done)), H', ⟨Nat.le_refl _⟩, ⟨by (with_reducible repeat (first | refine blk_drewN ?_ _ | refine blk_drew ?_ | refine blk_alloc ?_ _)); exact BK504.out⟩, ⟨by (with_reducible repeat (first | refine blk_drewN ?_ _ | refine blk_drew ?_ | refine blk_alloc ?_ _)); exact BK505.out⟩, ⟨by repeat (first | (with_reducible first | exact HB.out | apply ba | apply pb | apply bd | refine below_set ?_ GE504.out | refine below_set ?_ GE505.out) | exact HB.out)⟩⟩
     case round =>
      clear H'
      try clear c1
      try clear p2
      try clear c3
      try clear c4
      try clear c6
      try clear c6b0
      try clear c6b1
      try clear c6b2
      try clear c13
      try clear c14
      try clear c14b0
      try clear c15
      try clear hcz16_0
      try clear hfz16_0
      try clear p2
      obtain ⟨x6_3, rfl, HA, HK3, BK504, BK505, HB⟩ := hrel
      cases gk with
      | zero => exact absurd HA.out (by simp [mizmazeref05_Same.l1])
      | succ k3 =>
       have H := HA.out
       clear HA
       simp only [mizmazeref05_Same.l1] at H
       by_cases c17 : x6_3 < (l0_0.length : Int)
       rotate_left
       ·rw [if_neg c17] at H
        have c17b0 : decide (x6_3 < (l0_0.length : Int)) = false := decide_eq_false c17
        clear c17
        have H' := am H
        clear H
        have hnb30 := NB504_505.out
        have hnc30 := NB505_504.out
        have hcz31_0 : wr.cell? ⟨gb504, 0, none⟩ = some (.slice A0_0 l0_0.length c0_0) := (blk_cell BK504.out 0).trans rfl
        have hfz31_0 := blk_frozen BK504.out 0
        go_wp2
        go_roundg k3
        case measure => have := HJ2.out; have := HK2.out; have := HK3.out; omega
        case rel => exact ⟨(wrap64 (x5_2 + 1)), (by first | rfl | (simp; done) | (simp [*]; done)), H', ⟨by have := HJ2.out; have := HK2.out; have := HK3.out; omega⟩, ⟨by (with_reducible repeat (first | refine blk_drewN ?_ _ | refine blk_drew ?_ | refine blk_alloc ?_ _)); exact BK504.out⟩, ⟨by (with_reducible repeat (first | refine blk_drewN ?_ _ | refine blk_drew ?_ | refine blk_alloc ?_ _)); exact BK505.out⟩, ⟨by repeat (first | (with_reducible first | exact HB.out | apply ba | apply pb | apply bd | refine below_set ?_ GE504.out | refine below_set ?_ GE505.out) | exact HB.out)⟩⟩
       rw [if_pos c17] at H
       have c17b0 : decide (x6_3 < (l0_0.length : Int)) = true := decide_eq_true c17
       clear c17
       by_cases c18 : 0 ≤ x5_2
       rotate_left
       ·rw [if_neg c18] at H
        exact absurd H (by simp)
       rw [if_pos c18] at H
       have c18b0 : decide (0 ≤ x5_2) = true := decide_eq_true c18
       clear c18
       by_cases c19 : x5_2 < (l0_0.length : Int)
       rotate_left
       ·rw [if_neg c19] at H
        exact absurd H (by simp)
       rw [if_pos c19] at H
       have c19b0 : decide (x5_2 < (l0_0.length : Int)) = true := decide_eq_true c19
       clear c19
       replace H := Option.bind_eq_some_iff.mp H
       obtain ⟨t509, A200, H⟩ := H
       replace H : (if x5_2 < (l1_0.length : Int) then ((mizmazeref05_Times.f k3 (rd_L1 l1_0 x5_2) x6_3).bind fun t511 => (if t509 = t511 then (mizmazeref05_Same.l1 k3 x5_2 (wrap64 (x6_3 + 1)) l0_0 l1_0) else (some false))) else (none)) = some r := H
       have A20 := am A200
       clear A200
       by_cases c21 : x5_2 < (l1_0.length : Int)
       rotate_left
       ·rw [if_neg c21] at H
        exact absurd H (by simp)
       rw [if_pos c21] at H
       have c21b0 : decide (x5_2 < (l1_0.length : Int)) = true := decide_eq_true c21
       clear c21
       replace H := Option.bind_eq_some_iff.mp H
       obtain ⟨t511, A220, H⟩ := H
       replace H : (if t509 = t511 then (mizmazeref05_Same.l1 k3 x5_2 (wrap64 (x6_3 + 1)) l0_0 l1_0) else (some false)) = some r := H
       have A22 := am A220
       clear A220
       by_cases c23 : t509 = t511
       rotate_left
       ·rw [if_neg c23] at H
        have c23b0 : (t509 == t511) = false := beq_eq_false_iff_ne.mpr c23
        have c23b1 : (t509 != t511) = true := bne_iff_ne.mpr c23
        obtain rfl := Option.some.inj H
        have hnb27 := NB504_505.out
        have hnc27 := NB505_504.out
        have hcz28_0 : wr.cell? ⟨gb504, 0, none⟩ = some (.slice A0_0 l0_0.length c0_0) := (blk_cell BK504.out 0).trans rfl
        have hfz28_0 := blk_frozen BK504.out 0
        try go_wp2
        have n0_ := am (blk_drew BK504.out)
        have n1_ := am (blk_drew BK505.out)
        have n2_ := am (bd HB.out)
        clear BK504
        clear BK505
        clear HB
        have BK504 := n0_
        have BK505 := n1_
        have HB := n2_
        clear n0_ n1_ n2_
        have p508 : 0 ≤ (x5_2 : Int) := od (by first | (with_reducible assumption) | assumption)
        have q508 : x5_2 < (l0_0.length : Int) := od (by first | (with_reducible assumption) | assumption)
        obtain ⟨ad508, A508_0, c508_0, e508, hx508_0, hl508_0, hi508_0⟩ := at_L1 HR0_0.out x5_2 p508 q508
        have hw508_0 := hx508_0
        cases e508
        replace hx508_0 := (HB.out.cell (World.block_lt_of_cell? w _ hx508_0)).trans hx508_0
        have HR508_0 := am hi508_0
        have HC508_0 := am hl508_0
        clear hi508_0 hl508_0
        replace p508 := eq_true p508
        replace q508 := eq_true q508
        have p510 : 0 ≤ (x5_2 : Int) := od (by first | (with_reducible assumption) | assumption)
        have q510 : x5_2 < (l1_0.length : Int) := od (by first | (with_reducible assumption) | assumption)
        obtain ⟨ad510, A510_0, c510_0, e510, hx510_0, hl510_0, hi510_0⟩ := at_L1 HR1_0.out x5_2 p510 q510
        have hw510_0 := hx510_0
        cases e510
        replace hx510_0 := (HB.out.cell (World.block_lt_of_cell? w _ hx510_0)).trans hx510_0
        have HR510_0 := am hi510_0
        have HC510_0 := am hl510_0
        clear hi510_0 hl510_0
        replace p510 := eq_true p510
        replace q510 := eq_true q510
        refine start_ (n := 15) (S := fun w' => w'.cell? ⟨gb504, 0, none⟩ = some (.slice (some ad508) l0_0.length c0_0) ∧ w'.cell? ⟨gb505, 0, none⟩ = some (.slice (some ad510) l1_0.length c1_0) ∧ w'.cell? (ad508.add (x5_2).toNat) = some (.slice A508_0 (rd_L1 l0_0 x5_2).length c508_0) ∧ w'.cell? (ad510.add (x5_2).toNat) = some (.slice A510_0 (rd_L1 l1_0 x5_2).length c510_0)) (ds := []) #[false, false, false, false, false, false, false, false, false, false, false, false, false, false, false] (by kernel_rfl) rfl rfl ⟨(blk_cell BK504.out 0).trans rfl, (blk_cell BK505.out 0).trans rfl, ((HB.out.cell (World.block_lt_of_cell? w _ hw508_0)).trans hw508_0), ((HB.out.cell (World.block_lt_of_cell? w _ hw510_0)).trans hw510_0)⟩ (fun hHeld => ?_); refine with_tabW mizmazeref05_Same.tab9 mizmazeref05_Same.bits9 (fun HT_ HW_ => ?_)
        generalize wr.drew = w29 at BK504 BK505 HB HR508_0 HR510_0 hx508_0 hx510_0 hHeld ⊢
        refine pv_ 0 35 rs15 HT_ ?_
        refine pv_ 2 37 rs16 HT_ ?_
        refine pv_ 5 40 rs17 HT_ ?_
        refine pv_ 7 42 rs18 HT_ ?_
        refine pv_ 9 44 rs19 HT_ ?_
        refine pv_ 12 47 rs20 HT_ ?_
        refine take_ (i := 1) (N := some 36) (v := ?_) (a' := ?_) rs21 rfl rfl (take_ofW HT_.out HW_.out (by kernel_rfl)) (fun _ _ _ h => h) (Or.inl ⟨by rfl, ?_⟩) hHeld ?_ ?_
        rotate_left
        ·rintro w' ⟨s0, s1, s2, s3⟩
         go_simp
         with_reducible rfl
        rotate_left
        ·simp only [Act.put, List.setIfInBounds_toArray, List.set_cons_zero, List.set_cons_succ, i64_w, i32_w]
         rfl
        refine pv_ 3 38 rs22 HT_ ?_
        refine take_ (i := 4) (N := some 39) (v := ?_) (a' := ?_) rs23 rfl rfl (take_ofW HT_.out HW_.out (by kernel_rfl)) (fun _ _ _ h => h) (Or.inl ⟨by rfl, ?_⟩) hHeld ?_ ?_
        rotate_left
        ·rintro w' ⟨s0, s1, s2, s3⟩
         go_simp
         with_reducible rfl
        rotate_left
        ·simp only [Act.put, List.setIfInBounds_toArray, List.set_cons_zero, List.set_cons_succ, i64_w, i32_w]
         rfl
        refine take_ (i := 8) (N := some 43) (v := ?_) (a' := ?_) rs24 rfl rfl (take_ofW HT_.out HW_.out (by kernel_rfl)) (fun _ _ _ h => h) (Or.inl ⟨by rfl, ?_⟩) hHeld ?_ ?_
        rotate_left
        ·rintro w' ⟨s0, s1, s2, s3⟩
         go_simp
         with_reducible rfl
        rotate_left
        ·simp only [Act.put, List.setIfInBounds_toArray, List.set_cons_zero, List.set_cons_succ, i64_w, i32_w]
         rfl
        refine pv_ 10 45 rs25 HT_ ?_
        refine take_ (i := 11) (N := some 46) (v := ?_) (a' := ?_) rs26 rfl rfl (take_ofW HT_.out HW_.out (by kernel_rfl)) (fun _ _ _ h => h) (Or.inl ⟨by rfl, ?_⟩) hHeld ?_ ?_
        rotate_left
        ·rintro w' ⟨s0, s1, s2, s3⟩
         go_simp
         with_reducible rfl
        rotate_left
        ·simp only [Act.put, List.setIfInBounds_toArray, List.set_cons_zero, List.set_cons_succ, i64_w, i32_w]
         rfl
        refine one_ (i := 6) (N := some 41) rs27 rfl rfl (one_of HT_.out (by kernel_rfl)) (by decide) (fun K hK => ?_)
        refine goes_ Try.func84 (by kernel_rfl) rfl #[.slice A508_0 (rd_L1 l0_0 x5_2).length c508_0, .int .i64 x6_3] (by rfl) rfl rfl (by (try simp only [List.map_toArray, List.map_cons, List.map_nil]); first | done | rfl | (simp only [List.length_drop, List.length_take]; rfl)) ?_
        with_reducible refine (mizmazeref05_Times.calls k3 _ _ (rd_L1 l0_0 x5_2) x6_3 t509 _ ?side1 ?side2 A20.out).mono ?_
        (case side1 => repeat (first | exact (Kd.C_below HR508_0.out HB.out) | (with_reducible refine Kd.C_alloc ?_ _) | (with_reducible refine Kd.C_drewN ?_ _) | (with_reducible refine Kd.C_drew ?_)))
        (case side2 => exact HC508_0.out)
        rintro e w' ⟨rfl, ⟨nd, rfl⟩⟩
        refine ⟨_, rfl, ?_⟩
        refine hK.out _ _ ⟨(blk_cell BK504.out 0).trans rfl, (blk_cell BK505.out 0).trans rfl, ((HB.out.cell (World.block_lt_of_cell? w _ hw508_0)).trans hw508_0), ((HB.out.cell (World.block_lt_of_cell? w _ hw510_0)).trans hw510_0)⟩ (fun hHeld => ?_)
        clear hK K
        refine norm_ (a' := ?_) ?_ ?_
        rotate_left
        ·show Act.put _ (some 41) _ = _
         simp only [Act.put, List.setIfInBounds_toArray, List.set_cons_zero, List.set_cons_succ, i64_w, i32_w]
         rfl
        refine one_ (i := 13) (N := some 48) rs28 rfl rfl (one_of HT_.out (by kernel_rfl)) (by decide) (fun K hK => ?_)
        refine goes_ Try.func84 (by kernel_rfl) rfl #[.slice A510_0 (rd_L1 l1_0 x5_2).length c510_0, .int .i64 x6_3] (by rfl) rfl rfl (by (try simp only [List.map_toArray, List.map_cons, List.map_nil]); first | done | rfl | (simp only [List.length_drop, List.length_take]; rfl)) ?_
        with_reducible refine (mizmazeref05_Times.calls k3 _ _ (rd_L1 l1_0 x5_2) x6_3 t511 _ ?side1 ?side2 A22.out).mono ?_
        (case side1 => repeat (first | exact (Kd.C_below HR510_0.out (bs HB.out)) | (with_reducible refine Kd.C_alloc ?_ _) | (with_reducible refine Kd.C_drewN ?_ _) | (with_reducible refine Kd.C_drew ?_)))
        (case side2 => exact HC510_0.out)
        rintro e w' ⟨rfl, ⟨nd, rfl⟩⟩
        refine ⟨_, rfl, ?_⟩
        refine hK.out _ _ ⟨(blk_cell BK504.out 0).trans rfl, (blk_cell BK505.out 0).trans rfl, ((HB.out.cell (World.block_lt_of_cell? w _ hw508_0)).trans hw508_0), ((HB.out.cell (World.block_lt_of_cell? w _ hw510_0)).trans hw510_0)⟩ (fun hHeld => ?_)
        clear hK K
        refine norm_ (a' := ?_) ?_ ?_
        rotate_left
        ·show Act.put _ (some 48) _ = _
         simp only [Act.put, List.setIfInBounds_toArray, List.set_cons_zero, List.set_cons_succ, i64_w, i32_w]
         rfl
        refine pv_ 14 49 rs29 HT_ ?_
        refine done_ (done_of HT_.out (by kernel_rfl)) ?_
        try go_wp2
        go_ret
        exact ⟨by first | rfl | (simp [errW_none, errW_some] <;> rfl) | (simp [*, errW_none, errW_some] <;> rfl), by repeat (first | (with_reducible first | exact HB.out | apply ba | apply pb | apply bd | refine below_set ?_ GE504.out | refine below_set ?_ GE505.out) | exact HB.out)⟩
       rw [if_pos c23] at H
       have c23b0 : (t509 == t511) = true := beq_iff_eq.mpr c23
       have c23b1 : (t509 != t511) = false := bne_eq_false_iff_eq.mpr c23
       clear c23
       have H' := am H
       clear H
       have hnb24 := NB504_505.out
       have hnc24 := NB505_504.out
       have hcz25_0 : wr.cell? ⟨gb504, 0, none⟩ = some (.slice A0_0 l0_0.length c0_0) := (blk_cell BK504.out 0).trans rfl
       have hfz25_0 := blk_frozen BK504.out 0
       try go_wp2
       have n0_ := am (blk_drew BK504.out)
       have n1_ := am (blk_drew BK505.out)
       have n2_ := am (bd HB.out)
       clear BK504
       clear BK505
       clear HB
       have BK504 := n0_
       have BK505 := n1_
       have HB := n2_
       clear n0_ n1_ n2_
       have p508 : 0 ≤ (x5_2 : Int) := od (by first | (with_reducible assumption) | assumption)
       have q508 : x5_2 < (l0_0.length : Int) := od (by first | (with_reducible assumption) | assumption)
       obtain ⟨ad508, A508_0, c508_0, e508, hx508_0, hl508_0, hi508_0⟩ := at_L1 HR0_0.out x5_2 p508 q508
       have hw508_0 := hx508_0
       cases e508
       replace hx508_0 := (HB.out.cell (World.block_lt_of_cell? w _ hx508_0)).trans hx508_0
       have HR508_0 := am hi508_0
       have HC508_0 := am hl508_0
       clear hi508_0 hl508_0
       replace p508 := eq_true p508
       replace q508 := eq_true q508
       have p510 : 0 ≤ (x5_2 : Int) := od (by first | (with_reducible assumption) | assumption)
       have q510 : x5_2 < (l1_0.length : Int) := od (by first | (with_reducible assumption) | assumption)
       obtain ⟨ad510, A510_0, c510_0, e510, hx510_0, hl510_0, hi510_0⟩ := at_L1 HR1_0.out x5_2 p510 q510
       have hw510_0 := hx510_0
       cases e510
       replace hx510_0 := (HB.out.cell (World.block_lt_of_cell? w _ hx510_0)).trans hx510_0
       have HR510_0 := am hi510_0
       have HC510_0 := am hl510_0
       clear hi510_0 hl510_0
       replace p510 := eq_true p510
       replace q510 := eq_true q510
       refine start_ (n := 15) (S := fun w' => w'.cell? ⟨gb504, 0, none⟩ = some (.slice (some ad508) l0_0.length c0_0) ∧ w'.cell? ⟨gb505, 0, none⟩ = some (.slice (some ad510) l1_0.length c1_0) ∧ w'.cell? (ad508.add (x5_2).toNat) = some (.slice A508_0 (rd_L1 l0_0 x5_2).length c508_0) ∧ w'.cell? (ad510.add (x5_2).toNat) = some (.slice A510_0 (rd_L1 l1_0 x5_2).length c510_0)) (ds := []) #[false, false, false, false, false, false, false, false, false, false, false, false, false, false, false] (by kernel_rfl) rfl rfl ⟨(blk_cell BK504.out 0).trans rfl, (blk_cell BK505.out 0).trans rfl, ((HB.out.cell (World.block_lt_of_cell? w _ hw508_0)).trans hw508_0), ((HB.out.cell (World.block_lt_of_cell? w _ hw510_0)).trans hw510_0)⟩ (fun hHeld => ?_); refine with_tabW mizmazeref05_Same.tab9 mizmazeref05_Same.bits9 (fun HT_ HW_ => ?_)
       generalize wr.drew = w26 at BK504 BK505 HB HR508_0 HR510_0 hx508_0 hx510_0 hHeld ⊢
       refine pv_ 0 35 rs15 HT_ ?_
       refine pv_ 2 37 rs16 HT_ ?_
       refine pv_ 5 40 rs17 HT_ ?_
       refine pv_ 7 42 rs18 HT_ ?_
       refine pv_ 9 44 rs19 HT_ ?_
       refine pv_ 12 47 rs20 HT_ ?_
       refine take_ (i := 1) (N := some 36) (v := ?_) (a' := ?_) rs21 rfl rfl (take_ofW HT_.out HW_.out (by kernel_rfl)) (fun _ _ _ h => h) (Or.inl ⟨by rfl, ?_⟩) hHeld ?_ ?_
       rotate_left
       ·rintro w' ⟨s0, s1, s2, s3⟩
        go_simp
        with_reducible rfl
       rotate_left
       ·simp only [Act.put, List.setIfInBounds_toArray, List.set_cons_zero, List.set_cons_succ, i64_w, i32_w]
        rfl
       refine pv_ 3 38 rs22 HT_ ?_
       refine take_ (i := 4) (N := some 39) (v := ?_) (a' := ?_) rs23 rfl rfl (take_ofW HT_.out HW_.out (by kernel_rfl)) (fun _ _ _ h => h) (Or.inl ⟨by rfl, ?_⟩) hHeld ?_ ?_
       rotate_left
       ·rintro w' ⟨s0, s1, s2, s3⟩
        go_simp
        with_reducible rfl
       rotate_left
       ·simp only [Act.put, List.setIfInBounds_toArray, List.set_cons_zero, List.set_cons_succ, i64_w, i32_w]
        rfl
       refine take_ (i := 8) (N := some 43) (v := ?_) (a' := ?_) rs24 rfl rfl (take_ofW HT_.out HW_.out (by kernel_rfl)) (fun _ _ _ h => h) (Or.inl ⟨by rfl, ?_⟩) hHeld ?_ ?_
       rotate_left
       ·rintro w' ⟨s0, s1, s2, s3⟩
        go_simp
        with_reducible rfl
       rotate_left
       ·simp only [Act.put, List.setIfInBounds_toArray, List.set_cons_zero, List.set_cons_succ, i64_w, i32_w]
        rfl
       refine pv_ 10 45 rs25 HT_ ?_
       refine take_ (i := 11) (N := some 46) (v := ?_) (a' := ?_) rs26 rfl rfl (take_ofW HT_.out HW_.out (by kernel_rfl)) (fun _ _ _ h => h) (Or.inl ⟨by rfl, ?_⟩) hHeld ?_ ?_
       rotate_left
       ·rintro w' ⟨s0, s1, s2, s3⟩
        go_simp
        with_reducible rfl
       rotate_left
       ·simp only [Act.put, List.setIfInBounds_toArray, List.set_cons_zero, List.set_cons_succ, i64_w, i32_w]
        rfl
       refine one_ (i := 6) (N := some 41) rs27 rfl rfl (one_of HT_.out (by kernel_rfl)) (by decide) (fun K hK => ?_)
       refine goes_ Try.func84 (by kernel_rfl) rfl #[.slice A508_0 (rd_L1 l0_0 x5_2).length c508_0, .int .i64 x6_3] (by rfl) rfl rfl (by (try simp only [List.map_toArray, List.map_cons, List.map_nil]); first | done | rfl | (simp only [List.length_drop, List.length_take]; rfl)) ?_
       with_reducible refine (mizmazeref05_Times.calls k3 _ _ (rd_L1 l0_0 x5_2) x6_3 t509 _ ?side1 ?side2 A20.out).mono ?_
       (case side1 => repeat (first | exact (Kd.C_below HR508_0.out HB.out) | (with_reducible refine Kd.C_alloc ?_ _) | (with_reducible refine Kd.C_drewN ?_ _) | (with_reducible refine Kd.C_drew ?_)))
       (case side2 => exact HC508_0.out)
       rintro e w' ⟨rfl, ⟨nd, rfl⟩⟩
       refine ⟨_, rfl, ?_⟩
       refine hK.out _ _ ⟨(blk_cell BK504.out 0).trans rfl, (blk_cell BK505.out 0).trans rfl, ((HB.out.cell (World.block_lt_of_cell? w _ hw508_0)).trans hw508_0), ((HB.out.cell (World.block_lt_of_cell? w _ hw510_0)).trans hw510_0)⟩ (fun hHeld => ?_)
       clear hK K
       refine norm_ (a' := ?_) ?_ ?_
       rotate_left
       ·show Act.put _ (some 41) _ = _
        simp only [Act.put, List.setIfInBounds_toArray, List.set_cons_zero, List.set_cons_succ, i64_w, i32_w]
        rfl
       refine one_ (i := 13) (N := some 48) rs28 rfl rfl (one_of HT_.out (by kernel_rfl)) (by decide) (fun K hK => ?_)
       refine goes_ Try.func84 (by kernel_rfl) rfl #[.slice A510_0 (rd_L1 l1_0 x5_2).length c510_0, .int .i64 x6_3] (by rfl) rfl rfl (by (try simp only [List.map_toArray, List.map_cons, List.map_nil]); first | done | rfl | (simp only [List.length_drop, List.length_take]; rfl)) ?_
       with_reducible refine (mizmazeref05_Times.calls k3 _ _ (rd_L1 l1_0 x5_2) x6_3 t511 _ ?side1 ?side2 A22.out).mono ?_
       (case side1 => repeat (first | exact (Kd.C_below HR510_0.out (bs HB.out)) | (with_reducible refine Kd.C_alloc ?_ _) | (with_reducible refine Kd.C_drewN ?_ _) | (with_reducible refine Kd.C_drew ?_)))
       (case side2 => exact HC510_0.out)
       rintro e w' ⟨rfl, ⟨nd, rfl⟩⟩
       refine ⟨_, rfl, ?_⟩
       refine hK.out _ _ ⟨(blk_cell BK504.out 0).trans rfl, (blk_cell BK505.out 0).trans rfl, ((HB.out.cell (World.block_lt_of_cell? w _ hw508_0)).trans hw508_0), ((HB.out.cell (World.block_lt_of_cell? w _ hw510_0)).trans hw510_0)⟩ (fun hHeld => ?_)
       clear hK K
       refine norm_ (a' := ?_) ?_ ?_
       rotate_left
       ·show Act.put _ (some 48) _ = _
        simp only [Act.put, List.setIfInBounds_toArray, List.set_cons_zero, List.set_cons_succ, i64_w, i32_w]
        rfl
       refine pv_ 14 49 rs29 HT_ ?_
       refine done_ (done_of HT_.out (by kernel_rfl)) ?_
       try go_wp2
       go_roundg k3
       case measure => have := HJ2.out; have := HK2.out; have := HK3.out; omega
       case rel => exact ⟨(wrap64 (x6_3 + 1)), (by first | rfl | (simp; done) | (simp [*]; done)), H', ⟨by have := HJ2.out; have := HK2.out; have := HK3.out; omega⟩, ⟨by (with_reducible repeat (first | refine blk_drewN ?_ _ | refine blk_drew ?_ | refine blk_alloc ?_ _)); exact BK504.out⟩, ⟨by (with_reducible repeat (first | refine blk_drewN ?_ _ | refine blk_drew ?_ | refine blk_alloc ?_ _)); exact BK505.out⟩, ⟨by repeat (first | (with_reducible first | exact HB.out | apply ba | apply pb | apply bd | refine below_set ?_ GE504.out | refine below_set ?_ GE505.out) | exact HB.out)⟩⟩
end Go.Proofs.Ytjgdalhdiohclaa.Q
end
