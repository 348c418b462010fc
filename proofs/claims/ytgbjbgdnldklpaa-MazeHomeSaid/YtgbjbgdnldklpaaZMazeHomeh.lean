/- Whatever connected maze of the size there is, and wherever one begins, what Universal returns visits all of its rooms, also with letters before it and behind it; it is proved for every input, without conditions. (text 8 of 30) -/
import Derived.Test.YtgbjbgdnldklpaaZMazeHomeg
/-! Part QMazeConnected -/
section
-- Written by xprint.py, a program of this session's, over the kit's print. Lean checks it.
namespace Go.Proofs.Ytgbjbgdnldklpaa.Q
open Go.RowKit Go.Proofs.YtgbjbgdnldklpaaW.PrintWords Go.Proofs.YtgbjbgdnldklpaaW.PrintLast Go.Proofs.YtgbjbgdnldklpaaW.PrintMore
attribute [local go_sem] max2_int min2_int max_two min_two max_three min_three max_four min_four
set_option linter.unusedVariables false
set_option linter.unusedSimpArgs false

/-! ### maze_Connected: function 23 -/
mutual
def maze_Connected.l0 : Nat → List Bool → List Int → Int → List (List (S44)) → Option (Bool × Int)
 | 0, _, _, _, _ => none
 | k + 1, x4, x5, x6, x240000 => if x6 < (x5.length : Int) then (if 0 ≤ x6 then (if 0 ≤ (rd x5 x6) then (if (rd x5 x6) < (x240000.length : Int) then (maze_Connected.l1 k x4 x5 x6 (rd_L4 x240000 (rd x5 x6)) ((rd_L4 x240000 (rd x5 x6)).length : Int) 0 x240000) else (none)) else (none)) else (none)) else (some (((x5.length : Int) == (x240000.length : Int)), 0))
def maze_Connected.l1 : Nat → List Bool → List Int → Int → List (S44) → Int → Int → List (List (S44)) → Option (Bool × Int)
 | 0, _, _, _, _, _, _, _ => none
 | k + 1, x4, x5, x6, x32, x33, x34, x240000 => if x34 < x33 then (if 0 ≤ x34 then (if x34 < (x32.length : Int) then (if 0 ≤ ((rd_T44 x32 x34).f0) then (if ((rd_T44 x32 x34).f0) < (x4.length : Int) then (if (rdOf false x4 ((rd_T44 x32 x34).f0) = true) then (maze_Connected.l1 k x4 x5 x6 x32 x33 (wrap64 (x34 + 1)) x240000) else (if x5.length < 17592186044416 then (maze_Connected.l1 k (x4.set (((rd_T44 x32 x34).f0) : Int).toNat true) (x5 ++ [(rd_T44 x32 x34).f0]) x6 x32 x33 (wrap64 (x34 + 1)) x240000) else (none))) else (none)) else (none)) else (none)) else (none)) else (maze_Connected.l0 k x4 x5 (wrap64 (x6 + 1)) x240000)
end
def maze_Connected.f (k : Nat) (l0_0 : List (List (S44))) : Option (Bool × Int) := (maze_Valid.f l0_0).bind fun t240 => (if t240 = true then (if 0 ≤ (l0_0.length : Int) then (if ((l0_0.length : Int) : Int).toNat ≤ 281474976710656 then ((some (List.replicate ((l0_0.length : Int) : Int).toNat false : List Bool)).bind fun y241 => (if 0 < (y241.length : Int) then (maze_Connected.l0 k (y241.set (0 : Int).toNat true) (([0] : List Int)) 0 l0_0) else (none))) else (none)) else (none)) else (some (false, 1)))
theorem maze_Connected.mono_l : ∀ k, (∀ y0 y1 y2 y3, LeO (maze_Connected.l0 k y0 y1 y2 y3) (maze_Connected.l0 (k + 1) y0 y1 y2 y3)) ∧ (∀ y0 y1 y2 y3 y4 y5 y6, LeO (maze_Connected.l1 k y0 y1 y2 y3 y4 y5 y6) (maze_Connected.l1 (k + 1) y0 y1 y2 y3 y4 y5 y6))
 | 0 => ⟨fun _ _ _ _ r h => by simp [maze_Connected.l0] at h, fun _ _ _ _ _ _ _ r h => by simp [maze_Connected.l1] at h⟩
 | k + 1 => by
  obtain ⟨ih0, ih1⟩ := maze_Connected.mono_l k
  refine ⟨?_, ?_⟩
  ·intro y0 y1 y2 y3
   unfold maze_Connected.l0
   repeat' first
   | (with_reducible exact ih0 _ _ _ _)
   | (with_reducible exact ih1 _ _ _ _ _ _ _)
   | (with_reducible exact LeO.refl _)
   | (with_reducible exact LeO.none _)
   | (with_reducible refine LeO.ite ?_ ?_)
   | (with_reducible refine LeO.bind ?_ (fun _ => ?_))
   | exact ih0 _ _ _ _
   | exact ih1 _ _ _ _ _ _ _
   | exact LeO.none _
   | refine LeO.ite ?_ ?_
   | refine LeO.bind ?_ (fun _ => ?_)
  ·intro y0 y1 y2 y3 y4 y5 y6
   unfold maze_Connected.l1
   repeat' first
   | (with_reducible exact ih0 _ _ _ _)
   | (with_reducible exact ih1 _ _ _ _ _ _ _)
   | (with_reducible exact LeO.refl _)
   | (with_reducible exact LeO.none _)
   | (with_reducible refine LeO.ite ?_ ?_)
   | (with_reducible refine LeO.bind ?_ (fun _ => ?_))
   | exact ih0 _ _ _ _
   | exact ih1 _ _ _ _ _ _ _
   | exact LeO.none _
   | refine LeO.ite ?_ ?_
   | refine LeO.bind ?_ (fun _ => ?_)
theorem maze_Connected.mono : ∀ a0 k, LeO (maze_Connected.f k a0) (maze_Connected.f (k + 1) a0) := by
 intro a0 k
 obtain ⟨ih0, ih1⟩ := maze_Connected.mono_l k
 unfold maze_Connected.f
 repeat' first
   | (with_reducible exact ih0 _ _ _ _)
   | (with_reducible exact ih1 _ _ _ _ _ _ _)
   | (with_reducible exact LeO.refl _)
   | (with_reducible exact LeO.none _)
   | (with_reducible refine LeO.ite ?_ ?_)
   | (with_reducible refine LeO.bind ?_ (fun _ => ?_))
   | exact ih0 _ _ _ _
   | exact ih1 _ _ _ _ _ _ _
   | exact LeO.none _
   | refine LeO.ite ?_ ?_
   | refine LeO.bind ?_ (fun _ => ?_)
set_option maxHeartbeats 8000000 in
set_option maxRecDepth 100000 in
theorem maze_Connected.calls (k : Nat) (A0_0 : Option Addr) (c0_0 : Nat) (l0_0 : List (List (S44))) (r1 : Bool) (r2 : Int) (w : World) (hr0_0 : Kd.C (Kd.slice 44 k44) w A0_0 l0_0.length l0_0) (hc0_0 : l0_0.length ≤ c0_0) (h : maze_Connected.f k l0_0 = some (r1, r2)) :
  Calls Try.prog 23 #[.agg #[.slice A0_0 l0_0.length c0_0]] w fun e w' => e = .returned (.tuple #[.bool r1, .int .i64 r2]) ∧ Below w.heap.size w w' := by
 have hu38 := Try.underlying38
 have hu44 := Try.underlying44
 have HR0_0 := Aside0.mk hr0_0
 have HC0_0 := Aside0.mk hc0_0
 clear hr0_0 hc0_0
 have HB := Aside0.mk (Below.refl w.heap.size w)
 have H : ((maze_Valid.f l0_0).bind fun t240 => (if t240 = true then (if 0 ≤ (l0_0.length : Int) then (if ((l0_0.length : Int) : Int).toNat ≤ 281474976710656 then ((some (List.replicate ((l0_0.length : Int) : Int).toNat false : List Bool)).bind fun y241 => (if 0 < (y241.length : Int) then (maze_Connected.l0 k (y241.set (0 : Int).toNat true) (([0] : List Int)) 0 l0_0) else (none))) else (none)) else (none)) else (some (false, 1)))) = some (r1, r2) := h
 clear h
 replace H := Option.bind_eq_some_iff.mp H
 obtain ⟨t240, A20, H⟩ := H
 replace H : (if t240 = true then (if 0 ≤ (l0_0.length : Int) then (if ((l0_0.length : Int) : Int).toNat ≤ 281474976710656 then ((some (List.replicate ((l0_0.length : Int) : Int).toNat false : List Bool)).bind fun y241 => (if 0 < (y241.length : Int) then (maze_Connected.l0 k (y241.set (0 : Int).toNat true) (([0] : List Int)) 0 l0_0) else (none))) else (none)) else (none)) else (some (false, 1))) = some (r1, r2) := H
 have A2 := Aside0.mk A20
 clear A20
 by_cases c3 : t240 = true
 ·subst c3
  have H1 : (if 0 ≤ (l0_0.length : Int) then (if ((l0_0.length : Int) : Int).toNat ≤ 281474976710656 then ((some (List.replicate ((l0_0.length : Int) : Int).toNat false : List Bool)).bind fun y241 => (if 0 < (y241.length : Int) then (maze_Connected.l0 k (y241.set (0 : Int).toNat true) (([0] : List Int)) 0 l0_0) else (none))) else (none)) else (none)) = some (r1, r2) := by rw [if_pos rfl] at H; exact H
  clear H
  have H := H1
  clear H1
  by_cases c4 : 0 ≤ (l0_0.length : Int)
  ·rw [if_pos c4] at H
   have c4b0 := eq_true c4
   have c4b1 : decide (0 ≤ (l0_0.length : Int)) = true := decide_eq_true c4
   clear c4
   by_cases c5 : ((l0_0.length : Int) : Int).toNat ≤ 281474976710656
   ·rw [if_pos c5] at H
    have c5b0 := eq_true c5
    have c5b1 : decide (((l0_0.length : Int) : Int).toNat ≤ 281474976710656) = true := decide_eq_true c5
    clear c5
    obtain ⟨y241, hy241⟩ : ∃ y_ : List Bool, y_ = (List.replicate ((l0_0.length : Int) : Int).toNat false) := ⟨_, rfl⟩
    replace H : (if 0 < (y241.length : Int) then (maze_Connected.l0 k (y241.set (0 : Int).toNat true) (([0] : List Int)) 0 l0_0) else (none)) = some (r1, r2) := by first | (rw [hy241]; with_reducible exact H) | (have H2_ := (Option.bind_some _ _).symm.trans H; rw [hy241]; with_reducible exact H2_) | (have H2_ := (Option.bind_some _ _).symm.trans H; with_reducible exact H2_) | with_reducible exact H | (rw [hy241]; exact H) | exact H
    have Ny241 := Aside0.mk hy241
    clear hy241
    by_cases c6 : 0 < (y241.length : Int)
    ·rw [if_pos c6] at H
     have c6b0 : decide (0 < (y241.length : Int)) = true := decide_eq_true c6
     have c6b1 : decide (0 < y241.length) = true := decide_eq_true (by omega)
     clear c6
     obtain ⟨y244, hy244⟩ : ∃ y_ : List Bool, y_ = (y241.set (0 : Int).toNat true) := ⟨_, rfl⟩
     replace H : (maze_Connected.l0 k y244 (([0] : List Int)) 0 l0_0) = some (r1, r2) := by first | (rw [hy244]; with_reducible exact H) | (have H2_ := (Option.bind_some _ _).symm.trans H; rw [hy244]; with_reducible exact H2_) | (have H2_ := (Option.bind_some _ _).symm.trans H; with_reducible exact H2_) | with_reducible exact H | (rw [hy244]; exact H) | exact H
     have Ny244 := Aside0.mk hy244
     clear hy244
     obtain ⟨y245, hy245⟩ : ∃ y_ : List Int, y_ = (([0] : List Int)) := ⟨_, rfl⟩
     replace H : (maze_Connected.l0 k y244 y245 0 l0_0) = some (r1, r2) := by first | (rw [hy245]; with_reducible exact H) | (have H2_ := (Option.bind_some _ _).symm.trans H; rw [hy245]; with_reducible exact H2_) | (have H2_ := (Option.bind_some _ _).symm.trans H; with_reducible exact H2_) | with_reducible exact H | (rw [hy245]; exact H) | exact H
     have Ny245 := Aside0.mk hy245
     clear hy245
     have H' := Aside0.mk H
     clear H
     go_enter Try.func23, Try.ntmps23
     go_wp2_with (first | ((with_reducible refine gate_dst (N := 1) rfl ?_); refine box_event ?hg (N := 1) ?hd (cs := #[.slice A0_0 l0_0.length c0_0]) (t := 38) ?hr ?_; (case hd => rfl); (case hg => rfl); (case hr => first | (go_simp; done) | (go_simp; rfl)); intro gb239 hg w8 hbox hb; have n0_ := Aside0.mk (below_step (by repeat (first | (with_reducible first | exact HB.out | apply below_alloc | apply pw_below_drewN | apply below_drew1) | exact HB.out)) hb); have n1_ := Aside0.mk (hbox); have n2_ := Aside0.mk ((by rw [hg]; exact (below_size (by repeat (first | (with_reducible first | exact HB.out | apply below_alloc | apply pw_below_drewN | apply below_drew1) | exact HB.out))) : w.heap.size ≤ gb239)); have n3_ := Aside0.mk ((by rw [hg]; exact (below_size (by repeat (first | (with_reducible first | exact HB.out | apply below_alloc | apply pw_below_drewN | apply below_drew1) | exact HB.out))) : w.heap.size ≤ gb239)); clear HB; have HB := n0_; have BK239 := n1_; have GW239 := n2_; have GE239 := n3_; clear n0_ n1_ n2_ n3_; clear hb hbox hg; have hcz9_0 : w8.cell? ⟨gb239, 0, none⟩ = some (.slice A0_0 l0_0.length c0_0) := (blk_cell BK239.out 0).trans rfl; have hfz9_0 := blk_frozen BK239.out 0) | (go_at_call 24; (with_reducible refine (maze_Valid.calls _ _ l0_0 true _ ?side1 ?side2 A2.out).mono ?_); (case side1 => repeat (first | exact (Kd.C_below HR0_0.out HB.out) | (with_reducible refine Kd.C_alloc ?_ _) | (with_reducible refine Kd.C_drewN ?_ _) | (with_reducible refine Kd.C_drew ?_))); (case side2 => exact HC0_0.out); rintro e w10 ⟨rfl, hb⟩; have n0_ := Aside0.mk (blk_below (g := gb239) (o := .cells #[.slice A0_0 l0_0.length c0_0] 38 (0, 0)) (by (with_reducible repeat (first | refine blk_drewN ?_ _ | refine blk_drew ?_ | refine blk_alloc ?_ _)); exact BK239.out) hb); have n1_ := Aside0.mk (below_step (by repeat (first | (with_reducible first | exact HB.out | apply below_alloc | apply pw_below_drewN | apply below_drew1 | refine below_set ?_ GE239.out) | exact HB.out)) hb); clear BK239; clear HB; have BK239 := n0_; have HB := n1_; clear n0_ n1_; (try clear hb); (try clear hb2); (try clear hk); (try clear hi); have hcz11_0 : w10.cell? ⟨gb239, 0, none⟩ = some (.slice A0_0 l0_0.length c0_0) := (blk_cell BK239.out 0).trans rfl; have hfz11_0 := blk_frozen BK239.out 0) | ((with_reducible refine gate_dst (N := 15) rfl ?_); refine Kd.R_make Kd.bool _ 4 rfl (N := 15) rfl 73 _ _ rfl (l0_0.length : Int) rfl rfl Try.underlying73 (.bool false) 1 info4 rfl (by decide) (by omega) false (ok := fun _ => True) (okp := fun _ => True) rfl (fun _ hk => hk) trivial (of_decide_eq_true (by first | (with_reducible assumption) | assumption)) (Nat.le_trans (Nat.mul_le_mul_right _ (of_decide_eq_true (by first | (with_reducible assumption) | assumption) : (l0_0.length : Int).toNat ≤ 281474976710656)) (by omega)) (Below.refl _ _) (Nat.le_refl _) ?_; intro v242 w12 ho13 hb hg_ hnew_; clear hg_ hnew_; (first | rw [← Ny241.out] at ho13 | (simp only [Int.reduceToNat] at ho13; rw [← Ny241.out] at ho13)); have n0_ := Aside0.mk (Kd.R_lower ho13 (below_size (by repeat (first | (with_reducible first | exact HB.out | apply below_alloc | apply pw_below_drewN | apply below_drew1 | refine below_set ?_ GE239.out) | exact HB.out)))); have n1_ := Aside0.mk (blk_below (g := gb239) (o := .cells #[.slice A0_0 l0_0.length c0_0] 38 (0, 0)) (by (with_reducible repeat (first | refine blk_drewN ?_ _ | refine blk_drew ?_ | refine blk_alloc ?_ _)); exact BK239.out) hb); have n2_ := Aside0.mk (below_step (by repeat (first | (with_reducible first | exact HB.out | apply below_alloc | apply pw_below_drewN | apply below_drew1 | refine below_set ?_ GE239.out) | exact HB.out)) hb); clear BK239; clear HB; have HO243 := n0_; have BK239 := n1_; have HB := n2_; clear n0_ n1_ n2_; clear hb ho13; have p7 : 0 ≤ (0 : Int) := (by omega); have q7 : (0 : Int) < ((y241.length : Int) : Int) := of_decide_eq_true (by first | (with_reducible assumption) | assumption); have qi7 : (0 < y241.length) = True := eq_true (by omega); obtain ⟨go7, co7, eo7, gb7, gl7, cl7, HG7⟩ := Kd.R_form HO243.out (by omega); (first | cases eo7 | (injection eo7 with ea_ en_ ec_; (first | subst ea_ | (injection ea_ with ea_; subst ea_)); subst ec_; clear en_)); have GB7 := Aside0.mk gb7; have GG7 := Aside0.mk HG7; clear gb7 gl7 HG7; obtain ⟨hx7_0, hf7_0⟩ := Kd.R_celln false HO243.out (0 : Int) p7 q7; (try rw [show ((0 : Int)).toNat = 0 from rfl] at hx7_0); (try simp only [Nat.reduceMul, Nat.zero_mul, Nat.zero_add, Nat.reduceAdd] at hx7_0); (try rw [show ((0 : Int)).toNat = 0 from rfl] at hf7_0); (try simp only [Nat.reduceMul, Nat.zero_mul, Nat.zero_add, Nat.reduceAdd] at hf7_0); replace p7 := eq_true p7; replace q7 := eq_true q7; obtain ⟨hy14_, hz14_⟩ := Kd.R_celln false HO243.out (0 : Int) (by omega) (of_decide_eq_true (by first | (with_reducible assumption) | assumption)); (try simp only [Int.reduceToNat, Int.toNat_zero, Int.toNat_ofNat, Nat.reduceMul, Nat.zero_mul, Nat.zero_add] at hy14_ hz14_); (try rw [show ((0 : Int)).toNat = 0 from rfl] at hy14_); (try rw [show ((0 : Int)).toNat = 0 from rfl] at hz14_); have HP14 := Kd.R_putg HO243.out (0 : Int) true) | ((with_reducible refine gate_store (t := 4) (p := 17) rfl ?_); (try (rw [drewN_self w12]; generalize hq_ : World.drewN w12 _ = w12; have n0_ := Aside0.mk (Kd.R_at hq_ HO243.out); have n1_ := Aside0.mk (blk_at hq_ BK239.out); have n2_ := Aside0.mk (below_at hq_ HB.out); clear hq_ HO243 BK239 HB; have HO243 := n0_; have BK239 := n1_; have HB := n2_; clear n0_ n1_ n2_; (try (obtain ⟨hy14_, hz14_⟩ := Kd.R_celln false HO243.out (0 : Int) (by omega) (of_decide_eq_true (by first | (with_reducible assumption) | assumption)))); (try (try simp only [Int.reduceToNat, Int.toNat_zero, Int.toNat_ofNat, Nat.reduceMul, Nat.zero_mul, Nat.zero_add] at hy14_ hz14_)); (try (try rw [show ((0 : Int)).toNat = 0 from rfl] at hy14_)); (try (try rw [show ((0 : Int)).toNat = 0 from rfl] at hz14_)); (try (have HP14 := Kd.R_putg HO243.out (0 : Int) true)))); refine store_event (t := 4) (p := 17) (v := ?vo_w15) (w1 := (w12.setCell ⟨go7, (0 : Int).toNat, none⟩ (.bool true))) ?hg ?ho ?hn ?hr ?_; (case ho => rfl); (case hg => rfl); (case hn => rfl); (case hr => first | (go_simp; done) | (go_simp; rfl)); intro w15 hw; have hg : w12.grownBy w15 (some go7) := (by rw [hw]; exact HP14.2); have hp_ : Kd.R Kd.bool 4 w15 w.heap.size (fun _ => True) (.slice (some ⟨go7, 0, none⟩) y241.length co7) y244 := (by rw [hw, Ny244.out]; exact HP14.1); clear HP14; have n0_ := Aside0.mk (blk_grown (g := gb239) (o := .cells #[.slice A0_0 l0_0.length c0_0] 38 (0, 0)) (by (with_reducible repeat (first | refine blk_drewN ?_ _ | refine blk_drew ?_ | refine blk_alloc ?_ _)); exact BK239.out) hg (Kd.R_ne HO243.out BK239.out (by decide))); have n1_ := Aside0.mk (hp_); have n2_ := Aside0.mk ((by rw [hw]; exact below_set (HB.out) GB7.out : Below w.heap.size w w15)); clear BK239; clear HO243; clear HB; have BK239 := n0_; have HO243 := n1_; have HB := n2_; clear n0_ n1_ n2_; clear hg hw hp_) | ((with_reducible refine gate_dst (N := 18) rfl ?_); refine Kd.R_lit (Kd.int .i64) _ 3 ?hg (N := 18) ?hd (xs := ([0] : List Int)) (inner := [.int .i64 0]) (ok := fun _ => True) (okp := fun _ => True) ?hr ?hp (fun _ hk => hk) trivial (Below.refl _ _) (Nat.le_refl _) (by simp) ?_; (case hd => rfl); (case hg => rfl); (case hr => first | (go_simp; done) | (go_simp; rfl)); (case hp => exact (Reps.one (show Kd.M (Kd.int .i64) _ _ _ 0 [.int .i64 0] from rfl) (Reps.none _ _))); intro v246 w16 ho17 hb hg_ hnew_; clear hg_ hnew_; (first | rw [← Ny245.out] at ho17 | (simp only [Int.reduceToNat] at ho17; rw [← Ny245.out] at ho17)); have n0_ := Aside0.mk (Kd.R_below (by (with_reducible repeat (first | apply Kd.R_alloc | apply Kd.R_drewN | apply Kd.R_drew)); exact HO243.out) hb); have n1_ := Aside0.mk (Kd.R_lower ho17 (below_size (by repeat (first | (with_reducible first | exact HB.out | apply below_alloc | apply pw_below_drewN | apply below_drew1 | refine below_set ?_ GE239.out) | exact HB.out)))); have n2_ := Aside0.mk (blk_below (g := gb239) (o := .cells #[.slice A0_0 l0_0.length c0_0] 38 (0, 0)) (by (with_reducible repeat (first | refine blk_drewN ?_ _ | refine blk_drew ?_ | refine blk_alloc ?_ _)); exact BK239.out) hb); have n3_ := Aside0.mk (below_step (by repeat (first | (with_reducible first | exact HB.out | apply below_alloc | apply pw_below_drewN | apply below_drew1 | refine below_set ?_ GE239.out) | exact HB.out)) hb); clear HO243; clear BK239; clear HB; have HO243 := n0_; have HO247 := n1_; have BK239 := n2_; have HB := n3_; clear n0_ n1_ n2_ n3_; clear hb ho17))
     repeat (go_quiet (first | ((with_reducible refine gate_dst (N := 1) rfl ?_); refine box_event ?hg (N := 1) ?hd (cs := #[.slice A0_0 l0_0.length c0_0]) (t := 38) ?hr ?_; (case hd => rfl); (case hg => rfl); (case hr => first | (go_simp; done) | (go_simp; rfl)); intro gb239 hg w8 hbox hb; have n0_ := Aside0.mk (below_step (by repeat (first | (with_reducible first | exact HB.out | apply below_alloc | apply pw_below_drewN | apply below_drew1) | exact HB.out)) hb); have n1_ := Aside0.mk (hbox); have n2_ := Aside0.mk ((by rw [hg]; exact (below_size (by repeat (first | (with_reducible first | exact HB.out | apply below_alloc | apply pw_below_drewN | apply below_drew1) | exact HB.out))) : w.heap.size ≤ gb239)); have n3_ := Aside0.mk ((by rw [hg]; exact (below_size (by repeat (first | (with_reducible first | exact HB.out | apply below_alloc | apply pw_below_drewN | apply below_drew1) | exact HB.out))) : w.heap.size ≤ gb239)); clear HB; have HB := n0_; have BK239 := n1_; have GW239 := n2_; have GE239 := n3_; clear n0_ n1_ n2_ n3_; clear hb hbox hg; have hcz9_0 : w8.cell? ⟨gb239, 0, none⟩ = some (.slice A0_0 l0_0.length c0_0) := (blk_cell BK239.out 0).trans rfl; have hfz9_0 := blk_frozen BK239.out 0) | (go_at_call 24; (with_reducible refine (maze_Valid.calls _ _ l0_0 true _ ?side1 ?side2 A2.out).mono ?_); (case side1 => repeat (first | exact (Kd.C_below HR0_0.out HB.out) | (with_reducible refine Kd.C_alloc ?_ _) | (with_reducible refine Kd.C_drewN ?_ _) | (with_reducible refine Kd.C_drew ?_))); (case side2 => exact HC0_0.out); rintro e w10 ⟨rfl, hb⟩; have n0_ := Aside0.mk (blk_below (g := gb239) (o := .cells #[.slice A0_0 l0_0.length c0_0] 38 (0, 0)) (by (with_reducible repeat (first | refine blk_drewN ?_ _ | refine blk_drew ?_ | refine blk_alloc ?_ _)); exact BK239.out) hb); have n1_ := Aside0.mk (below_step (by repeat (first | (with_reducible first | exact HB.out | apply below_alloc | apply pw_below_drewN | apply below_drew1 | refine below_set ?_ GE239.out) | exact HB.out)) hb); clear BK239; clear HB; have BK239 := n0_; have HB := n1_; clear n0_ n1_; (try clear hb); (try clear hb2); (try clear hk); (try clear hi); have hcz11_0 : w10.cell? ⟨gb239, 0, none⟩ = some (.slice A0_0 l0_0.length c0_0) := (blk_cell BK239.out 0).trans rfl; have hfz11_0 := blk_frozen BK239.out 0) | ((with_reducible refine gate_dst (N := 15) rfl ?_); refine Kd.R_make Kd.bool _ 4 rfl (N := 15) rfl 73 _ _ rfl (l0_0.length : Int) rfl rfl Try.underlying73 (.bool false) 1 info4 rfl (by decide) (by omega) false (ok := fun _ => True) (okp := fun _ => True) rfl (fun _ hk => hk) trivial (of_decide_eq_true (by first | (with_reducible assumption) | assumption)) (Nat.le_trans (Nat.mul_le_mul_right _ (of_decide_eq_true (by first | (with_reducible assumption) | assumption) : (l0_0.length : Int).toNat ≤ 281474976710656)) (by omega)) (Below.refl _ _) (Nat.le_refl _) ?_; intro v242 w12 ho13 hb hg_ hnew_; clear hg_ hnew_; (first | rw [← Ny241.out] at ho13 | (simp only [Int.reduceToNat] at ho13; rw [← Ny241.out] at ho13)); have n0_ := Aside0.mk (Kd.R_lower ho13 (below_size (by repeat (first | (with_reducible first | exact HB.out | apply below_alloc | apply pw_below_drewN | apply below_drew1 | refine below_set ?_ GE239.out) | exact HB.out)))); have n1_ := Aside0.mk (blk_below (g := gb239) (o := .cells #[.slice A0_0 l0_0.length c0_0] 38 (0, 0)) (by (with_reducible repeat (first | refine blk_drewN ?_ _ | refine blk_drew ?_ | refine blk_alloc ?_ _)); exact BK239.out) hb); have n2_ := Aside0.mk (below_step (by repeat (first | (with_reducible first | exact HB.out | apply below_alloc | apply pw_below_drewN | apply below_drew1 | refine below_set ?_ GE239.out) | exact HB.out)) hb); clear BK239; clear HB; have HO243 := n0_; have BK239 := n1_; have HB := n2_; clear n0_ n1_ n2_; clear hb ho13; have p7 : 0 ≤ (0 : Int) := (by omega); have q7 : (0 : Int) < ((y241.length : Int) : Int) := of_decide_eq_true (by first | (with_reducible assumption) | assumption); have qi7 : (0 < y241.length) = True := eq_true (by omega); obtain ⟨go7, co7, eo7, gb7, gl7, cl7, HG7⟩ := Kd.R_form HO243.out (by omega); (first | cases eo7 | (injection eo7 with ea_ en_ ec_; (first | subst ea_ | (injection ea_ with ea_; subst ea_)); subst ec_; clear en_)); have GB7 := Aside0.mk gb7; have GG7 := Aside0.mk HG7; clear gb7 gl7 HG7; obtain ⟨hx7_0, hf7_0⟩ := Kd.R_celln false HO243.out (0 : Int) p7 q7; (try rw [show ((0 : Int)).toNat = 0 from rfl] at hx7_0); (try simp only [Nat.reduceMul, Nat.zero_mul, Nat.zero_add, Nat.reduceAdd] at hx7_0); (try rw [show ((0 : Int)).toNat = 0 from rfl] at hf7_0); (try simp only [Nat.reduceMul, Nat.zero_mul, Nat.zero_add, Nat.reduceAdd] at hf7_0); replace p7 := eq_true p7; replace q7 := eq_true q7; obtain ⟨hy14_, hz14_⟩ := Kd.R_celln false HO243.out (0 : Int) (by omega) (of_decide_eq_true (by first | (with_reducible assumption) | assumption)); (try simp only [Int.reduceToNat, Int.toNat_zero, Int.toNat_ofNat, Nat.reduceMul, Nat.zero_mul, Nat.zero_add] at hy14_ hz14_); (try rw [show ((0 : Int)).toNat = 0 from rfl] at hy14_); (try rw [show ((0 : Int)).toNat = 0 from rfl] at hz14_); have HP14 := Kd.R_putg HO243.out (0 : Int) true) | ((with_reducible refine gate_store (t := 4) (p := 17) rfl ?_); (try (rw [drewN_self w12]; generalize hq_ : World.drewN w12 _ = w12; have n0_ := Aside0.mk (Kd.R_at hq_ HO243.out); have n1_ := Aside0.mk (blk_at hq_ BK239.out); have n2_ := Aside0.mk (below_at hq_ HB.out); clear hq_ HO243 BK239 HB; have HO243 := n0_; have BK239 := n1_; have HB := n2_; clear n0_ n1_ n2_; (try (obtain ⟨hy14_, hz14_⟩ := Kd.R_celln false HO243.out (0 : Int) (by omega) (of_decide_eq_true (by first | (with_reducible assumption) | assumption)))); (try (try simp only [Int.reduceToNat, Int.toNat_zero, Int.toNat_ofNat, Nat.reduceMul, Nat.zero_mul, Nat.zero_add] at hy14_ hz14_)); (try (try rw [show ((0 : Int)).toNat = 0 from rfl] at hy14_)); (try (try rw [show ((0 : Int)).toNat = 0 from rfl] at hz14_)); (try (have HP14 := Kd.R_putg HO243.out (0 : Int) true)))); refine store_event (t := 4) (p := 17) (v := ?vo_w15) (w1 := (w12.setCell ⟨go7, (0 : Int).toNat, none⟩ (.bool true))) ?hg ?ho ?hn ?hr ?_; (case ho => rfl); (case hg => rfl); (case hn => rfl); (case hr => first | (go_simp; done) | (go_simp; rfl)); intro w15 hw; have hg : w12.grownBy w15 (some go7) := (by rw [hw]; exact HP14.2); have hp_ : Kd.R Kd.bool 4 w15 w.heap.size (fun _ => True) (.slice (some ⟨go7, 0, none⟩) y241.length co7) y244 := (by rw [hw, Ny244.out]; exact HP14.1); clear HP14; have n0_ := Aside0.mk (blk_grown (g := gb239) (o := .cells #[.slice A0_0 l0_0.length c0_0] 38 (0, 0)) (by (with_reducible repeat (first | refine blk_drewN ?_ _ | refine blk_drew ?_ | refine blk_alloc ?_ _)); exact BK239.out) hg (Kd.R_ne HO243.out BK239.out (by decide))); have n1_ := Aside0.mk (hp_); have n2_ := Aside0.mk ((by rw [hw]; exact below_set (HB.out) GB7.out : Below w.heap.size w w15)); clear BK239; clear HO243; clear HB; have BK239 := n0_; have HO243 := n1_; have HB := n2_; clear n0_ n1_ n2_; clear hg hw hp_) | ((with_reducible refine gate_dst (N := 18) rfl ?_); refine Kd.R_lit (Kd.int .i64) _ 3 ?hg (N := 18) ?hd (xs := ([0] : List Int)) (inner := [.int .i64 0]) (ok := fun _ => True) (okp := fun _ => True) ?hr ?hp (fun _ hk => hk) trivial (Below.refl _ _) (Nat.le_refl _) (by simp) ?_; (case hd => rfl); (case hg => rfl); (case hr => first | (go_simp; done) | (go_simp; rfl)); (case hp => exact (Reps.one (show Kd.M (Kd.int .i64) _ _ _ 0 [.int .i64 0] from rfl) (Reps.none _ _))); intro v246 w16 ho17 hb hg_ hnew_; clear hg_ hnew_; (first | rw [← Ny245.out] at ho17 | (simp only [Int.reduceToNat] at ho17; rw [← Ny245.out] at ho17)); have n0_ := Aside0.mk (Kd.R_below (by (with_reducible repeat (first | apply Kd.R_alloc | apply Kd.R_drewN | apply Kd.R_drew)); exact HO243.out) hb); have n1_ := Aside0.mk (Kd.R_lower ho17 (below_size (by repeat (first | (with_reducible first | exact HB.out | apply below_alloc | apply pw_below_drewN | apply below_drew1 | refine below_set ?_ GE239.out) | exact HB.out)))); have n2_ := Aside0.mk (blk_below (g := gb239) (o := .cells #[.slice A0_0 l0_0.length c0_0] 38 (0, 0)) (by (with_reducible repeat (first | refine blk_drewN ?_ _ | refine blk_drew ?_ | refine blk_alloc ?_ _)); exact BK239.out) hb); have n3_ := Aside0.mk (below_step (by repeat (first | (with_reducible first | exact HB.out | apply below_alloc | apply pw_below_drewN | apply below_drew1 | refine below_set ?_ GE239.out) | exact HB.out)) hb); clear HO243; clear BK239; clear HB; have HO243 := n0_; have HO247 := n1_; have BK239 := n2_; have HB := n3_; clear n0_ n1_ n2_ n3_; clear hb ho17)); try go_wp2_with (first | ((with_reducible refine gate_dst (N := 1) rfl ?_); refine box_event ?hg (N := 1) ?hd (cs := #[.slice A0_0 l0_0.length c0_0]) (t := 38) ?hr ?_; (case hd => rfl); (case hg => rfl); (case hr => first | (go_simp; done) | (go_simp; rfl)); intro gb239 hg w8 hbox hb; have n0_ := Aside0.mk (below_step (by repeat (first | (with_reducible first | exact HB.out | apply below_alloc | apply pw_below_drewN | apply below_drew1) | exact HB.out)) hb); have n1_ := Aside0.mk (hbox); have n2_ := Aside0.mk ((by rw [hg]; exact (below_size (by repeat (first | (with_reducible first | exact HB.out | apply below_alloc | apply pw_below_drewN | apply below_drew1) | exact HB.out))) : w.heap.size ≤ gb239)); have n3_ := Aside0.mk ((by rw [hg]; exact (below_size (by repeat (first | (with_reducible first | exact HB.out | apply below_alloc | apply pw_below_drewN | apply below_drew1) | exact HB.out))) : w.heap.size ≤ gb239)); clear HB; have HB := n0_; have BK239 := n1_; have GW239 := n2_; have GE239 := n3_; clear n0_ n1_ n2_ n3_; clear hb hbox hg; have hcz9_0 : w8.cell? ⟨gb239, 0, none⟩ = some (.slice A0_0 l0_0.length c0_0) := (blk_cell BK239.out 0).trans rfl; have hfz9_0 := blk_frozen BK239.out 0) | (go_at_call 24; (with_reducible refine (maze_Valid.calls _ _ l0_0 true _ ?side1 ?side2 A2.out).mono ?_); (case side1 => repeat (first | exact (Kd.C_below HR0_0.out HB.out) | (with_reducible refine Kd.C_alloc ?_ _) | (with_reducible refine Kd.C_drewN ?_ _) | (with_reducible refine Kd.C_drew ?_))); (case side2 => exact HC0_0.out); rintro e w10 ⟨rfl, hb⟩; have n0_ := Aside0.mk (blk_below (g := gb239) (o := .cells #[.slice A0_0 l0_0.length c0_0] 38 (0, 0)) (by (with_reducible repeat (first | refine blk_drewN ?_ _ | refine blk_drew ?_ | refine blk_alloc ?_ _)); exact BK239.out) hb); have n1_ := Aside0.mk (below_step (by repeat (first | (with_reducible first | exact HB.out | apply below_alloc | apply pw_below_drewN | apply below_drew1 | refine below_set ?_ GE239.out) | exact HB.out)) hb); clear BK239; clear HB; have BK239 := n0_; have HB := n1_; clear n0_ n1_; (try clear hb); (try clear hb2); (try clear hk); (try clear hi); have hcz11_0 : w10.cell? ⟨gb239, 0, none⟩ = some (.slice A0_0 l0_0.length c0_0) := (blk_cell BK239.out 0).trans rfl; have hfz11_0 := blk_frozen BK239.out 0) | ((with_reducible refine gate_dst (N := 15) rfl ?_); refine Kd.R_make Kd.bool _ 4 rfl (N := 15) rfl 73 _ _ rfl (l0_0.length : Int) rfl rfl Try.underlying73 (.bool false) 1 info4 rfl (by decide) (by omega) false (ok := fun _ => True) (okp := fun _ => True) rfl (fun _ hk => hk) trivial (of_decide_eq_true (by first | (with_reducible assumption) | assumption)) (Nat.le_trans (Nat.mul_le_mul_right _ (of_decide_eq_true (by first | (with_reducible assumption) | assumption) : (l0_0.length : Int).toNat ≤ 281474976710656)) (by omega)) (Below.refl _ _) (Nat.le_refl _) ?_; intro v242 w12 ho13 hb hg_ hnew_; clear hg_ hnew_; (first | rw [← Ny241.out] at ho13 | (simp only [Int.reduceToNat] at ho13; rw [← Ny241.out] at ho13)); have n0_ := Aside0.mk (Kd.R_lower ho13 (below_size (by repeat (first | (with_reducible first | exact HB.out | apply below_alloc | apply pw_below_drewN | apply below_drew1 | refine below_set ?_ GE239.out) | exact HB.out)))); have n1_ := Aside0.mk (blk_below (g := gb239) (o := .cells #[.slice A0_0 l0_0.length c0_0] 38 (0, 0)) (by (with_reducible repeat (first | refine blk_drewN ?_ _ | refine blk_drew ?_ | refine blk_alloc ?_ _)); exact BK239.out) hb); have n2_ := Aside0.mk (below_step (by repeat (first | (with_reducible first | exact HB.out | apply below_alloc | apply pw_below_drewN | apply below_drew1 | refine below_set ?_ GE239.out) | exact HB.out)) hb); clear BK239; clear HB; have HO243 := n0_; have BK239 := n1_; have HB := n2_; clear n0_ n1_ n2_; clear hb ho13; have p7 : 0 ≤ (0 : Int) := (by omega); have q7 : (0 : Int) < ((y241.length : Int) : Int) := of_decide_eq_true (by first | (with_reducible assumption) | assumption); have qi7 : (0 < y241.length) = True := eq_true (by omega); obtain ⟨go7, co7, eo7, gb7, gl7, cl7, HG7⟩ := Kd.R_form HO243.out (by omega); (first | cases eo7 | (injection eo7 with ea_ en_ ec_; (first | subst ea_ | (injection ea_ with ea_; subst ea_)); subst ec_; clear en_)); have GB7 := Aside0.mk gb7; have GG7 := Aside0.mk HG7; clear gb7 gl7 HG7; obtain ⟨hx7_0, hf7_0⟩ := Kd.R_celln false HO243.out (0 : Int) p7 q7; (try rw [show ((0 : Int)).toNat = 0 from rfl] at hx7_0); (try simp only [Nat.reduceMul, Nat.zero_mul, Nat.zero_add, Nat.reduceAdd] at hx7_0); (try rw [show ((0 : Int)).toNat = 0 from rfl] at hf7_0); (try simp only [Nat.reduceMul, Nat.zero_mul, Nat.zero_add, Nat.reduceAdd] at hf7_0); replace p7 := eq_true p7; replace q7 := eq_true q7; obtain ⟨hy14_, hz14_⟩ := Kd.R_celln false HO243.out (0 : Int) (by omega) (of_decide_eq_true (by first | (with_reducible assumption) | assumption)); (try simp only [Int.reduceToNat, Int.toNat_zero, Int.toNat_ofNat, Nat.reduceMul, Nat.zero_mul, Nat.zero_add] at hy14_ hz14_); (try rw [show ((0 : Int)).toNat = 0 from rfl] at hy14_); (try rw [show ((0 : Int)).toNat = 0 from rfl] at hz14_); have HP14 := Kd.R_putg HO243.out (0 : Int) true) | ((with_reducible refine gate_store (t := 4) (p := 17) rfl ?_); (try (rw [drewN_self w12]; generalize hq_ : World.drewN w12 _ = w12; have n0_ := Aside0.mk (Kd.R_at hq_ HO243.out); have n1_ := Aside0.mk (blk_at hq_ BK239.out); have n2_ := Aside0.mk (below_at hq_ HB.out); clear hq_ HO243 BK239 HB; have HO243 := n0_; have BK239 := n1_; have HB := n2_; clear n0_ n1_ n2_; (try (obtain ⟨hy14_, hz14_⟩ := Kd.R_celln false HO243.out (0 : Int) (by omega) (of_decide_eq_true (by first | (with_reducible assumption) | assumption)))); (try (try simp only [Int.reduceToNat, Int.toNat_zero, Int.toNat_ofNat, Nat.reduceMul, Nat.zero_mul, Nat.zero_add] at hy14_ hz14_)); (try (try rw [show ((0 : Int)).toNat = 0 from rfl] at hy14_)); (try (try rw [show ((0 : Int)).toNat = 0 from rfl] at hz14_)); (try (have HP14 := Kd.R_putg HO243.out (0 : Int) true)))); refine store_event (t := 4) (p := 17) (v := ?vo_w15) (w1 := (w12.setCell ⟨go7, (0 : Int).toNat, none⟩ (.bool true))) ?hg ?ho ?hn ?hr ?_; (case ho => rfl); (case hg => rfl); (case hn => rfl); (case hr => first | (go_simp; done) | (go_simp; rfl)); intro w15 hw; have hg : w12.grownBy w15 (some go7) := (by rw [hw]; exact HP14.2); have hp_ : Kd.R Kd.bool 4 w15 w.heap.size (fun _ => True) (.slice (some ⟨go7, 0, none⟩) y241.length co7) y244 := (by rw [hw, Ny244.out]; exact HP14.1); clear HP14; have n0_ := Aside0.mk (blk_grown (g := gb239) (o := .cells #[.slice A0_0 l0_0.length c0_0] 38 (0, 0)) (by (with_reducible repeat (first | refine blk_drewN ?_ _ | refine blk_drew ?_ | refine blk_alloc ?_ _)); exact BK239.out) hg (Kd.R_ne HO243.out BK239.out (by decide))); have n1_ := Aside0.mk (hp_); have n2_ := Aside0.mk ((by rw [hw]; exact below_set (HB.out) GB7.out : Below w.heap.size w w15)); clear BK239; clear HO243; clear HB; have BK239 := n0_; have HO243 := n1_; have HB := n2_; clear n0_ n1_ n2_; clear hg hw hp_) | ((with_reducible refine gate_dst (N := 18) rfl ?_); refine Kd.R_lit (Kd.int .i64) _ 3 ?hg (N := 18) ?hd (xs := ([0] : List Int)) (inner := [.int .i64 0]) (ok := fun _ => True) (okp := fun _ => True) ?hr ?hp (fun _ hk => hk) trivial (Below.refl _ _) (Nat.le_refl _) (by simp) ?_; (case hd => rfl); (case hg => rfl); (case hr => first | (go_simp; done) | (go_simp; rfl)); (case hp => exact (Reps.one (show Kd.M (Kd.int .i64) _ _ _ 0 [.int .i64 0] from rfl) (Reps.none _ _))); intro v246 w16 ho17 hb hg_ hnew_; clear hg_ hnew_; (first | rw [← Ny245.out] at ho17 | (simp only [Int.reduceToNat] at ho17; rw [← Ny245.out] at ho17)); have n0_ := Aside0.mk (Kd.R_below (by (with_reducible repeat (first | apply Kd.R_alloc | apply Kd.R_drewN | apply Kd.R_drew)); exact HO243.out) hb); have n1_ := Aside0.mk (Kd.R_lower ho17 (below_size (by repeat (first | (with_reducible first | exact HB.out | apply below_alloc | apply pw_below_drewN | apply below_drew1 | refine below_set ?_ GE239.out) | exact HB.out)))); have n2_ := Aside0.mk (blk_below (g := gb239) (o := .cells #[.slice A0_0 l0_0.length c0_0] 38 (0, 0)) (by (with_reducible repeat (first | refine blk_drewN ?_ _ | refine blk_drew ?_ | refine blk_alloc ?_ _)); exact BK239.out) hb); have n3_ := Aside0.mk (below_step (by repeat (first | (with_reducible first | exact HB.out | apply below_alloc | apply pw_below_drewN | apply below_drew1 | refine below_set ?_ GE239.out) | exact HB.out)) hb); clear HO243; clear BK239; clear HB; have HO243 := n0_; have HO247 := n1_; have BK239 := n2_; have HB := n3_; clear n0_ n1_ n2_ n3_; clear hb ho17)))
     go_loopg [5, 6] k (fun kq v5 v6 w' => ∃ (x4_1 : List Bool) (x5_1 : List Int) (x6_1 : Int), v6 = .int .i64 x6_1 ∧ Aside0 (maze_Connected.l0 kq x4_1 x5_1 x6_1 l0_0 = some (r1, r2)) ∧ Aside0 (kq ≤ k) ∧ Aside0 (Kd.R Kd.bool 4 w' w.heap.size (fun _ => True) (.slice (some ⟨go7, 0, none⟩) y241.length co7) x4_1) ∧ Aside0 (Kd.R (Kd.int .i64) 3 w' w.heap.size (fun _ => True) v5 x5_1) ∧ Aside0 (w'.heap[gb239]? = some (.cells #[(.slice A0_0 l0_0.length c0_0)] 38 (0, 0))) ∧ Aside0 (Below w.heap.size w w'))
     case atStart => exact ⟨(y244), (y245), (0), (by first | rfl | (simp; done) | (simp [*]; done)), H', ⟨Nat.le_refl _⟩, ⟨by (with_reducible repeat (first | apply Kd.R_alloc | apply Kd.R_drewN | apply Kd.R_drew)); exact HO243.out⟩, ⟨by (with_reducible repeat (first | apply Kd.R_alloc | apply Kd.R_drewN | apply Kd.R_drew)); exact HO247.out⟩, ⟨by (with_reducible repeat (first | refine blk_drewN ?_ _ | refine blk_drew ?_ | refine blk_alloc ?_ _)); exact BK239.out⟩, ⟨by repeat (first | (with_reducible first | exact HB.out | apply below_alloc | apply pw_below_drewN | apply below_drew1 | refine below_set ?_ GE239.out) | exact HB.out)⟩⟩
     case round =>
      clear H'
      try clear c2
      try clear p2
      try clear c3
      try clear c4
      try clear c4b0
      try clear c4b1
      try clear c5
      try clear c5b0
      try clear c5b1
      try clear c6
      try clear c6b0
      try clear c6b1
      try clear p7
      try clear q7
      try clear hx7
      try clear qi7
      try clear hf7
      try clear hcz11_0
      try clear hcz9_0
      try clear hfz11_0
      try clear hfz9_0
      try clear hx7_0
      try clear p7
      try clear q7
      obtain ⟨x4_1, x5_1, x6_1, rfl, HA, HK1, HO_4, HO_5, BK239, HB⟩ := hrel
      have hl4_1 := (Kd.R_reads' HO_4.out).1
      rw [hl4_1] at HO_4
      (try simp only [hl4_1])
      (try simp only [hl4_1] at BK239)
      (try simp only [hl4_1] at HO_5)
      cases gk with
      | zero => exact absurd HA.out (by simp [maze_Connected.l0])
      | succ k1 =>
       have H := HA.out
       clear HA
       simp only [maze_Connected.l0] at H
       by_cases c18 : x6_1 < (x5_1.length : Int)
       ·rw [if_pos c18] at H
        have c18b0 : decide (x6_1 < (x5_1.length : Int)) = true := decide_eq_true c18
        clear c18
        by_cases c19 : 0 ≤ x6_1
        ·rw [if_pos c19] at H
         have c19b0 : decide (0 ≤ x6_1) = true := decide_eq_true c19
         clear c19
         by_cases c20 : 0 ≤ (rd x5_1 x6_1)
         ·rw [if_pos c20] at H
          have c20b0 : decide (0 ≤ (rd x5_1 x6_1)) = true := decide_eq_true c20
          clear c20
          by_cases c21 : (rd x5_1 x6_1) < (l0_0.length : Int)
          ·rw [if_pos c21] at H
           have c21b0 : decide ((rd x5_1 x6_1) < (l0_0.length : Int)) = true := decide_eq_true c21
           clear c21
           have H' := Aside0.mk H
           clear H
           obtain ⟨Ao22, co22, eo22⟩ := Kd.R_slice HO_5.out
           subst eo22
           have hcz23_0 : wr.cell? ⟨gb239, 0, none⟩ = some (.slice A0_0 l0_0.length c0_0) := (blk_cell BK239.out 0).trans rfl
           have hfz23_0 := blk_frozen BK239.out 0
           have p248 : 0 ≤ (x6_1 : Int) := of_decide_eq_true (by first | (with_reducible assumption) | assumption)
           have q248 : x6_1 < (x5_1.length : Int) := of_decide_eq_true (by first | (with_reducible assumption) | assumption)
           obtain ⟨ad248, e248, hx248_0⟩ := Kd.at_int (Kd.R_reads' HO_5.out).2.2 x6_1 p248 q248
           cases e248
           replace p248 := eq_true p248
           replace q248 := eq_true q248
           have p249 : 0 ≤ ((rd x5_1 x6_1) : Int) := of_decide_eq_true (by first | (with_reducible assumption) | assumption)
           have q249 : (rd x5_1 x6_1) < (l0_0.length : Int) := of_decide_eq_true (by first | (with_reducible assumption) | assumption)
           obtain ⟨ad249, A249_0, c249_0, e249, hx249_0, hl249_0, hi249_0⟩ := at_L4 HR0_0.out (rd x5_1 x6_1) p249 q249
           cases e249
           replace hx249_0 := (HB.out.cell (World.block_lt_of_cell? w _ hx249_0)).trans hx249_0
           have HR249_0 := Aside0.mk hi249_0
           have HC249_0 := Aside0.mk hl249_0
           clear hi249_0 hl249_0
           replace p249 := eq_true p249
           replace q249 := eq_true q249
           go_wp2
           repeat (go_quiet (fail); try go_wp2)
           go_loopg [5, 34] k1 (fun kq v5 v34 w' => ∃ (x4_2 : List Bool) (x5_2 : List Int) (x34_2 : Int), v34 = .int .i64 x34_2 ∧ Aside0 (maze_Connected.l1 kq x4_2 x5_2 x6_1 (rd_L4 l0_0 (rd x5_1 x6_1)) ((rd_L4 l0_0 (rd x5_1 x6_1)).length : Int) x34_2 l0_0 = some (r1, r2)) ∧ Aside0 (kq ≤ k1) ∧ Aside0 (Kd.R Kd.bool 4 w' w.heap.size (fun _ => True) (.slice (some ⟨go7, 0, none⟩) x4_1.length co7) x4_2) ∧ Aside0 (Kd.R (Kd.int .i64) 3 w' w.heap.size (fun _ => True) v5 x5_2) ∧ Aside0 (w'.heap[gb239]? = some (.cells #[(.slice (some ad249) l0_0.length c0_0)] 38 (0, 0))) ∧ Aside0 (Below w.heap.size w w'))
           case atStart => exact ⟨(x4_1), (x5_1), (0), (by first | rfl | (simp; done) | (simp [*]; done)), H', ⟨Nat.le_refl _⟩, ⟨by (try simp only [hl4_1]); (with_reducible repeat (first | apply Kd.R_alloc | apply Kd.R_drewN | apply Kd.R_drew)); exact HO_4.out⟩, ⟨by (try simp only [hl4_1]); (with_reducible repeat (first | apply Kd.R_alloc | apply Kd.R_drewN | apply Kd.R_drew)); exact HO_5.out⟩, ⟨by (try simp only [hl4_1]); (with_reducible repeat (first | refine blk_drewN ?_ _ | refine blk_drew ?_ | refine blk_alloc ?_ _)); exact BK239.out⟩, ⟨by repeat (first | (with_reducible first | exact HB.out | apply below_alloc | apply pw_below_drewN | apply below_drew1 | refine below_set ?_ GE239.out) | exact HB.out)⟩⟩
           case round =>
            clear H'
            try clear c1
            try clear c2
            try clear p2
            try clear q2
            try clear hx2
            try clear c3
            try clear c4
            try clear c4b0
            try clear c4b1
            try clear c5
            try clear c5b0
            try clear c5b1
            try clear c6
            try clear c6b0
            try clear c6b1
            try clear p7
            try clear q7
            try clear hx7
            try clear qi7
            try clear hf7
            try clear c18
            try clear c18b0
            try clear c19
            try clear c19b0
            try clear c20
            try clear c20b0
            try clear c21
            try clear c21b0
            try clear c23
            try clear hcz11_0
            try clear hcz23_0
            try clear hcz9_0
            try clear hfz11_0
            try clear hfz23_0
            try clear hfz9_0
            try clear hx248_0
            try clear hx249_0
            try clear hx7_0
            try clear p2
            try clear p248
            try clear p249
            try clear p7
            try clear q248
            try clear q249
            try clear q7
            obtain ⟨x4_2, x5_2, x34_2, rfl, HA, HK2, HO_4, HO_5, BK239, HB⟩ := hrel
            have hl4_2 := (Kd.R_reads' HO_4.out).1
            rw [hl4_2] at HO_4
            (try simp only [hl4_2])
            (try simp only [hl4_2] at BK239)
            (try simp only [hl4_2] at HO_5)
            cases gk with
            | zero => exact absurd HA.out (by simp [maze_Connected.l1])
            | succ k2 =>
             have H := HA.out
             clear HA
             simp only [maze_Connected.l1] at H
             by_cases c24 : x34_2 < ((rd_L4 l0_0 (rd x5_1 x6_1)).length : Int)
             ·rw [if_pos c24] at H
              have c24b0 : decide (x34_2 < ((rd_L4 l0_0 (rd x5_1 x6_1)).length : Int)) = true := decide_eq_true c24
              clear c24
              by_cases c25 : 0 ≤ x34_2
              ·rw [if_pos c25] at H
               have c25b0 : decide (0 ≤ x34_2) = true := decide_eq_true c25
               clear c25
               by_cases c26 : x34_2 < ((rd_L4 l0_0 (rd x5_1 x6_1)).length : Int)
               ·rw [if_pos c26] at H
                have c26b0 : decide (x34_2 < ((rd_L4 l0_0 (rd x5_1 x6_1)).length : Int)) = true := decide_eq_true c26
                clear c26
                by_cases c27 : 0 ≤ ((rd_T44 (rd_L4 l0_0 (rd x5_1 x6_1)) x34_2).f0)
                ·rw [if_pos c27] at H
                 have c27b0 : decide (0 ≤ ((rd_T44 (rd_L4 l0_0 (rd x5_1 x6_1)) x34_2).f0)) = true := decide_eq_true c27
                 clear c27
                 by_cases c28 : ((rd_T44 (rd_L4 l0_0 (rd x5_1 x6_1)) x34_2).f0) < (x4_2.length : Int)
                 ·rw [if_pos c28] at H
                  have c28b0 : decide (((rd_T44 (rd_L4 l0_0 (rd x5_1 x6_1)) x34_2).f0) < (x4_2.length : Int)) = true := decide_eq_true c28
                  clear c28
                  obtain ⟨bq29, hbq29⟩ : ∃ b_ : Bool, b_ = (rdOf false x4_2 ((rd_T44 (rd_L4 l0_0 (rd x5_1 x6_1)) x34_2).f0)) := ⟨_, rfl⟩
                  replace H : (if (bq29 = true) then (maze_Connected.l1 k2 x4_2 x5_2 x6_1 (rd_L4 l0_0 (rd x5_1 x6_1)) ((rd_L4 l0_0 (rd x5_1 x6_1)).length : Int) (wrap64 (x34_2 + 1)) l0_0) else (if x5_2.length < 17592186044416 then (maze_Connected.l1 k2 (x4_2.set (((rd_T44 (rd_L4 l0_0 (rd x5_1 x6_1)) x34_2).f0) : Int).toNat true) (x5_2 ++ [(rd_T44 (rd_L4 l0_0 (rd x5_1 x6_1)) x34_2).f0]) x6_1 (rd_L4 l0_0 (rd x5_1 x6_1)) ((rd_L4 l0_0 (rd x5_1 x6_1)).length : Int) (wrap64 (x34_2 + 1)) l0_0) else (none))) = some (r1, r2) := by rw [← hbq29] at H; exact H
                  have Nbq29 := Aside0.mk hbq29
                  clear hbq29
                  by_cases c30 : (bq29 = true)
                  ·subst c30
                   have H1 : (maze_Connected.l1 k2 x4_2 x5_2 x6_1 (rd_L4 l0_0 (rd x5_1 x6_1)) ((rd_L4 l0_0 (rd x5_1 x6_1)).length : Int) (wrap64 (x34_2 + 1)) l0_0) = some (r1, r2) := by rw [if_pos rfl] at H; exact H
                   clear H
                   have H := H1
                   clear H1
                   have H' := Aside0.mk H
                   clear H
                   have p250 : 0 ≤ (x34_2 : Int) := of_decide_eq_true (by first | (with_reducible assumption) | assumption)
                   have q250 : x34_2 < ((rd_L4 l0_0 (rd x5_1 x6_1)).length : Int) := of_decide_eq_true (by first | (with_reducible assumption) | assumption)
                   obtain ⟨ad250, e250, hx250_0, hx250_1⟩ := at_T44 HR249_0.out x34_2 p250 q250
                   cases e250
                   replace hx250_0 := (HB.out.cell (World.block_lt_of_cell? w _ hx250_0)).trans hx250_0
                   replace hx250_1 := (HB.out.cell (World.block_lt_of_cell? w _ hx250_1)).trans hx250_1
                   replace p250 := eq_true p250
                   replace q250 := eq_true q250
                   go_wp2_with (first | ((with_reducible refine gate_dst (N := 8) rfl ?_); refine box_event ?hg (N := 8) ?hd (cs := #[.int .i64 0, .int .i64 0]) (t := 44) ?hr ?_; (case hd => rfl); (case hg => rfl); (case hr => first | (go_simp; done) | (go_simp; rfl)); intro gb251 hg w31 hbox hb; have n0_ := Aside0.mk (Kd.R_below (by (with_reducible repeat (first | apply Kd.R_alloc | apply Kd.R_drewN | apply Kd.R_drew)); exact HO_4.out) hb); have n1_ := Aside0.mk (Kd.R_below (by (with_reducible repeat (first | apply Kd.R_alloc | apply Kd.R_drewN | apply Kd.R_drew)); exact HO_5.out) hb); have n2_ := Aside0.mk (blk_below (g := gb239) (o := .cells #[.slice (some ad249) l0_0.length c0_0] 38 (0, 0)) (by (with_reducible repeat (first | refine blk_drewN ?_ _ | refine blk_drew ?_ | refine blk_alloc ?_ _)); exact BK239.out) hb); have n3_ := Aside0.mk (below_step (by repeat (first | (with_reducible first | exact HB.out | apply below_alloc | apply pw_below_drewN | apply below_drew1 | refine below_set ?_ GE239.out) | exact HB.out)) hb); have n4_ := Aside0.mk (hbox); have n5_ := Aside0.mk ((by rw [hg]; exact (below_size (by repeat (first | (with_reducible first | exact HB.out | apply below_alloc | apply pw_below_drewN | apply below_drew1 | refine below_set ?_ GE239.out) | exact HB.out))) : w.heap.size ≤ gb251)); have n6_ := Aside0.mk ((by rw [hg]; exact (below_size (by repeat (first | (with_reducible first | exact HB.out | apply below_alloc | apply pw_below_drewN | apply below_drew1 | refine below_set ?_ GE239.out) | exact HB.out))) : w.heap.size ≤ gb251)); have n7_ := Aside0.mk ((by rw [hg]; exact Nat.ne_of_lt (blk_lt (g := gb239) (o := .cells #[.slice (some ad249) l0_0.length c0_0] 38 (0, 0)) (by (with_reducible repeat (first | refine blk_drewN ?_ _ | refine blk_drew ?_ | refine blk_alloc ?_ _)); exact BK239.out)) : gb239 ≠ gb251)); have n8_ := Aside0.mk ((by rw [hg]; exact Nat.ne_of_gt (blk_lt (g := gb239) (o := .cells #[.slice (some ad249) l0_0.length c0_0] 38 (0, 0)) (by (with_reducible repeat (first | refine blk_drewN ?_ _ | refine blk_drew ?_ | refine blk_alloc ?_ _)); exact BK239.out)) : gb251 ≠ gb239)); clear HO_4; clear HO_5; clear BK239; clear HB; have HO_4 := n0_; have HO_5 := n1_; have BK239 := n2_; have HB := n3_; have BK251 := n4_; have GW251 := n5_; have GE251 := n6_; have NB239_251 := n7_; have NB251_239 := n8_; clear n0_ n1_ n2_ n3_ n4_ n5_ n6_ n7_ n8_; clear hb hbox hg; have hnb32 := NB251_239.out; have hnc32 := NB239_251.out; have hcz33_0 : w31.cell? ⟨gb251, 0, none⟩ = some (.int .i64 0) := (blk_cell BK251.out 0).trans rfl; have hcz33_1 : w31.cell? ⟨gb251, 1, none⟩ = some (.int .i64 0) := (blk_cell BK251.out 1).trans rfl; have hfz33_0 := blk_frozen BK251.out 0; have hfz33_1 := blk_frozen BK251.out 1; have p252 : 0 ≤ (((rd_T44 (rd_L4 l0_0 (rd x5_1 x6_1)) x34_2).f0) : Int) := of_decide_eq_true (by first | (with_reducible assumption) | assumption); have q252 : ((rd_T44 (rd_L4 l0_0 (rd x5_1 x6_1)) x34_2).f0) < (x4_2.length : Int) := of_decide_eq_true (by first | (with_reducible assumption) | assumption); obtain ⟨ad252, e252, hx252_0⟩ := Kd.at_bool (Kd.R_reads' HO_4.out).2.2 ((rd_T44 (rd_L4 l0_0 (rd x5_1 x6_1)) x34_2).f0) p252 q252; (try rw [← Nbq29.out] at hx252_0); obtain rfl : (⟨go7, 0, none⟩ : Addr) = ad252 := (by injection e252); (first | simp only [add_plain] at hx252_0 | simp only [add_at] at hx252_0 | simp only [Addr.add, Nat.zero_add] at hx252_0 | skip); have hn252_0 : (⟨go7, 0, none⟩ : Addr).block ≠ gb251 := Kd.own_blk (Kd.R_ne HO_4.out BK251.out (by decide)); have hn252_1 : (⟨go7, 0, none⟩ : Addr).block ≠ gb251 := Kd.own_blk (Kd.R_ne HO_4.out BK251.out (by decide)); replace hx252_0 := (cell_far (p := ⟨gb251, 0, none⟩) (by first | (rw [add_block]; exact hn252_0) | (show (Addr.add _ _).block ≠ _; rw [add_block]; exact hn252_0) | exact hn252_0) (.int .i64 ((rd_T44 (rd_L4 l0_0 (rd x5_1 x6_1)) x34_2).f0))).trans hx252_0; replace hx252_0 := (cell_far (p := ⟨gb251, 1, none⟩) (by first | (rw [add_block]; exact hn252_1) | (show (Addr.add _ _).block ≠ _; rw [add_block]; exact hn252_1) | exact hn252_1) (.int .i64 ((rd_T44 (rd_L4 l0_0 (rd x5_1 x6_1)) x34_2).f1))).trans hx252_0; (try have hy252_0 := fun (n_ : Nat) => (show ((((w31.drewN n_).setCell ⟨gb251, 0, none⟩ (.int .i64 ((rd_T44 (rd_L4 l0_0 (rd x5_1 x6_1)) x34_2).f0))).setCell ⟨gb251, 1, none⟩ (.int .i64 ((rd_T44 (rd_L4 l0_0 (rd x5_1 x6_1)) x34_2).f1)))).cell? _ = some _ from hx252_0)); clear hn252_0; clear hn252_1; replace p252 := eq_true p252; replace q252 := eq_true q252))
                   repeat (go_quiet (first | ((with_reducible refine gate_dst (N := 8) rfl ?_); refine box_event ?hg (N := 8) ?hd (cs := #[.int .i64 0, .int .i64 0]) (t := 44) ?hr ?_; (case hd => rfl); (case hg => rfl); (case hr => first | (go_simp; done) | (go_simp; rfl)); intro gb251 hg w31 hbox hb; have n0_ := Aside0.mk (Kd.R_below (by (with_reducible repeat (first | apply Kd.R_alloc | apply Kd.R_drewN | apply Kd.R_drew)); exact HO_4.out) hb); have n1_ := Aside0.mk (Kd.R_below (by (with_reducible repeat (first | apply Kd.R_alloc | apply Kd.R_drewN | apply Kd.R_drew)); exact HO_5.out) hb); have n2_ := Aside0.mk (blk_below (g := gb239) (o := .cells #[.slice (some ad249) l0_0.length c0_0] 38 (0, 0)) (by (with_reducible repeat (first | refine blk_drewN ?_ _ | refine blk_drew ?_ | refine blk_alloc ?_ _)); exact BK239.out) hb); have n3_ := Aside0.mk (below_step (by repeat (first | (with_reducible first | exact HB.out | apply below_alloc | apply pw_below_drewN | apply below_drew1 | refine below_set ?_ GE239.out) | exact HB.out)) hb); have n4_ := Aside0.mk (hbox); have n5_ := Aside0.mk ((by rw [hg]; exact (below_size (by repeat (first | (with_reducible first | exact HB.out | apply below_alloc | apply pw_below_drewN | apply below_drew1 | refine below_set ?_ GE239.out) | exact HB.out))) : w.heap.size ≤ gb251)); have n6_ := Aside0.mk ((by rw [hg]; exact (below_size (by repeat (first | (with_reducible first | exact HB.out | apply below_alloc | apply pw_below_drewN | apply below_drew1 | refine below_set ?_ GE239.out) | exact HB.out))) : w.heap.size ≤ gb251)); have n7_ := Aside0.mk ((by rw [hg]; exact Nat.ne_of_lt (blk_lt (g := gb239) (o := .cells #[.slice (some ad249) l0_0.length c0_0] 38 (0, 0)) (by (with_reducible repeat (first | refine blk_drewN ?_ _ | refine blk_drew ?_ | refine blk_alloc ?_ _)); exact BK239.out)) : gb239 ≠ gb251)); have n8_ := Aside0.mk ((by rw [hg]; exact Nat.ne_of_gt (blk_lt (g := gb239) (o := .cells #[.slice (some ad249) l0_0.length c0_0] 38 (0, 0)) (by (with_reducible repeat (first | refine blk_drewN ?_ _ | refine blk_drew ?_ | refine blk_alloc ?_ _)); exact BK239.out)) : gb251 ≠ gb239)); clear HO_4; clear HO_5; clear BK239; clear HB; have HO_4 := n0_; have HO_5 := n1_; have BK239 := n2_; have HB := n3_; have BK251 := n4_; have GW251 := n5_; have GE251 := n6_; have NB239_251 := n7_; have NB251_239 := n8_; clear n0_ n1_ n2_ n3_ n4_ n5_ n6_ n7_ n8_; clear hb hbox hg; have hnb32 := NB251_239.out; have hnc32 := NB239_251.out; have hcz33_0 : w31.cell? ⟨gb251, 0, none⟩ = some (.int .i64 0) := (blk_cell BK251.out 0).trans rfl; have hcz33_1 : w31.cell? ⟨gb251, 1, none⟩ = some (.int .i64 0) := (blk_cell BK251.out 1).trans rfl; have hfz33_0 := blk_frozen BK251.out 0; have hfz33_1 := blk_frozen BK251.out 1; have p252 : 0 ≤ (((rd_T44 (rd_L4 l0_0 (rd x5_1 x6_1)) x34_2).f0) : Int) := of_decide_eq_true (by first | (with_reducible assumption) | assumption); have q252 : ((rd_T44 (rd_L4 l0_0 (rd x5_1 x6_1)) x34_2).f0) < (x4_2.length : Int) := of_decide_eq_true (by first | (with_reducible assumption) | assumption); obtain ⟨ad252, e252, hx252_0⟩ := Kd.at_bool (Kd.R_reads' HO_4.out).2.2 ((rd_T44 (rd_L4 l0_0 (rd x5_1 x6_1)) x34_2).f0) p252 q252; (try rw [← Nbq29.out] at hx252_0); obtain rfl : (⟨go7, 0, none⟩ : Addr) = ad252 := (by injection e252); (first | simp only [add_plain] at hx252_0 | simp only [add_at] at hx252_0 | simp only [Addr.add, Nat.zero_add] at hx252_0 | skip); have hn252_0 : (⟨go7, 0, none⟩ : Addr).block ≠ gb251 := Kd.own_blk (Kd.R_ne HO_4.out BK251.out (by decide)); have hn252_1 : (⟨go7, 0, none⟩ : Addr).block ≠ gb251 := Kd.own_blk (Kd.R_ne HO_4.out BK251.out (by decide)); replace hx252_0 := (cell_far (p := ⟨gb251, 0, none⟩) (by first | (rw [add_block]; exact hn252_0) | (show (Addr.add _ _).block ≠ _; rw [add_block]; exact hn252_0) | exact hn252_0) (.int .i64 ((rd_T44 (rd_L4 l0_0 (rd x5_1 x6_1)) x34_2).f0))).trans hx252_0; replace hx252_0 := (cell_far (p := ⟨gb251, 1, none⟩) (by first | (rw [add_block]; exact hn252_1) | (show (Addr.add _ _).block ≠ _; rw [add_block]; exact hn252_1) | exact hn252_1) (.int .i64 ((rd_T44 (rd_L4 l0_0 (rd x5_1 x6_1)) x34_2).f1))).trans hx252_0; (try have hy252_0 := fun (n_ : Nat) => (show ((((w31.drewN n_).setCell ⟨gb251, 0, none⟩ (.int .i64 ((rd_T44 (rd_L4 l0_0 (rd x5_1 x6_1)) x34_2).f0))).setCell ⟨gb251, 1, none⟩ (.int .i64 ((rd_T44 (rd_L4 l0_0 (rd x5_1 x6_1)) x34_2).f1)))).cell? _ = some _ from hx252_0)); clear hn252_0; clear hn252_1; replace p252 := eq_true p252; replace q252 := eq_true q252)); try go_wp2_with (first | ((with_reducible refine gate_dst (N := 8) rfl ?_); refine box_event ?hg (N := 8) ?hd (cs := #[.int .i64 0, .int .i64 0]) (t := 44) ?hr ?_; (case hd => rfl); (case hg => rfl); (case hr => first | (go_simp; done) | (go_simp; rfl)); intro gb251 hg w31 hbox hb; have n0_ := Aside0.mk (Kd.R_below (by (with_reducible repeat (first | apply Kd.R_alloc | apply Kd.R_drewN | apply Kd.R_drew)); exact HO_4.out) hb); have n1_ := Aside0.mk (Kd.R_below (by (with_reducible repeat (first | apply Kd.R_alloc | apply Kd.R_drewN | apply Kd.R_drew)); exact HO_5.out) hb); have n2_ := Aside0.mk (blk_below (g := gb239) (o := .cells #[.slice (some ad249) l0_0.length c0_0] 38 (0, 0)) (by (with_reducible repeat (first | refine blk_drewN ?_ _ | refine blk_drew ?_ | refine blk_alloc ?_ _)); exact BK239.out) hb); have n3_ := Aside0.mk (below_step (by repeat (first | (with_reducible first | exact HB.out | apply below_alloc | apply pw_below_drewN | apply below_drew1 | refine below_set ?_ GE239.out) | exact HB.out)) hb); have n4_ := Aside0.mk (hbox); have n5_ := Aside0.mk ((by rw [hg]; exact (below_size (by repeat (first | (with_reducible first | exact HB.out | apply below_alloc | apply pw_below_drewN | apply below_drew1 | refine below_set ?_ GE239.out) | exact HB.out))) : w.heap.size ≤ gb251)); have n6_ := Aside0.mk ((by rw [hg]; exact (below_size (by repeat (first | (with_reducible first | exact HB.out | apply below_alloc | apply pw_below_drewN | apply below_drew1 | refine below_set ?_ GE239.out) | exact HB.out))) : w.heap.size ≤ gb251)); have n7_ := Aside0.mk ((by rw [hg]; exact Nat.ne_of_lt (blk_lt (g := gb239) (o := .cells #[.slice (some ad249) l0_0.length c0_0] 38 (0, 0)) (by (with_reducible repeat (first | refine blk_drewN ?_ _ | refine blk_drew ?_ | refine blk_alloc ?_ _)); exact BK239.out)) : gb239 ≠ gb251)); have n8_ := Aside0.mk ((by rw [hg]; exact Nat.ne_of_gt (blk_lt (g := gb239) (o := .cells #[.slice (some ad249) l0_0.length c0_0] 38 (0, 0)) (by (with_reducible repeat (first | refine blk_drewN ?_ _ | refine blk_drew ?_ | refine blk_alloc ?_ _)); exact BK239.out)) : gb251 ≠ gb239)); clear HO_4; clear HO_5; clear BK239; clear HB; have HO_4 := n0_; have HO_5 := n1_; have BK239 := n2_; have HB := n3_; have BK251 := n4_; have GW251 := n5_; have GE251 := n6_; have NB239_251 := n7_; have NB251_239 := n8_; clear n0_ n1_ n2_ n3_ n4_ n5_ n6_ n7_ n8_; clear hb hbox hg; have hnb32 := NB251_239.out; have hnc32 := NB239_251.out; have hcz33_0 : w31.cell? ⟨gb251, 0, none⟩ = some (.int .i64 0) := (blk_cell BK251.out 0).trans rfl; have hcz33_1 : w31.cell? ⟨gb251, 1, none⟩ = some (.int .i64 0) := (blk_cell BK251.out 1).trans rfl; have hfz33_0 := blk_frozen BK251.out 0; have hfz33_1 := blk_frozen BK251.out 1; have p252 : 0 ≤ (((rd_T44 (rd_L4 l0_0 (rd x5_1 x6_1)) x34_2).f0) : Int) := of_decide_eq_true (by first | (with_reducible assumption) | assumption); have q252 : ((rd_T44 (rd_L4 l0_0 (rd x5_1 x6_1)) x34_2).f0) < (x4_2.length : Int) := of_decide_eq_true (by first | (with_reducible assumption) | assumption); obtain ⟨ad252, e252, hx252_0⟩ := Kd.at_bool (Kd.R_reads' HO_4.out).2.2 ((rd_T44 (rd_L4 l0_0 (rd x5_1 x6_1)) x34_2).f0) p252 q252; (try rw [← Nbq29.out] at hx252_0); obtain rfl : (⟨go7, 0, none⟩ : Addr) = ad252 := (by injection e252); (first | simp only [add_plain] at hx252_0 | simp only [add_at] at hx252_0 | simp only [Addr.add, Nat.zero_add] at hx252_0 | skip); have hn252_0 : (⟨go7, 0, none⟩ : Addr).block ≠ gb251 := Kd.own_blk (Kd.R_ne HO_4.out BK251.out (by decide)); have hn252_1 : (⟨go7, 0, none⟩ : Addr).block ≠ gb251 := Kd.own_blk (Kd.R_ne HO_4.out BK251.out (by decide)); replace hx252_0 := (cell_far (p := ⟨gb251, 0, none⟩) (by first | (rw [add_block]; exact hn252_0) | (show (Addr.add _ _).block ≠ _; rw [add_block]; exact hn252_0) | exact hn252_0) (.int .i64 ((rd_T44 (rd_L4 l0_0 (rd x5_1 x6_1)) x34_2).f0))).trans hx252_0; replace hx252_0 := (cell_far (p := ⟨gb251, 1, none⟩) (by first | (rw [add_block]; exact hn252_1) | (show (Addr.add _ _).block ≠ _; rw [add_block]; exact hn252_1) | exact hn252_1) (.int .i64 ((rd_T44 (rd_L4 l0_0 (rd x5_1 x6_1)) x34_2).f1))).trans hx252_0; (try have hy252_0 := fun (n_ : Nat) => (show ((((w31.drewN n_).setCell ⟨gb251, 0, none⟩ (.int .i64 ((rd_T44 (rd_L4 l0_0 (rd x5_1 x6_1)) x34_2).f0))).setCell ⟨gb251, 1, none⟩ (.int .i64 ((rd_T44 (rd_L4 l0_0 (rd x5_1 x6_1)) x34_2).f1)))).cell? _ = some _ from hx252_0)); clear hn252_0; clear hn252_1; replace p252 := eq_true p252; replace q252 := eq_true q252)))
                   (try simp only [← hl4_2])
                   go_roundg k2
                   case measure => have := HK1.out; have := HK2.out; omega
                   case rel => exact ⟨(x4_2), (x5_2), (wrap64 (x34_2 + 1)), (by first | rfl | (simp; done) | (simp [*]; done)), H', ⟨by have := HK1.out; have := HK2.out; omega⟩, ⟨by (try simp only [hl4_1]); (try simp only [hl4_2]); (with_reducible repeat (first | apply Kd.R_alloc | apply Kd.R_drewN | apply Kd.R_drew)); exact Kd.R_mono (Kd.R_far (p := ⟨gb251, 1, none⟩) (Kd.R_far (p := ⟨gb251, 0, none⟩) (Kd.R_types HO_4.out BK251.out (by decide)) (fun _ hk => hk.2) (.int .i64 ((rd_T44 (rd_L4 l0_0 (rd x5_1 x6_1)) x34_2).f0))) (fun _ hk => hk.2) (.int .i64 ((rd_T44 (rd_L4 l0_0 (rd x5_1 x6_1)) x34_2).f1))) (fun _ hk => trivial)⟩, ⟨by (try simp only [hl4_1]); (try simp only [hl4_2]); (with_reducible repeat (first | apply Kd.R_alloc | apply Kd.R_drewN | apply Kd.R_drew)); exact Kd.R_mono (Kd.R_far (p := ⟨gb251, 1, none⟩) (Kd.R_far (p := ⟨gb251, 0, none⟩) (Kd.R_types HO_5.out BK251.out (by decide)) (fun _ hk => hk.2) (.int .i64 ((rd_T44 (rd_L4 l0_0 (rd x5_1 x6_1)) x34_2).f0))) (fun _ hk => hk.2) (.int .i64 ((rd_T44 (rd_L4 l0_0 (rd x5_1 x6_1)) x34_2).f1))) (fun _ hk => trivial)⟩, ⟨by (try simp only [hl4_1]); (try simp only [hl4_2]); (with_reducible repeat (first | refine blk_drewN ?_ _ | refine blk_drew ?_ | refine blk_alloc ?_ _)); refine blk_far ?_ NB239_251.out _; (with_reducible repeat (first | refine blk_drewN ?_ _ | refine blk_drew ?_ | refine blk_alloc ?_ _)); refine blk_far ?_ NB239_251.out _; (with_reducible repeat (first | refine blk_drewN ?_ _ | refine blk_drew ?_ | refine blk_alloc ?_ _)); exact BK239.out⟩, ⟨by repeat (first | (with_reducible first | exact HB.out | apply below_alloc | apply pw_below_drewN | apply below_drew1 | refine below_set ?_ GE239.out | refine below_set ?_ GE251.out) | exact HB.out)⟩⟩
                  ·replace c30 := Bool.eq_false_iff.mpr c30
                   subst c30
                   have H1 : (if x5_2.length < 17592186044416 then (maze_Connected.l1 k2 (x4_2.set (((rd_T44 (rd_L4 l0_0 (rd x5_1 x6_1)) x34_2).f0) : Int).toNat true) (x5_2 ++ [(rd_T44 (rd_L4 l0_0 (rd x5_1 x6_1)) x34_2).f0]) x6_1 (rd_L4 l0_0 (rd x5_1 x6_1)) ((rd_L4 l0_0 (rd x5_1 x6_1)).length : Int) (wrap64 (x34_2 + 1)) l0_0) else (none)) = some (r1, r2) := by rw [if_neg (show ¬ (false = true) by decide)] at H; exact H
                   clear H
                   have H := H1
                   clear H1
                   obtain ⟨y253, hy253⟩ : ∃ y_ : List Bool, y_ = (x4_2.set (((rd_T44 (rd_L4 l0_0 (rd x5_1 x6_1)) x34_2).f0) : Int).toNat true) := ⟨_, rfl⟩
                   replace H : (if x5_2.length < 17592186044416 then (maze_Connected.l1 k2 y253 (x5_2 ++ [(rd_T44 (rd_L4 l0_0 (rd x5_1 x6_1)) x34_2).f0]) x6_1 (rd_L4 l0_0 (rd x5_1 x6_1)) ((rd_L4 l0_0 (rd x5_1 x6_1)).length : Int) (wrap64 (x34_2 + 1)) l0_0) else (none)) = some (r1, r2) := by first | (rw [hy253]; with_reducible exact H) | (have H2_ := (Option.bind_some _ _).symm.trans H; rw [hy253]; with_reducible exact H2_) | (have H2_ := (Option.bind_some _ _).symm.trans H; with_reducible exact H2_) | with_reducible exact H | (rw [hy253]; exact H) | exact H
                   have Ny253 := Aside0.mk hy253
                   clear hy253
                   by_cases c35 : x5_2.length < 17592186044416
                   ·rw [if_pos c35] at H
                    have LMc35 := Aside0.mk c35
                    clear c35
                    obtain ⟨y254, hy254⟩ : ∃ y_ : List Int, y_ = (x5_2 ++ [(rd_T44 (rd_L4 l0_0 (rd x5_1 x6_1)) x34_2).f0]) := ⟨_, rfl⟩
                    replace H : (maze_Connected.l1 k2 y253 y254 x6_1 (rd_L4 l0_0 (rd x5_1 x6_1)) ((rd_L4 l0_0 (rd x5_1 x6_1)).length : Int) (wrap64 (x34_2 + 1)) l0_0) = some (r1, r2) := by first | (rw [hy254]; with_reducible exact H) | (have H2_ := (Option.bind_some _ _).symm.trans H; rw [hy254]; with_reducible exact H2_) | (have H2_ := (Option.bind_some _ _).symm.trans H; with_reducible exact H2_) | with_reducible exact H | (rw [hy254]; exact H) | exact H
                    have Ny254 := Aside0.mk hy254
                    clear hy254
                    have H' := Aside0.mk H
                    clear H
                    have p250 : 0 ≤ (x34_2 : Int) := of_decide_eq_true (by first | (with_reducible assumption) | assumption)
                    have q250 : x34_2 < ((rd_L4 l0_0 (rd x5_1 x6_1)).length : Int) := of_decide_eq_true (by first | (with_reducible assumption) | assumption)
                    obtain ⟨ad250, e250, hx250_0, hx250_1⟩ := at_T44 HR249_0.out x34_2 p250 q250
                    cases e250
                    replace hx250_0 := (HB.out.cell (World.block_lt_of_cell? w _ hx250_0)).trans hx250_0
                    replace hx250_1 := (HB.out.cell (World.block_lt_of_cell? w _ hx250_1)).trans hx250_1
                    replace p250 := eq_true p250
                    replace q250 := eq_true q250
                    go_wp2_with (first | ((with_reducible refine gate_dst (N := 8) rfl ?_); refine box_event ?hg (N := 8) ?hd (cs := #[.int .i64 0, .int .i64 0]) (t := 44) ?hr ?_; (case hd => rfl); (case hg => rfl); (case hr => first | (go_simp; done) | (go_simp; rfl)); intro gb251 hg w36 hbox hb; have n0_ := Aside0.mk (Kd.R_below (by (with_reducible repeat (first | apply Kd.R_alloc | apply Kd.R_drewN | apply Kd.R_drew)); exact HO_4.out) hb); have n1_ := Aside0.mk (Kd.R_below (by (with_reducible repeat (first | apply Kd.R_alloc | apply Kd.R_drewN | apply Kd.R_drew)); exact HO_5.out) hb); have n2_ := Aside0.mk (blk_below (g := gb239) (o := .cells #[.slice (some ad249) l0_0.length c0_0] 38 (0, 0)) (by (with_reducible repeat (first | refine blk_drewN ?_ _ | refine blk_drew ?_ | refine blk_alloc ?_ _)); exact BK239.out) hb); have n3_ := Aside0.mk (below_step (by repeat (first | (with_reducible first | exact HB.out | apply below_alloc | apply pw_below_drewN | apply below_drew1 | refine below_set ?_ GE239.out) | exact HB.out)) hb); have n4_ := Aside0.mk (hbox); have n5_ := Aside0.mk ((by rw [hg]; exact (below_size (by repeat (first | (with_reducible first | exact HB.out | apply below_alloc | apply pw_below_drewN | apply below_drew1 | refine below_set ?_ GE239.out) | exact HB.out))) : w.heap.size ≤ gb251)); have n6_ := Aside0.mk ((by rw [hg]; exact (below_size (by repeat (first | (with_reducible first | exact HB.out | apply below_alloc | apply pw_below_drewN | apply below_drew1 | refine below_set ?_ GE239.out) | exact HB.out))) : w.heap.size ≤ gb251)); have n7_ := Aside0.mk ((by rw [hg]; exact Nat.ne_of_lt (blk_lt (g := gb239) (o := .cells #[.slice (some ad249) l0_0.length c0_0] 38 (0, 0)) (by (with_reducible repeat (first | refine blk_drewN ?_ _ | refine blk_drew ?_ | refine blk_alloc ?_ _)); exact BK239.out)) : gb239 ≠ gb251)); have n8_ := Aside0.mk ((by rw [hg]; exact Nat.ne_of_gt (blk_lt (g := gb239) (o := .cells #[.slice (some ad249) l0_0.length c0_0] 38 (0, 0)) (by (with_reducible repeat (first | refine blk_drewN ?_ _ | refine blk_drew ?_ | refine blk_alloc ?_ _)); exact BK239.out)) : gb251 ≠ gb239)); clear HO_4; clear HO_5; clear BK239; clear HB; have HO_4 := n0_; have HO_5 := n1_; have BK239 := n2_; have HB := n3_; have BK251 := n4_; have GW251 := n5_; have GE251 := n6_; have NB239_251 := n7_; have NB251_239 := n8_; clear n0_ n1_ n2_ n3_ n4_ n5_ n6_ n7_ n8_; clear hb hbox hg; have hnb37 := NB251_239.out; have hnc37 := NB239_251.out; have hcz38_0 : w36.cell? ⟨gb251, 0, none⟩ = some (.int .i64 0) := (blk_cell BK251.out 0).trans rfl; have hcz38_1 : w36.cell? ⟨gb251, 1, none⟩ = some (.int .i64 0) := (blk_cell BK251.out 1).trans rfl; have hfz38_0 := blk_frozen BK251.out 0; have hfz38_1 := blk_frozen BK251.out 1) | ((with_reducible refine gate_store (t := 44) (p := 8) rfl ?_); (try (rw [drewN_self w36]; generalize hq_ : World.drewN w36 _ = w36; have n0_ := Aside0.mk (Kd.R_at hq_ HO_4.out); have n1_ := Aside0.mk (Kd.R_at hq_ HO_5.out); have n2_ := Aside0.mk (blk_at hq_ BK239.out); have n3_ := Aside0.mk (blk_at hq_ BK251.out); have n4_ := Aside0.mk (below_at hq_ HB.out); clear hq_ HO_4 HO_5 BK239 BK251 HB; have HO_4 := n0_; have HO_5 := n1_; have BK239 := n2_; have BK251 := n3_; have HB := n4_; clear n0_ n1_ n2_ n3_ n4_)); refine store_event (t := 44) (p := 8) (v := ?vo_w39) (w1 := ((w36.setCell ⟨gb251, 0, none⟩ (.int .i64 ((rd_T44 (rd_L4 l0_0 (rd x5_1 x6_1)) x34_2).f0))).setCell ⟨gb251, 1, none⟩ (.int .i64 ((rd_T44 (rd_L4 l0_0 (rd x5_1 x6_1)) x34_2).f1)))) ?hg ?ho ?hn ?hr ?_; (case ho => rfl); (case hg => rfl); (case hn => rfl); (case hr => first | (go_simp; done) | (go_simp; rfl)); intro w39 hw; have n0_ : Aside0 (Kd.R Kd.bool 4 w39 w.heap.size (fun _ => True) (.slice (some ⟨go7, 0, none⟩) x4_2.length co7) x4_2) := ⟨(by rw [hw]; exact (by (with_reducible repeat (first | apply Kd.R_alloc | apply Kd.R_drewN | apply Kd.R_drew)); exact Kd.R_mono (Kd.R_far (p := ⟨gb251, 1, none⟩) (Kd.R_far (p := ⟨gb251, 0, none⟩) (Kd.R_types HO_4.out BK251.out (by decide)) (fun _ hk => hk.2) (.int .i64 ((rd_T44 (rd_L4 l0_0 (rd x5_1 x6_1)) x34_2).f0))) (fun _ hk => hk.2) (.int .i64 ((rd_T44 (rd_L4 l0_0 (rd x5_1 x6_1)) x34_2).f1))) (fun _ hk => trivial)))⟩; have n1_ : Aside0 (Kd.R (Kd.int .i64) 3 w39 w.heap.size (fun _ => True) u5 x5_2) := ⟨(by rw [hw]; exact (by (with_reducible repeat (first | apply Kd.R_alloc | apply Kd.R_drewN | apply Kd.R_drew)); exact Kd.R_mono (Kd.R_far (p := ⟨gb251, 1, none⟩) (Kd.R_far (p := ⟨gb251, 0, none⟩) (Kd.R_types HO_5.out BK251.out (by decide)) (fun _ hk => hk.2) (.int .i64 ((rd_T44 (rd_L4 l0_0 (rd x5_1 x6_1)) x34_2).f0))) (fun _ hk => hk.2) (.int .i64 ((rd_T44 (rd_L4 l0_0 (rd x5_1 x6_1)) x34_2).f1))) (fun _ hk => trivial)))⟩; have n2_ : Aside0 (w39.heap[gb239]? = some (.cells #[.slice (some ad249) l0_0.length c0_0] 38 (0, 0))) := ⟨(by rw [hw]; exact (by (with_reducible repeat (first | refine blk_drewN ?_ _ | refine blk_drew ?_ | refine blk_alloc ?_ _)); refine blk_far ?_ NB239_251.out _; (with_reducible repeat (first | refine blk_drewN ?_ _ | refine blk_drew ?_ | refine blk_alloc ?_ _)); refine blk_far ?_ NB239_251.out _; (with_reducible repeat (first | refine blk_drewN ?_ _ | refine blk_drew ?_ | refine blk_alloc ?_ _)); exact BK239.out))⟩; have n3_ : Aside0 (w39.heap[gb251]? = some (.cells #[.int .i64 ((rd_T44 (rd_L4 l0_0 (rd x5_1 x6_1)) x34_2).f0), .int .i64 ((rd_T44 (rd_L4 l0_0 (rd x5_1 x6_1)) x34_2).f1)] 44 (0, 0))) := ⟨(by rw [hw]; exact (by (with_reducible repeat (first | refine blk_drewN ?_ _ | refine blk_drew ?_ | refine blk_alloc ?_ _)); refine blk_put (cs := #[.int .i64 ((rd_T44 (rd_L4 l0_0 (rd x5_1 x6_1)) x34_2).f0), .int .i64 0]) ?_ 1 _ rfl; (with_reducible repeat (first | refine blk_drewN ?_ _ | refine blk_drew ?_ | refine blk_alloc ?_ _)); refine blk_put (cs := #[.int .i64 0, .int .i64 0]) ?_ 0 _ rfl; (with_reducible repeat (first | refine blk_drewN ?_ _ | refine blk_drew ?_ | refine blk_alloc ?_ _)); exact BK251.out))⟩; have n4_ : Aside0 (Below w.heap.size w w39) := ⟨(by rw [hw]; exact (by repeat (first | (with_reducible first | exact HB.out | apply below_alloc | apply pw_below_drewN | apply below_drew1 | refine below_set ?_ GE239.out | refine below_set ?_ GE251.out) | exact HB.out)))⟩; clear hw; clear HO_4; clear HO_5; clear BK239; clear BK251; clear HB; have HO_4 := n0_; have HO_5 := n1_; have BK239 := n2_; have BK251 := n3_; have HB := n4_; clear n0_ n1_ n2_ n3_ n4_; have hcz40_0 : w39.cell? ⟨gb251, 0, none⟩ = some (.int .i64 ((rd_T44 (rd_L4 l0_0 (rd x5_1 x6_1)) x34_2).f0)) := (blk_cell BK251.out 0).trans rfl; have hcz40_1 : w39.cell? ⟨gb251, 1, none⟩ = some (.int .i64 ((rd_T44 (rd_L4 l0_0 (rd x5_1 x6_1)) x34_2).f1)) := (blk_cell BK251.out 1).trans rfl; have hfz40_0 := blk_frozen BK251.out 0; have hfz40_1 := blk_frozen BK251.out 1; have p252 : 0 ≤ (((rd_T44 (rd_L4 l0_0 (rd x5_1 x6_1)) x34_2).f0) : Int) := of_decide_eq_true (by first | (with_reducible assumption) | assumption); have q252 : ((rd_T44 (rd_L4 l0_0 (rd x5_1 x6_1)) x34_2).f0) < (x4_2.length : Int) := of_decide_eq_true (by first | (with_reducible assumption) | assumption); obtain ⟨ad252, e252, hx252_0⟩ := Kd.at_bool (Kd.R_reads' HO_4.out).2.2 ((rd_T44 (rd_L4 l0_0 (rd x5_1 x6_1)) x34_2).f0) p252 q252; (try rw [← Nbq29.out] at hx252_0); obtain rfl : (⟨go7, 0, none⟩ : Addr) = ad252 := (by injection e252); (first | simp only [add_plain] at hx252_0 | simp only [add_at] at hx252_0 | simp only [Addr.add, Nat.zero_add] at hx252_0 | skip); replace p252 := eq_true p252; replace q252 := eq_true q252; have p34 : 0 ≤ (((rd_T44 (rd_L4 l0_0 (rd x5_1 x6_1)) x34_2).f0) : Int) := of_decide_eq_true (by first | (with_reducible assumption) | assumption); have q34 : (((rd_T44 (rd_L4 l0_0 (rd x5_1 x6_1)) x34_2).f0) : Int) < ((x4_2.length : Int) : Int) := of_decide_eq_true (by first | (with_reducible assumption) | assumption); obtain ⟨hx34_0, hf34_0⟩ := Kd.R_celln false HO_4.out (((rd_T44 (rd_L4 l0_0 (rd x5_1 x6_1)) x34_2).f0) : Int) p34 q34; replace p34 := eq_true p34; replace q34 := eq_true q34; obtain ⟨hy41_, hz41_⟩ := Kd.R_celln false HO_4.out (((rd_T44 (rd_L4 l0_0 (rd x5_1 x6_1)) x34_2).f0) : Int) (of_decide_eq_true (by first | (with_reducible assumption) | assumption)) (of_decide_eq_true (by first | (with_reducible assumption) | assumption)); have HP41 := Kd.R_putg HO_4.out (((rd_T44 (rd_L4 l0_0 (rd x5_1 x6_1)) x34_2).f0) : Int) true) | ((with_reducible refine gate_store (t := 4) (p := 47) rfl ?_); (try (rw [drewN_self w39]; generalize hq_ : World.drewN w39 _ = w39; have n0_ := Aside0.mk (Kd.R_at hq_ HO_4.out); have n1_ := Aside0.mk (Kd.R_at hq_ HO_5.out); have n2_ := Aside0.mk (blk_at hq_ BK239.out); have n3_ := Aside0.mk (blk_at hq_ BK251.out); have n4_ := Aside0.mk (below_at hq_ HB.out); clear hq_ HO_4 HO_5 BK239 BK251 HB; have HO_4 := n0_; have HO_5 := n1_; have BK239 := n2_; have BK251 := n3_; have HB := n4_; clear n0_ n1_ n2_ n3_ n4_; (try (obtain ⟨hy41_, hz41_⟩ := Kd.R_celln false HO_4.out (((rd_T44 (rd_L4 l0_0 (rd x5_1 x6_1)) x34_2).f0) : Int) (of_decide_eq_true (by first | (with_reducible assumption) | assumption)) (of_decide_eq_true (by first | (with_reducible assumption) | assumption)))); (try (have HP41 := Kd.R_putg HO_4.out (((rd_T44 (rd_L4 l0_0 (rd x5_1 x6_1)) x34_2).f0) : Int) true)))); refine store_event (t := 4) (p := 47) (v := ?vo_w42) (w1 := (w39.setCell ⟨go7, (((rd_T44 (rd_L4 l0_0 (rd x5_1 x6_1)) x34_2).f0) : Int).toNat, none⟩ (.bool true))) ?hg ?ho ?hn ?hr ?_; (case ho => rfl); (case hg => rfl); (case hn => rfl); (case hr => first | (go_simp; done) | (go_simp; rfl)); intro w42 hw; have hg : w39.grownBy w42 (some go7) := (by rw [hw]; exact HP41.2); have hp_ : Kd.R Kd.bool 4 w42 w.heap.size (fun _ => True) (.slice (some ⟨go7, 0, none⟩) x4_2.length co7) y253 := (by rw [hw, Ny253.out]; exact HP41.1); clear HP41; have n0_ := Aside0.mk (hp_); have n1_ := Aside0.mk (Kd.R_over' (v := (.slice (some ⟨go7, 0, none⟩) x4_2.length co7)) (by (with_reducible repeat (first | apply Kd.R_alloc | apply Kd.R_drewN | apply Kd.R_drew)); exact HO_5.out) (Kd.R_typed HO_4.out) (by decide) hg); have n2_ := Aside0.mk (blk_grown (g := gb239) (o := .cells #[.slice (some ad249) l0_0.length c0_0] 38 (0, 0)) (by (with_reducible repeat (first | refine blk_drewN ?_ _ | refine blk_drew ?_ | refine blk_alloc ?_ _)); exact BK239.out) hg (Kd.R_ne HO_4.out BK239.out (by decide))); have n3_ := Aside0.mk (blk_grown (g := gb251) (o := .cells #[.int .i64 ((rd_T44 (rd_L4 l0_0 (rd x5_1 x6_1)) x34_2).f0), .int .i64 ((rd_T44 (rd_L4 l0_0 (rd x5_1 x6_1)) x34_2).f1)] 44 (0, 0)) (by (with_reducible repeat (first | refine blk_drewN ?_ _ | refine blk_drew ?_ | refine blk_alloc ?_ _)); exact BK251.out) hg (Kd.R_ne HO_4.out BK251.out (by decide))); have n4_ := Aside0.mk ((by rw [hw]; exact below_set (HB.out) GB7.out : Below w.heap.size w w42)); clear HO_4; clear HO_5; clear BK239; clear BK251; clear HB; have HO_4 := n0_; have HO_5 := n1_; have BK239 := n2_; have BK251 := n3_; have HB := n4_; clear n0_ n1_ n2_ n3_ n4_; clear hg hw hp_; have hcz43_0 : w42.cell? ⟨gb251, 0, none⟩ = some (.int .i64 ((rd_T44 (rd_L4 l0_0 (rd x5_1 x6_1)) x34_2).f0)) := (blk_cell BK251.out 0).trans rfl; have hcz43_1 : w42.cell? ⟨gb251, 1, none⟩ = some (.int .i64 ((rd_T44 (rd_L4 l0_0 (rd x5_1 x6_1)) x34_2).f1)) := (blk_cell BK251.out 1).trans rfl; have hfz43_0 := blk_frozen BK251.out 0; have hfz43_1 := blk_frozen BK251.out 1) | ((with_reducible refine gate_builtin (b := .append) (xs := #[.tmp 48, .tmp 51]) rfl ?_); at_builtin; refine Kd.R_append (Kd.int .i64) (w0 := w) w.heap.size rfl (.tmp 48) (.tmp 51) 30 3 (.int .i64 0) 8 rfl Try.underlying30 info3 rfl (by decide) (by omega) u5 x5_2 ((rd_T44 (rd_L4 l0_0 (rd x5_1 x6_1)) x34_2).f0) [.int .i64 ((rd_T44 (rd_L4 l0_0 (rd x5_1 x6_1)) x34_2).f0)] (fun _ => True) (fun _ => False) rfl rfl ?aP (fun _ hk => hk.elim) ?aF ?aO ?aB ?aS ?aL ?_; (case aP => exact rfl); (case aB => exact (by repeat (first | (with_reducible first | exact HB.out | apply below_alloc | apply pw_below_drewN | apply below_drew1 | refine below_set ?_ GE239.out | refine below_set ?_ GE251.out) | exact HB.out))); (case aF => exact (fun _ _ => trivial)); (case aO => exact (by (with_reducible repeat (first | apply Kd.R_alloc | apply Kd.R_drewN | apply Kd.R_drew)); exact HO_5.out)); (case aS => exact (below_size (by repeat (first | (with_reducible first | exact HB.out | apply below_alloc | apply pw_below_drewN | apply below_drew1 | refine below_set ?_ GE239.out | refine below_set ?_ GE251.out) | exact HB.out)))); (case aL => have := LMc35.out; omega); intro v255 w44 ho hb hg hat; rw [← Ny254.out] at ho; have n0_ := Aside0.mk (Kd.R_over' (by (with_reducible repeat (first | apply Kd.R_alloc | apply Kd.R_drewN | apply Kd.R_drew)); exact HO_4.out) (Kd.R_typed (by (with_reducible repeat (first | apply Kd.R_alloc | apply Kd.R_drewN | apply Kd.R_drew)); exact HO_5.out)) (by decide) hg); have n1_ := Aside0.mk (blk_grown (g := gb239) (o := .cells #[.slice (some ad249) l0_0.length c0_0] 38 (0, 0)) (by (with_reducible repeat (first | refine blk_drewN ?_ _ | refine blk_drew ?_ | refine blk_alloc ?_ _)); exact BK239.out) hg (Kd.R_ne HO_5.out BK239.out (by decide))); have n2_ := Aside0.mk (blk_grown (g := gb251) (o := .cells #[.int .i64 ((rd_T44 (rd_L4 l0_0 (rd x5_1 x6_1)) x34_2).f0), .int .i64 ((rd_T44 (rd_L4 l0_0 (rd x5_1 x6_1)) x34_2).f1)] 44 (0, 0)) (by (with_reducible repeat (first | refine blk_drewN ?_ _ | refine blk_drew ?_ | refine blk_alloc ?_ _)); exact BK251.out) hg (Kd.R_ne HO_5.out BK251.out (by decide))); have n3_ := Aside0.mk (hb); have n4_ := Aside0.mk (ho); clear HO_4; clear BK239; clear BK251; clear HB; clear HO_5; have HO_4 := n0_; have BK239 := n1_; have BK251 := n2_; have HB := n3_; have HO256 := n4_; clear n0_ n1_ n2_ n3_ n4_; clear ho hb hg hat))
                    repeat (go_quiet (first | ((with_reducible refine gate_dst (N := 8) rfl ?_); refine box_event ?hg (N := 8) ?hd (cs := #[.int .i64 0, .int .i64 0]) (t := 44) ?hr ?_; (case hd => rfl); (case hg => rfl); (case hr => first | (go_simp; done) | (go_simp; rfl)); intro gb251 hg w36 hbox hb; have n0_ := Aside0.mk (Kd.R_below (by (with_reducible repeat (first | apply Kd.R_alloc | apply Kd.R_drewN | apply Kd.R_drew)); exact HO_4.out) hb); have n1_ := Aside0.mk (Kd.R_below (by (with_reducible repeat (first | apply Kd.R_alloc | apply Kd.R_drewN | apply Kd.R_drew)); exact HO_5.out) hb); have n2_ := Aside0.mk (blk_below (g := gb239) (o := .cells #[.slice (some ad249) l0_0.length c0_0] 38 (0, 0)) (by (with_reducible repeat (first | refine blk_drewN ?_ _ | refine blk_drew ?_ | refine blk_alloc ?_ _)); exact BK239.out) hb); have n3_ := Aside0.mk (below_step (by repeat (first | (with_reducible first | exact HB.out | apply below_alloc | apply pw_below_drewN | apply below_drew1 | refine below_set ?_ GE239.out) | exact HB.out)) hb); have n4_ := Aside0.mk (hbox); have n5_ := Aside0.mk ((by rw [hg]; exact (below_size (by repeat (first | (with_reducible first | exact HB.out | apply below_alloc | apply pw_below_drewN | apply below_drew1 | refine below_set ?_ GE239.out) | exact HB.out))) : w.heap.size ≤ gb251)); have n6_ := Aside0.mk ((by rw [hg]; exact (below_size (by repeat (first | (with_reducible first | exact HB.out | apply below_alloc | apply pw_below_drewN | apply below_drew1 | refine below_set ?_ GE239.out) | exact HB.out))) : w.heap.size ≤ gb251)); have n7_ := Aside0.mk ((by rw [hg]; exact Nat.ne_of_lt (blk_lt (g := gb239) (o := .cells #[.slice (some ad249) l0_0.length c0_0] 38 (0, 0)) (by (with_reducible repeat (first | refine blk_drewN ?_ _ | refine blk_drew ?_ | refine blk_alloc ?_ _)); exact BK239.out)) : gb239 ≠ gb251)); have n8_ := Aside0.mk ((by rw [hg]; exact Nat.ne_of_gt (blk_lt (g := gb239) (o := .cells #[.slice (some ad249) l0_0.length c0_0] 38 (0, 0)) (by (with_reducible repeat (first | refine blk_drewN ?_ _ | refine blk_drew ?_ | refine blk_alloc ?_ _)); exact BK239.out)) : gb251 ≠ gb239)); clear HO_4; clear HO_5; clear BK239; clear HB; have HO_4 := n0_; have HO_5 := n1_; have BK239 := n2_; have HB := n3_; have BK251 := n4_; have GW251 := n5_; have GE251 := n6_; have NB239_251 := n7_; have NB251_239 := n8_; clear n0_ n1_ n2_ n3_ n4_ n5_ n6_ n7_ n8_; clear hb hbox hg; have hnb37 := NB251_239.out; have hnc37 := NB239_251.out; have hcz38_0 : w36.cell? ⟨gb251, 0, none⟩ = some (.int .i64 0) := (blk_cell BK251.out 0).trans rfl; have hcz38_1 : w36.cell? ⟨gb251, 1, none⟩ = some (.int .i64 0) := (blk_cell BK251.out 1).trans rfl; have hfz38_0 := blk_frozen BK251.out 0; have hfz38_1 := blk_frozen BK251.out 1) | ((with_reducible refine gate_store (t := 44) (p := 8) rfl ?_); (try (rw [drewN_self w36]; generalize hq_ : World.drewN w36 _ = w36; have n0_ := Aside0.mk (Kd.R_at hq_ HO_4.out); have n1_ := Aside0.mk (Kd.R_at hq_ HO_5.out); have n2_ := Aside0.mk (blk_at hq_ BK239.out); have n3_ := Aside0.mk (blk_at hq_ BK251.out); have n4_ := Aside0.mk (below_at hq_ HB.out); clear hq_ HO_4 HO_5 BK239 BK251 HB; have HO_4 := n0_; have HO_5 := n1_; have BK239 := n2_; have BK251 := n3_; have HB := n4_; clear n0_ n1_ n2_ n3_ n4_)); refine store_event (t := 44) (p := 8) (v := ?vo_w39) (w1 := ((w36.setCell ⟨gb251, 0, none⟩ (.int .i64 ((rd_T44 (rd_L4 l0_0 (rd x5_1 x6_1)) x34_2).f0))).setCell ⟨gb251, 1, none⟩ (.int .i64 ((rd_T44 (rd_L4 l0_0 (rd x5_1 x6_1)) x34_2).f1)))) ?hg ?ho ?hn ?hr ?_; (case ho => rfl); (case hg => rfl); (case hn => rfl); (case hr => first | (go_simp; done) | (go_simp; rfl)); intro w39 hw; have n0_ : Aside0 (Kd.R Kd.bool 4 w39 w.heap.size (fun _ => True) (.slice (some ⟨go7, 0, none⟩) x4_2.length co7) x4_2) := ⟨(by rw [hw]; exact (by (with_reducible repeat (first | apply Kd.R_alloc | apply Kd.R_drewN | apply Kd.R_drew)); exact Kd.R_mono (Kd.R_far (p := ⟨gb251, 1, none⟩) (Kd.R_far (p := ⟨gb251, 0, none⟩) (Kd.R_types HO_4.out BK251.out (by decide)) (fun _ hk => hk.2) (.int .i64 ((rd_T44 (rd_L4 l0_0 (rd x5_1 x6_1)) x34_2).f0))) (fun _ hk => hk.2) (.int .i64 ((rd_T44 (rd_L4 l0_0 (rd x5_1 x6_1)) x34_2).f1))) (fun _ hk => trivial)))⟩; have n1_ : Aside0 (Kd.R (Kd.int .i64) 3 w39 w.heap.size (fun _ => True) u5 x5_2) := ⟨(by rw [hw]; exact (by (with_reducible repeat (first | apply Kd.R_alloc | apply Kd.R_drewN | apply Kd.R_drew)); exact Kd.R_mono (Kd.R_far (p := ⟨gb251, 1, none⟩) (Kd.R_far (p := ⟨gb251, 0, none⟩) (Kd.R_types HO_5.out BK251.out (by decide)) (fun _ hk => hk.2) (.int .i64 ((rd_T44 (rd_L4 l0_0 (rd x5_1 x6_1)) x34_2).f0))) (fun _ hk => hk.2) (.int .i64 ((rd_T44 (rd_L4 l0_0 (rd x5_1 x6_1)) x34_2).f1))) (fun _ hk => trivial)))⟩; have n2_ : Aside0 (w39.heap[gb239]? = some (.cells #[.slice (some ad249) l0_0.length c0_0] 38 (0, 0))) := ⟨(by rw [hw]; exact (by (with_reducible repeat (first | refine blk_drewN ?_ _ | refine blk_drew ?_ | refine blk_alloc ?_ _)); refine blk_far ?_ NB239_251.out _; (with_reducible repeat (first | refine blk_drewN ?_ _ | refine blk_drew ?_ | refine blk_alloc ?_ _)); refine blk_far ?_ NB239_251.out _; (with_reducible repeat (first | refine blk_drewN ?_ _ | refine blk_drew ?_ | refine blk_alloc ?_ _)); exact BK239.out))⟩; have n3_ : Aside0 (w39.heap[gb251]? = some (.cells #[.int .i64 ((rd_T44 (rd_L4 l0_0 (rd x5_1 x6_1)) x34_2).f0), .int .i64 ((rd_T44 (rd_L4 l0_0 (rd x5_1 x6_1)) x34_2).f1)] 44 (0, 0))) := ⟨(by rw [hw]; exact (by (with_reducible repeat (first | refine blk_drewN ?_ _ | refine blk_drew ?_ | refine blk_alloc ?_ _)); refine blk_put (cs := #[.int .i64 ((rd_T44 (rd_L4 l0_0 (rd x5_1 x6_1)) x34_2).f0), .int .i64 0]) ?_ 1 _ rfl; (with_reducible repeat (first | refine blk_drewN ?_ _ | refine blk_drew ?_ | refine blk_alloc ?_ _)); refine blk_put (cs := #[.int .i64 0, .int .i64 0]) ?_ 0 _ rfl; (with_reducible repeat (first | refine blk_drewN ?_ _ | refine blk_drew ?_ | refine blk_alloc ?_ _)); exact BK251.out))⟩; have n4_ : Aside0 (Below w.heap.size w w39) := ⟨(by rw [hw]; exact (by repeat (first | (with_reducible first | exact HB.out | apply below_alloc | apply pw_below_drewN | apply below_drew1 | refine below_set ?_ GE239.out | refine below_set ?_ GE251.out) | exact HB.out)))⟩; clear hw; clear HO_4; clear HO_5; clear BK239; clear BK251; clear HB; have HO_4 := n0_; have HO_5 := n1_; have BK239 := n2_; have BK251 := n3_; have HB := n4_; clear n0_ n1_ n2_ n3_ n4_; have hcz40_0 : w39.cell? ⟨gb251, 0, none⟩ = some (.int .i64 ((rd_T44 (rd_L4 l0_0 (rd x5_1 x6_1)) x34_2).f0)) := (blk_cell BK251.out 0).trans rfl; have hcz40_1 : w39.cell? ⟨gb251, 1, none⟩ = some (.int .i64 ((rd_T44 (rd_L4 l0_0 (rd x5_1 x6_1)) x34_2).f1)) := (blk_cell BK251.out 1).trans rfl; have hfz40_0 := blk_frozen BK251.out 0; have hfz40_1 := blk_frozen BK251.out 1; have p252 : 0 ≤ (((rd_T44 (rd_L4 l0_0 (rd x5_1 x6_1)) x34_2).f0) : Int) := of_decide_eq_true (by first | (with_reducible assumption) | assumption); have q252 : ((rd_T44 (rd_L4 l0_0 (rd x5_1 x6_1)) x34_2).f0) < (x4_2.length : Int) := of_decide_eq_true (by first | (with_reducible assumption) | assumption); obtain ⟨ad252, e252, hx252_0⟩ := Kd.at_bool (Kd.R_reads' HO_4.out).2.2 ((rd_T44 (rd_L4 l0_0 (rd x5_1 x6_1)) x34_2).f0) p252 q252; (try rw [← Nbq29.out] at hx252_0); obtain rfl : (⟨go7, 0, none⟩ : Addr) = ad252 := (by injection e252); (first | simp only [add_plain] at hx252_0 | simp only [add_at] at hx252_0 | simp only [Addr.add, Nat.zero_add] at hx252_0 | skip); replace p252 := eq_true p252; replace q252 := eq_true q252; have p34 : 0 ≤ (((rd_T44 (rd_L4 l0_0 (rd x5_1 x6_1)) x34_2).f0) : Int) := of_decide_eq_true (by first | (with_reducible assumption) | assumption); have q34 : (((rd_T44 (rd_L4 l0_0 (rd x5_1 x6_1)) x34_2).f0) : Int) < ((x4_2.length : Int) : Int) := of_decide_eq_true (by first | (with_reducible assumption) | assumption); obtain ⟨hx34_0, hf34_0⟩ := Kd.R_celln false HO_4.out (((rd_T44 (rd_L4 l0_0 (rd x5_1 x6_1)) x34_2).f0) : Int) p34 q34; replace p34 := eq_true p34; replace q34 := eq_true q34; obtain ⟨hy41_, hz41_⟩ := Kd.R_celln false HO_4.out (((rd_T44 (rd_L4 l0_0 (rd x5_1 x6_1)) x34_2).f0) : Int) (of_decide_eq_true (by first | (with_reducible assumption) | assumption)) (of_decide_eq_true (by first | (with_reducible assumption) | assumption)); have HP41 := Kd.R_putg HO_4.out (((rd_T44 (rd_L4 l0_0 (rd x5_1 x6_1)) x34_2).f0) : Int) true) | ((with_reducible refine gate_store (t := 4) (p := 47) rfl ?_); (try (rw [drewN_self w39]; generalize hq_ : World.drewN w39 _ = w39; have n0_ := Aside0.mk (Kd.R_at hq_ HO_4.out); have n1_ := Aside0.mk (Kd.R_at hq_ HO_5.out); have n2_ := Aside0.mk (blk_at hq_ BK239.out); have n3_ := Aside0.mk (blk_at hq_ BK251.out); have n4_ := Aside0.mk (below_at hq_ HB.out); clear hq_ HO_4 HO_5 BK239 BK251 HB; have HO_4 := n0_; have HO_5 := n1_; have BK239 := n2_; have BK251 := n3_; have HB := n4_; clear n0_ n1_ n2_ n3_ n4_; (try (obtain ⟨hy41_, hz41_⟩ := Kd.R_celln false HO_4.out (((rd_T44 (rd_L4 l0_0 (rd x5_1 x6_1)) x34_2).f0) : Int) (of_decide_eq_true (by first | (with_reducible assumption) | assumption)) (of_decide_eq_true (by first | (with_reducible assumption) | assumption)))); (try (have HP41 := Kd.R_putg HO_4.out (((rd_T44 (rd_L4 l0_0 (rd x5_1 x6_1)) x34_2).f0) : Int) true)))); refine store_event (t := 4) (p := 47) (v := ?vo_w42) (w1 := (w39.setCell ⟨go7, (((rd_T44 (rd_L4 l0_0 (rd x5_1 x6_1)) x34_2).f0) : Int).toNat, none⟩ (.bool true))) ?hg ?ho ?hn ?hr ?_; (case ho => rfl); (case hg => rfl); (case hn => rfl); (case hr => first | (go_simp; done) | (go_simp; rfl)); intro w42 hw; have hg : w39.grownBy w42 (some go7) := (by rw [hw]; exact HP41.2); have hp_ : Kd.R Kd.bool 4 w42 w.heap.size (fun _ => True) (.slice (some ⟨go7, 0, none⟩) x4_2.length co7) y253 := (by rw [hw, Ny253.out]; exact HP41.1); clear HP41; have n0_ := Aside0.mk (hp_); have n1_ := Aside0.mk (Kd.R_over' (v := (.slice (some ⟨go7, 0, none⟩) x4_2.length co7)) (by (with_reducible repeat (first | apply Kd.R_alloc | apply Kd.R_drewN | apply Kd.R_drew)); exact HO_5.out) (Kd.R_typed HO_4.out) (by decide) hg); have n2_ := Aside0.mk (blk_grown (g := gb239) (o := .cells #[.slice (some ad249) l0_0.length c0_0] 38 (0, 0)) (by (with_reducible repeat (first | refine blk_drewN ?_ _ | refine blk_drew ?_ | refine blk_alloc ?_ _)); exact BK239.out) hg (Kd.R_ne HO_4.out BK239.out (by decide))); have n3_ := Aside0.mk (blk_grown (g := gb251) (o := .cells #[.int .i64 ((rd_T44 (rd_L4 l0_0 (rd x5_1 x6_1)) x34_2).f0), .int .i64 ((rd_T44 (rd_L4 l0_0 (rd x5_1 x6_1)) x34_2).f1)] 44 (0, 0)) (by (with_reducible repeat (first | refine blk_drewN ?_ _ | refine blk_drew ?_ | refine blk_alloc ?_ _)); exact BK251.out) hg (Kd.R_ne HO_4.out BK251.out (by decide))); have n4_ := Aside0.mk ((by rw [hw]; exact below_set (HB.out) GB7.out : Below w.heap.size w w42)); clear HO_4; clear HO_5; clear BK239; clear BK251; clear HB; have HO_4 := n0_; have HO_5 := n1_; have BK239 := n2_; have BK251 := n3_; have HB := n4_; clear n0_ n1_ n2_ n3_ n4_; clear hg hw hp_; have hcz43_0 : w42.cell? ⟨gb251, 0, none⟩ = some (.int .i64 ((rd_T44 (rd_L4 l0_0 (rd x5_1 x6_1)) x34_2).f0)) := (blk_cell BK251.out 0).trans rfl; have hcz43_1 : w42.cell? ⟨gb251, 1, none⟩ = some (.int .i64 ((rd_T44 (rd_L4 l0_0 (rd x5_1 x6_1)) x34_2).f1)) := (blk_cell BK251.out 1).trans rfl; have hfz43_0 := blk_frozen BK251.out 0; have hfz43_1 := blk_frozen BK251.out 1) | ((with_reducible refine gate_builtin (b := .append) (xs := #[.tmp 48, .tmp 51]) rfl ?_); at_builtin; refine Kd.R_append (Kd.int .i64) (w0 := w) w.heap.size rfl (.tmp 48) (.tmp 51) 30 3 (.int .i64 0) 8 rfl Try.underlying30 info3 rfl (by decide) (by omega) u5 x5_2 ((rd_T44 (rd_L4 l0_0 (rd x5_1 x6_1)) x34_2).f0) [.int .i64 ((rd_T44 (rd_L4 l0_0 (rd x5_1 x6_1)) x34_2).f0)] (fun _ => True) (fun _ => False) rfl rfl ?aP (fun _ hk => hk.elim) ?aF ?aO ?aB ?aS ?aL ?_; (case aP => exact rfl); (case aB => exact (by repeat (first | (with_reducible first | exact HB.out | apply below_alloc | apply pw_below_drewN | apply below_drew1 | refine below_set ?_ GE239.out | refine below_set ?_ GE251.out) | exact HB.out))); (case aF => exact (fun _ _ => trivial)); (case aO => exact (by (with_reducible repeat (first | apply Kd.R_alloc | apply Kd.R_drewN | apply Kd.R_drew)); exact HO_5.out)); (case aS => exact (below_size (by repeat (first | (with_reducible first | exact HB.out | apply below_alloc | apply pw_below_drewN | apply below_drew1 | refine below_set ?_ GE239.out | refine below_set ?_ GE251.out) | exact HB.out)))); (case aL => have := LMc35.out; omega); intro v255 w44 ho hb hg hat; rw [← Ny254.out] at ho; have n0_ := Aside0.mk (Kd.R_over' (by (with_reducible repeat (first | apply Kd.R_alloc | apply Kd.R_drewN | apply Kd.R_drew)); exact HO_4.out) (Kd.R_typed (by (with_reducible repeat (first | apply Kd.R_alloc | apply Kd.R_drewN | apply Kd.R_drew)); exact HO_5.out)) (by decide) hg); have n1_ := Aside0.mk (blk_grown (g := gb239) (o := .cells #[.slice (some ad249) l0_0.length c0_0] 38 (0, 0)) (by (with_reducible repeat (first | refine blk_drewN ?_ _ | refine blk_drew ?_ | refine blk_alloc ?_ _)); exact BK239.out) hg (Kd.R_ne HO_5.out BK239.out (by decide))); have n2_ := Aside0.mk (blk_grown (g := gb251) (o := .cells #[.int .i64 ((rd_T44 (rd_L4 l0_0 (rd x5_1 x6_1)) x34_2).f0), .int .i64 ((rd_T44 (rd_L4 l0_0 (rd x5_1 x6_1)) x34_2).f1)] 44 (0, 0)) (by (with_reducible repeat (first | refine blk_drewN ?_ _ | refine blk_drew ?_ | refine blk_alloc ?_ _)); exact BK251.out) hg (Kd.R_ne HO_5.out BK251.out (by decide))); have n3_ := Aside0.mk (hb); have n4_ := Aside0.mk (ho); clear HO_4; clear BK239; clear BK251; clear HB; clear HO_5; have HO_4 := n0_; have BK239 := n1_; have BK251 := n2_; have HB := n3_; have HO256 := n4_; clear n0_ n1_ n2_ n3_ n4_; clear ho hb hg hat)); try go_wp2_with (first | ((with_reducible refine gate_dst (N := 8) rfl ?_); refine box_event ?hg (N := 8) ?hd (cs := #[.int .i64 0, .int .i64 0]) (t := 44) ?hr ?_; (case hd => rfl); (case hg => rfl); (case hr => first | (go_simp; done) | (go_simp; rfl)); intro gb251 hg w36 hbox hb; have n0_ := Aside0.mk (Kd.R_below (by (with_reducible repeat (first | apply Kd.R_alloc | apply Kd.R_drewN | apply Kd.R_drew)); exact HO_4.out) hb); have n1_ := Aside0.mk (Kd.R_below (by (with_reducible repeat (first | apply Kd.R_alloc | apply Kd.R_drewN | apply Kd.R_drew)); exact HO_5.out) hb); have n2_ := Aside0.mk (blk_below (g := gb239) (o := .cells #[.slice (some ad249) l0_0.length c0_0] 38 (0, 0)) (by (with_reducible repeat (first | refine blk_drewN ?_ _ | refine blk_drew ?_ | refine blk_alloc ?_ _)); exact BK239.out) hb); have n3_ := Aside0.mk (below_step (by repeat (first | (with_reducible first | exact HB.out | apply below_alloc | apply pw_below_drewN | apply below_drew1 | refine below_set ?_ GE239.out) | exact HB.out)) hb); have n4_ := Aside0.mk (hbox); have n5_ := Aside0.mk ((by rw [hg]; exact (below_size (by repeat (first | (with_reducible first | exact HB.out | apply below_alloc | apply pw_below_drewN | apply below_drew1 | refine below_set ?_ GE239.out) | exact HB.out))) : w.heap.size ≤ gb251)); have n6_ := Aside0.mk ((by rw [hg]; exact (below_size (by repeat (first | (with_reducible first | exact HB.out | apply below_alloc | apply pw_below_drewN | apply below_drew1 | refine below_set ?_ GE239.out) | exact HB.out))) : w.heap.size ≤ gb251)); have n7_ := Aside0.mk ((by rw [hg]; exact Nat.ne_of_lt (blk_lt (g := gb239) (o := .cells #[.slice (some ad249) l0_0.length c0_0] 38 (0, 0)) (by (with_reducible repeat (first | refine blk_drewN ?_ _ | refine blk_drew ?_ | refine blk_alloc ?_ _)); exact BK239.out)) : gb239 ≠ gb251)); have n8_ := Aside0.mk ((by rw [hg]; exact Nat.ne_of_gt (blk_lt (g := gb239) (o := .cells #[.slice (some ad249) l0_0.length c0_0] 38 (0, 0)) (by (with_reducible repeat (first | refine blk_drewN ?_ _ | refine blk_drew ?_ | refine blk_alloc ?_ _)); exact BK239.out)) : gb251 ≠ gb239)); clear HO_4; clear HO_5; clear BK239; clear HB; have HO_4 := n0_; have HO_5 := n1_; have BK239 := n2_; have HB := n3_; have BK251 := n4_; have GW251 := n5_; have GE251 := n6_; have NB239_251 := n7_; have NB251_239 := n8_; clear n0_ n1_ n2_ n3_ n4_ n5_ n6_ n7_ n8_; clear hb hbox hg; have hnb37 := NB251_239.out; have hnc37 := NB239_251.out; have hcz38_0 : w36.cell? ⟨gb251, 0, none⟩ = some (.int .i64 0) := (blk_cell BK251.out 0).trans rfl; have hcz38_1 : w36.cell? ⟨gb251, 1, none⟩ = some (.int .i64 0) := (blk_cell BK251.out 1).trans rfl; have hfz38_0 := blk_frozen BK251.out 0; have hfz38_1 := blk_frozen BK251.out 1) | ((with_reducible refine gate_store (t := 44) (p := 8) rfl ?_); (try (rw [drewN_self w36]; generalize hq_ : World.drewN w36 _ = w36; have n0_ := Aside0.mk (Kd.R_at hq_ HO_4.out); have n1_ := Aside0.mk (Kd.R_at hq_ HO_5.out); have n2_ := Aside0.mk (blk_at hq_ BK239.out); have n3_ := Aside0.mk (blk_at hq_ BK251.out); have n4_ := Aside0.mk (below_at hq_ HB.out); clear hq_ HO_4 HO_5 BK239 BK251 HB; have HO_4 := n0_; have HO_5 := n1_; have BK239 := n2_; have BK251 := n3_; have HB := n4_; clear n0_ n1_ n2_ n3_ n4_)); refine store_event (t := 44) (p := 8) (v := ?vo_w39) (w1 := ((w36.setCell ⟨gb251, 0, none⟩ (.int .i64 ((rd_T44 (rd_L4 l0_0 (rd x5_1 x6_1)) x34_2).f0))).setCell ⟨gb251, 1, none⟩ (.int .i64 ((rd_T44 (rd_L4 l0_0 (rd x5_1 x6_1)) x34_2).f1)))) ?hg ?ho ?hn ?hr ?_; (case ho => rfl); (case hg => rfl); (case hn => rfl); (case hr => first | (go_simp; done) | (go_simp; rfl)); intro w39 hw; have n0_ : Aside0 (Kd.R Kd.bool 4 w39 w.heap.size (fun _ => True) (.slice (some ⟨go7, 0, none⟩) x4_2.length co7) x4_2) := ⟨(by rw [hw]; exact (by (with_reducible repeat (first | apply Kd.R_alloc | apply Kd.R_drewN | apply Kd.R_drew)); exact Kd.R_mono (Kd.R_far (p := ⟨gb251, 1, none⟩) (Kd.R_far (p := ⟨gb251, 0, none⟩) (Kd.R_types HO_4.out BK251.out (by decide)) (fun _ hk => hk.2) (.int .i64 ((rd_T44 (rd_L4 l0_0 (rd x5_1 x6_1)) x34_2).f0))) (fun _ hk => hk.2) (.int .i64 ((rd_T44 (rd_L4 l0_0 (rd x5_1 x6_1)) x34_2).f1))) (fun _ hk => trivial)))⟩; have n1_ : Aside0 (Kd.R (Kd.int .i64) 3 w39 w.heap.size (fun _ => True) u5 x5_2) := ⟨(by rw [hw]; exact (by (with_reducible repeat (first | apply Kd.R_alloc | apply Kd.R_drewN | apply Kd.R_drew)); exact Kd.R_mono (Kd.R_far (p := ⟨gb251, 1, none⟩) (Kd.R_far (p := ⟨gb251, 0, none⟩) (Kd.R_types HO_5.out BK251.out (by decide)) (fun _ hk => hk.2) (.int .i64 ((rd_T44 (rd_L4 l0_0 (rd x5_1 x6_1)) x34_2).f0))) (fun _ hk => hk.2) (.int .i64 ((rd_T44 (rd_L4 l0_0 (rd x5_1 x6_1)) x34_2).f1))) (fun _ hk => trivial)))⟩; have n2_ : Aside0 (w39.heap[gb239]? = some (.cells #[.slice (some ad249) l0_0.length c0_0] 38 (0, 0))) := ⟨(by rw [hw]; exact (by (with_reducible repeat (first | refine blk_drewN ?_ _ | refine blk_drew ?_ | refine blk_alloc ?_ _)); refine blk_far ?_ NB239_251.out _; (with_reducible repeat (first | refine blk_drewN ?_ _ | refine blk_drew ?_ | refine blk_alloc ?_ _)); refine blk_far ?_ NB239_251.out _; (with_reducible repeat (first | refine blk_drewN ?_ _ | refine blk_drew ?_ | refine blk_alloc ?_ _)); exact BK239.out))⟩; have n3_ : Aside0 (w39.heap[gb251]? = some (.cells #[.int .i64 ((rd_T44 (rd_L4 l0_0 (rd x5_1 x6_1)) x34_2).f0), .int .i64 ((rd_T44 (rd_L4 l0_0 (rd x5_1 x6_1)) x34_2).f1)] 44 (0, 0))) := ⟨(by rw [hw]; exact (by (with_reducible repeat (first | refine blk_drewN ?_ _ | refine blk_drew ?_ | refine blk_alloc ?_ _)); refine blk_put (cs := #[.int .i64 ((rd_T44 (rd_L4 l0_0 (rd x5_1 x6_1)) x34_2).f0), .int .i64 0]) ?_ 1 _ rfl; (with_reducible repeat (first | refine blk_drewN ?_ _ | refine blk_drew ?_ | refine blk_alloc ?_ _)); refine blk_put (cs := #[.int .i64 0, .int .i64 0]) ?_ 0 _ rfl; (with_reducible repeat (first | refine blk_drewN ?_ _ | refine blk_drew ?_ | refine blk_alloc ?_ _)); exact BK251.out))⟩; have n4_ : Aside0 (Below w.heap.size w w39) := ⟨(by rw [hw]; exact (by repeat (first | (with_reducible first | exact HB.out | apply below_alloc | apply pw_below_drewN | apply below_drew1 | refine below_set ?_ GE239.out | refine below_set ?_ GE251.out) | exact HB.out)))⟩; clear hw; clear HO_4; clear HO_5; clear BK239; clear BK251; clear HB; have HO_4 := n0_; have HO_5 := n1_; have BK239 := n2_; have BK251 := n3_; have HB := n4_; clear n0_ n1_ n2_ n3_ n4_; have hcz40_0 : w39.cell? ⟨gb251, 0, none⟩ = some (.int .i64 ((rd_T44 (rd_L4 l0_0 (rd x5_1 x6_1)) x34_2).f0)) := (blk_cell BK251.out 0).trans rfl; have hcz40_1 : w39.cell? ⟨gb251, 1, none⟩ = some (.int .i64 ((rd_T44 (rd_L4 l0_0 (rd x5_1 x6_1)) x34_2).f1)) := (blk_cell BK251.out 1).trans rfl; have hfz40_0 := blk_frozen BK251.out 0; have hfz40_1 := blk_frozen BK251.out 1; have p252 : 0 ≤ (((rd_T44 (rd_L4 l0_0 (rd x5_1 x6_1)) x34_2).f0) : Int) := of_decide_eq_true (by first | (with_reducible assumption) | assumption); have q252 : ((rd_T44 (rd_L4 l0_0 (rd x5_1 x6_1)) x34_2).f0) < (x4_2.length : Int) := of_decide_eq_true (by first | (with_reducible assumption) | assumption); obtain ⟨ad252, e252, hx252_0⟩ := Kd.at_bool (Kd.R_reads' HO_4.out).2.2 ((rd_T44 (rd_L4 l0_0 (rd x5_1 x6_1)) x34_2).f0) p252 q252; (try rw [← Nbq29.out] at hx252_0); obtain rfl : (⟨go7, 0, none⟩ : Addr) = ad252 := (by injection e252); (first | simp only [add_plain] at hx252_0 | simp only [add_at] at hx252_0 | simp only [Addr.add, Nat.zero_add] at hx252_0 | skip); replace p252 := eq_true p252; replace q252 := eq_true q252; have p34 : 0 ≤ (((rd_T44 (rd_L4 l0_0 (rd x5_1 x6_1)) x34_2).f0) : Int) := of_decide_eq_true (by first | (with_reducible assumption) | assumption); have q34 : (((rd_T44 (rd_L4 l0_0 (rd x5_1 x6_1)) x34_2).f0) : Int) < ((x4_2.length : Int) : Int) := of_decide_eq_true (by first | (with_reducible assumption) | assumption); obtain ⟨hx34_0, hf34_0⟩ := Kd.R_celln false HO_4.out (((rd_T44 (rd_L4 l0_0 (rd x5_1 x6_1)) x34_2).f0) : Int) p34 q34; replace p34 := eq_true p34; replace q34 := eq_true q34; obtain ⟨hy41_, hz41_⟩ := Kd.R_celln false HO_4.out (((rd_T44 (rd_L4 l0_0 (rd x5_1 x6_1)) x34_2).f0) : Int) (of_decide_eq_true (by first | (with_reducible assumption) | assumption)) (of_decide_eq_true (by first | (with_reducible assumption) | assumption)); have HP41 := Kd.R_putg HO_4.out (((rd_T44 (rd_L4 l0_0 (rd x5_1 x6_1)) x34_2).f0) : Int) true) | ((with_reducible refine gate_store (t := 4) (p := 47) rfl ?_); (try (rw [drewN_self w39]; generalize hq_ : World.drewN w39 _ = w39; have n0_ := Aside0.mk (Kd.R_at hq_ HO_4.out); have n1_ := Aside0.mk (Kd.R_at hq_ HO_5.out); have n2_ := Aside0.mk (blk_at hq_ BK239.out); have n3_ := Aside0.mk (blk_at hq_ BK251.out); have n4_ := Aside0.mk (below_at hq_ HB.out); clear hq_ HO_4 HO_5 BK239 BK251 HB; have HO_4 := n0_; have HO_5 := n1_; have BK239 := n2_; have BK251 := n3_; have HB := n4_; clear n0_ n1_ n2_ n3_ n4_; (try (obtain ⟨hy41_, hz41_⟩ := Kd.R_celln false HO_4.out (((rd_T44 (rd_L4 l0_0 (rd x5_1 x6_1)) x34_2).f0) : Int) (of_decide_eq_true (by first | (with_reducible assumption) | assumption)) (of_decide_eq_true (by first | (with_reducible assumption) | assumption)))); (try (have HP41 := Kd.R_putg HO_4.out (((rd_T44 (rd_L4 l0_0 (rd x5_1 x6_1)) x34_2).f0) : Int) true)))); refine store_event (t := 4) (p := 47) (v := ?vo_w42) (w1 := (w39.setCell ⟨go7, (((rd_T44 (rd_L4 l0_0 (rd x5_1 x6_1)) x34_2).f0) : Int).toNat, none⟩ (.bool true))) ?hg ?ho ?hn ?hr ?_; (case ho => rfl); (case hg => rfl); (case hn => rfl); (case hr => first | (go_simp; done) | (go_simp; rfl)); intro w42 hw; have hg : w39.grownBy w42 (some go7) := (by rw [hw]; exact HP41.2); have hp_ : Kd.R Kd.bool 4 w42 w.heap.size (fun _ => True) (.slice (some ⟨go7, 0, none⟩) x4_2.length co7) y253 := (by rw [hw, Ny253.out]; exact HP41.1); clear HP41; have n0_ := Aside0.mk (hp_); have n1_ := Aside0.mk (Kd.R_over' (v := (.slice (some ⟨go7, 0, none⟩) x4_2.length co7)) (by (with_reducible repeat (first | apply Kd.R_alloc | apply Kd.R_drewN | apply Kd.R_drew)); exact HO_5.out) (Kd.R_typed HO_4.out) (by decide) hg); have n2_ := Aside0.mk (blk_grown (g := gb239) (o := .cells #[.slice (some ad249) l0_0.length c0_0] 38 (0, 0)) (by (with_reducible repeat (first | refine blk_drewN ?_ _ | refine blk_drew ?_ | refine blk_alloc ?_ _)); exact BK239.out) hg (Kd.R_ne HO_4.out BK239.out (by decide))); have n3_ := Aside0.mk (blk_grown (g := gb251) (o := .cells #[.int .i64 ((rd_T44 (rd_L4 l0_0 (rd x5_1 x6_1)) x34_2).f0), .int .i64 ((rd_T44 (rd_L4 l0_0 (rd x5_1 x6_1)) x34_2).f1)] 44 (0, 0)) (by (with_reducible repeat (first | refine blk_drewN ?_ _ | refine blk_drew ?_ | refine blk_alloc ?_ _)); exact BK251.out) hg (Kd.R_ne HO_4.out BK251.out (by decide))); have n4_ := Aside0.mk ((by rw [hw]; exact below_set (HB.out) GB7.out : Below w.heap.size w w42)); clear HO_4; clear HO_5; clear BK239; clear BK251; clear HB; have HO_4 := n0_; have HO_5 := n1_; have BK239 := n2_; have BK251 := n3_; have HB := n4_; clear n0_ n1_ n2_ n3_ n4_; clear hg hw hp_; have hcz43_0 : w42.cell? ⟨gb251, 0, none⟩ = some (.int .i64 ((rd_T44 (rd_L4 l0_0 (rd x5_1 x6_1)) x34_2).f0)) := (blk_cell BK251.out 0).trans rfl; have hcz43_1 : w42.cell? ⟨gb251, 1, none⟩ = some (.int .i64 ((rd_T44 (rd_L4 l0_0 (rd x5_1 x6_1)) x34_2).f1)) := (blk_cell BK251.out 1).trans rfl; have hfz43_0 := blk_frozen BK251.out 0; have hfz43_1 := blk_frozen BK251.out 1) | ((with_reducible refine gate_builtin (b := .append) (xs := #[.tmp 48, .tmp 51]) rfl ?_); at_builtin; refine Kd.R_append (Kd.int .i64) (w0 := w) w.heap.size rfl (.tmp 48) (.tmp 51) 30 3 (.int .i64 0) 8 rfl Try.underlying30 info3 rfl (by decide) (by omega) u5 x5_2 ((rd_T44 (rd_L4 l0_0 (rd x5_1 x6_1)) x34_2).f0) [.int .i64 ((rd_T44 (rd_L4 l0_0 (rd x5_1 x6_1)) x34_2).f0)] (fun _ => True) (fun _ => False) rfl rfl ?aP (fun _ hk => hk.elim) ?aF ?aO ?aB ?aS ?aL ?_; (case aP => exact rfl); (case aB => exact (by repeat (first | (with_reducible first | exact HB.out | apply below_alloc | apply pw_below_drewN | apply below_drew1 | refine below_set ?_ GE239.out | refine below_set ?_ GE251.out) | exact HB.out))); (case aF => exact (fun _ _ => trivial)); (case aO => exact (by (with_reducible repeat (first | apply Kd.R_alloc | apply Kd.R_drewN | apply Kd.R_drew)); exact HO_5.out)); (case aS => exact (below_size (by repeat (first | (with_reducible first | exact HB.out | apply below_alloc | apply pw_below_drewN | apply below_drew1 | refine below_set ?_ GE239.out | refine below_set ?_ GE251.out) | exact HB.out)))); (case aL => have := LMc35.out; omega); intro v255 w44 ho hb hg hat; rw [← Ny254.out] at ho; have n0_ := Aside0.mk (Kd.R_over' (by (with_reducible repeat (first | apply Kd.R_alloc | apply Kd.R_drewN | apply Kd.R_drew)); exact HO_4.out) (Kd.R_typed (by (with_reducible repeat (first | apply Kd.R_alloc | apply Kd.R_drewN | apply Kd.R_drew)); exact HO_5.out)) (by decide) hg); have n1_ := Aside0.mk (blk_grown (g := gb239) (o := .cells #[.slice (some ad249) l0_0.length c0_0] 38 (0, 0)) (by (with_reducible repeat (first | refine blk_drewN ?_ _ | refine blk_drew ?_ | refine blk_alloc ?_ _)); exact BK239.out) hg (Kd.R_ne HO_5.out BK239.out (by decide))); have n2_ := Aside0.mk (blk_grown (g := gb251) (o := .cells #[.int .i64 ((rd_T44 (rd_L4 l0_0 (rd x5_1 x6_1)) x34_2).f0), .int .i64 ((rd_T44 (rd_L4 l0_0 (rd x5_1 x6_1)) x34_2).f1)] 44 (0, 0)) (by (with_reducible repeat (first | refine blk_drewN ?_ _ | refine blk_drew ?_ | refine blk_alloc ?_ _)); exact BK251.out) hg (Kd.R_ne HO_5.out BK251.out (by decide))); have n3_ := Aside0.mk (hb); have n4_ := Aside0.mk (ho); clear HO_4; clear BK239; clear BK251; clear HB; clear HO_5; have HO_4 := n0_; have BK239 := n1_; have BK251 := n2_; have HB := n3_; have HO256 := n4_; clear n0_ n1_ n2_ n3_ n4_; clear ho hb hg hat)))
                    (try simp only [← hl4_2])
                    go_roundg k2
                    case measure => have := HK1.out; have := HK2.out; omega
                    case rel => exact ⟨(y253), (y254), (wrap64 (x34_2 + 1)), (by first | rfl | (simp; done) | (simp [*]; done)), H', ⟨by have := HK1.out; have := HK2.out; omega⟩, ⟨by (try simp only [hl4_1]); (try simp only [hl4_2]); (with_reducible repeat (first | apply Kd.R_alloc | apply Kd.R_drewN | apply Kd.R_drew)); exact HO_4.out⟩, ⟨by (try simp only [hl4_1]); (try simp only [hl4_2]); (with_reducible repeat (first | apply Kd.R_alloc | apply Kd.R_drewN | apply Kd.R_drew)); exact HO256.out⟩, ⟨by (try simp only [hl4_1]); (try simp only [hl4_2]); (with_reducible repeat (first | refine blk_drewN ?_ _ | refine blk_drew ?_ | refine blk_alloc ?_ _)); exact BK239.out⟩, ⟨by repeat (first | (with_reducible first | exact HB.out | apply below_alloc | apply pw_below_drewN | apply below_drew1 | refine below_set ?_ GE239.out | refine below_set ?_ GE251.out) | exact HB.out)⟩⟩
                   ·rw [if_neg c35] at H
                    exact absurd H (by simp)
                 ·rw [if_neg c28] at H
                  exact absurd H (by simp)
                ·rw [if_neg c27] at H
                 exact absurd H (by simp)
               ·rw [if_neg c26] at H
                exact absurd H (by simp)
              ·rw [if_neg c25] at H
               exact absurd H (by simp)
             ·rw [if_neg c24] at H
              have c24b0 : decide (x34_2 < ((rd_L4 l0_0 (rd x5_1 x6_1)).length : Int)) = false := decide_eq_false c24
              clear c24
              have H' := Aside0.mk H
              clear H
              go_wp2
              repeat (go_quiet (fail); try go_wp2)
              (try simp only [← hl4_1, ← hl4_2])
              go_roundg k2
              case measure => have := HK1.out; have := HK2.out; omega
              case rel => exact ⟨(x4_2), (x5_2), (wrap64 (x6_1 + 1)), (by first | rfl | (simp; done) | (simp [*]; done)), H', ⟨by have := HK1.out; have := HK2.out; omega⟩, ⟨by (try simp only [hl4_1]); (try simp only [hl4_2]); (with_reducible repeat (first | apply Kd.R_alloc | apply Kd.R_drewN | apply Kd.R_drew)); exact HO_4.out⟩, ⟨by (try simp only [hl4_1]); (try simp only [hl4_2]); (with_reducible repeat (first | apply Kd.R_alloc | apply Kd.R_drewN | apply Kd.R_drew)); exact HO_5.out⟩, ⟨by (try simp only [hl4_1]); (try simp only [hl4_2]); (with_reducible repeat (first | refine blk_drewN ?_ _ | refine blk_drew ?_ | refine blk_alloc ?_ _)); exact BK239.out⟩, ⟨by repeat (first | (with_reducible first | exact HB.out | apply below_alloc | apply pw_below_drewN | apply below_drew1 | refine below_set ?_ GE239.out) | exact HB.out)⟩⟩
          ·rw [if_neg c21] at H
           exact absurd H (by simp)
         ·rw [if_neg c20] at H
          exact absurd H (by simp)
        ·rw [if_neg c19] at H
         exact absurd H (by simp)
       ·rw [if_neg c18] at H
        have c18b0 : decide (x6_1 < (x5_1.length : Int)) = false := decide_eq_false c18
        clear c18
        simp only [Option.some.injEq, Prod.mk.injEq] at H
        obtain ⟨rfl, rfl⟩ := H
        obtain ⟨Ao45, co45, eo45⟩ := Kd.R_slice HO_5.out
        subst eo45
        have hcz46_0 : wr.cell? ⟨gb239, 0, none⟩ = some (.slice A0_0 l0_0.length c0_0) := (blk_cell BK239.out 0).trans rfl
        have hfz46_0 := blk_frozen BK239.out 0
        go_wp2
        repeat (go_quiet (fail); try go_wp2)
        go_ret2
        exact ⟨by first | rfl | (simp [errW_none, errW_some] <;> rfl) | (simp [*, errW_none, errW_some] <;> rfl), by repeat (first | (with_reducible first | exact HB.out | apply below_alloc | apply pw_below_drewN | apply below_drew1 | refine below_set ?_ GE239.out) | exact HB.out)⟩
    ·rw [if_neg c6] at H
     exact absurd H (by simp)
   ·rw [if_neg c5] at H
    exact absurd H (by simp)
  ·rw [if_neg c4] at H
   exact absurd H (by simp)
 ·replace c3 := Bool.eq_false_iff.mpr c3
  subst c3
  have H1 : (some (false, 1)) = some (r1, r2) := by rw [if_neg (show ¬ (false = true) by decide)] at H; exact H
  clear H
  have H := H1
  clear H1
  simp only [Option.some.injEq, Prod.mk.injEq] at H
  obtain ⟨rfl, rfl⟩ := H
  go_enter Try.func23, Try.ntmps23
  go_wp2_with (first | ((with_reducible refine gate_dst (N := 1) rfl ?_); refine box_event ?hg (N := 1) ?hd (cs := #[.slice A0_0 l0_0.length c0_0]) (t := 38) ?hr ?_; (case hd => rfl); (case hg => rfl); (case hr => first | (go_simp; done) | (go_simp; rfl)); intro gb239 hg w47 hbox hb; have n0_ := Aside0.mk (below_step (by repeat (first | (with_reducible first | exact HB.out | apply below_alloc | apply pw_below_drewN | apply below_drew1) | exact HB.out)) hb); have n1_ := Aside0.mk (hbox); have n2_ := Aside0.mk ((by rw [hg]; exact (below_size (by repeat (first | (with_reducible first | exact HB.out | apply below_alloc | apply pw_below_drewN | apply below_drew1) | exact HB.out))) : w.heap.size ≤ gb239)); have n3_ := Aside0.mk ((by rw [hg]; exact (below_size (by repeat (first | (with_reducible first | exact HB.out | apply below_alloc | apply pw_below_drewN | apply below_drew1) | exact HB.out))) : w.heap.size ≤ gb239)); clear HB; have HB := n0_; have BK239 := n1_; have GW239 := n2_; have GE239 := n3_; clear n0_ n1_ n2_ n3_; clear hb hbox hg; have hcz48_0 : w47.cell? ⟨gb239, 0, none⟩ = some (.slice A0_0 l0_0.length c0_0) := (blk_cell BK239.out 0).trans rfl; have hfz48_0 := blk_frozen BK239.out 0) | (go_at_call 24; (with_reducible refine (maze_Valid.calls _ _ l0_0 false _ ?side1 ?side2 A2.out).mono ?_); (case side1 => repeat (first | exact (Kd.C_below HR0_0.out HB.out) | (with_reducible refine Kd.C_alloc ?_ _) | (with_reducible refine Kd.C_drewN ?_ _) | (with_reducible refine Kd.C_drew ?_))); (case side2 => exact HC0_0.out); rintro e w49 ⟨rfl, hb⟩; have n0_ := Aside0.mk (blk_below (g := gb239) (o := .cells #[.slice A0_0 l0_0.length c0_0] 38 (0, 0)) (by (with_reducible repeat (first | refine blk_drewN ?_ _ | refine blk_drew ?_ | refine blk_alloc ?_ _)); exact BK239.out) hb); have n1_ := Aside0.mk (below_step (by repeat (first | (with_reducible first | exact HB.out | apply below_alloc | apply pw_below_drewN | apply below_drew1 | refine below_set ?_ GE239.out) | exact HB.out)) hb); clear BK239; clear HB; have BK239 := n0_; have HB := n1_; clear n0_ n1_; (try clear hb); (try clear hb2); (try clear hk); (try clear hi)))
  repeat (go_quiet (first | ((with_reducible refine gate_dst (N := 1) rfl ?_); refine box_event ?hg (N := 1) ?hd (cs := #[.slice A0_0 l0_0.length c0_0]) (t := 38) ?hr ?_; (case hd => rfl); (case hg => rfl); (case hr => first | (go_simp; done) | (go_simp; rfl)); intro gb239 hg w47 hbox hb; have n0_ := Aside0.mk (below_step (by repeat (first | (with_reducible first | exact HB.out | apply below_alloc | apply pw_below_drewN | apply below_drew1) | exact HB.out)) hb); have n1_ := Aside0.mk (hbox); have n2_ := Aside0.mk ((by rw [hg]; exact (below_size (by repeat (first | (with_reducible first | exact HB.out | apply below_alloc | apply pw_below_drewN | apply below_drew1) | exact HB.out))) : w.heap.size ≤ gb239)); have n3_ := Aside0.mk ((by rw [hg]; exact (below_size (by repeat (first | (with_reducible first | exact HB.out | apply below_alloc | apply pw_below_drewN | apply below_drew1) | exact HB.out))) : w.heap.size ≤ gb239)); clear HB; have HB := n0_; have BK239 := n1_; have GW239 := n2_; have GE239 := n3_; clear n0_ n1_ n2_ n3_; clear hb hbox hg; have hcz48_0 : w47.cell? ⟨gb239, 0, none⟩ = some (.slice A0_0 l0_0.length c0_0) := (blk_cell BK239.out 0).trans rfl; have hfz48_0 := blk_frozen BK239.out 0) | (go_at_call 24; (with_reducible refine (maze_Valid.calls _ _ l0_0 false _ ?side1 ?side2 A2.out).mono ?_); (case side1 => repeat (first | exact (Kd.C_below HR0_0.out HB.out) | (with_reducible refine Kd.C_alloc ?_ _) | (with_reducible refine Kd.C_drewN ?_ _) | (with_reducible refine Kd.C_drew ?_))); (case side2 => exact HC0_0.out); rintro e w49 ⟨rfl, hb⟩; have n0_ := Aside0.mk (blk_below (g := gb239) (o := .cells #[.slice A0_0 l0_0.length c0_0] 38 (0, 0)) (by (with_reducible repeat (first | refine blk_drewN ?_ _ | refine blk_drew ?_ | refine blk_alloc ?_ _)); exact BK239.out) hb); have n1_ := Aside0.mk (below_step (by repeat (first | (with_reducible first | exact HB.out | apply below_alloc | apply pw_below_drewN | apply below_drew1 | refine below_set ?_ GE239.out) | exact HB.out)) hb); clear BK239; clear HB; have BK239 := n0_; have HB := n1_; clear n0_ n1_; (try clear hb); (try clear hb2); (try clear hk); (try clear hi))); try go_wp2_with (first | ((with_reducible refine gate_dst (N := 1) rfl ?_); refine box_event ?hg (N := 1) ?hd (cs := #[.slice A0_0 l0_0.length c0_0]) (t := 38) ?hr ?_; (case hd => rfl); (case hg => rfl); (case hr => first | (go_simp; done) | (go_simp; rfl)); intro gb239 hg w47 hbox hb; have n0_ := Aside0.mk (below_step (by repeat (first | (with_reducible first | exact HB.out | apply below_alloc | apply pw_below_drewN | apply below_drew1) | exact HB.out)) hb); have n1_ := Aside0.mk (hbox); have n2_ := Aside0.mk ((by rw [hg]; exact (below_size (by repeat (first | (with_reducible first | exact HB.out | apply below_alloc | apply pw_below_drewN | apply below_drew1) | exact HB.out))) : w.heap.size ≤ gb239)); have n3_ := Aside0.mk ((by rw [hg]; exact (below_size (by repeat (first | (with_reducible first | exact HB.out | apply below_alloc | apply pw_below_drewN | apply below_drew1) | exact HB.out))) : w.heap.size ≤ gb239)); clear HB; have HB := n0_; have BK239 := n1_; have GW239 := n2_; have GE239 := n3_; clear n0_ n1_ n2_ n3_; clear hb hbox hg; have hcz48_0 : w47.cell? ⟨gb239, 0, none⟩ = some (.slice A0_0 l0_0.length c0_0) := (blk_cell BK239.out 0).trans rfl; have hfz48_0 := blk_frozen BK239.out 0) | (go_at_call 24; (with_reducible refine (maze_Valid.calls _ _ l0_0 false _ ?side1 ?side2 A2.out).mono ?_); (case side1 => repeat (first | exact (Kd.C_below HR0_0.out HB.out) | (with_reducible refine Kd.C_alloc ?_ _) | (with_reducible refine Kd.C_drewN ?_ _) | (with_reducible refine Kd.C_drew ?_))); (case side2 => exact HC0_0.out); rintro e w49 ⟨rfl, hb⟩; have n0_ := Aside0.mk (blk_below (g := gb239) (o := .cells #[.slice A0_0 l0_0.length c0_0] 38 (0, 0)) (by (with_reducible repeat (first | refine blk_drewN ?_ _ | refine blk_drew ?_ | refine blk_alloc ?_ _)); exact BK239.out) hb); have n1_ := Aside0.mk (below_step (by repeat (first | (with_reducible first | exact HB.out | apply below_alloc | apply pw_below_drewN | apply below_drew1 | refine below_set ?_ GE239.out) | exact HB.out)) hb); clear BK239; clear HB; have BK239 := n0_; have HB := n1_; clear n0_ n1_; (try clear hb); (try clear hb2); (try clear hk); (try clear hi))))
  go_ret2
  exact ⟨by first | rfl | (simp [errW_none, errW_some] <;> rfl) | (simp [*, errW_none, errW_some] <;> rfl), by repeat (first | (with_reducible first | exact HB.out | apply below_alloc | apply pw_below_drewN | apply below_drew1 | refine below_set ?_ GE239.out) | exact HB.out)⟩

end Go.Proofs.Ytgbjbgdnldklpaa.Q
end
/-! Part QMazeWalk -/
section
-- Written by xprint.py, a program of this session's, over the kit's print. Lean checks it.
namespace Go.Proofs.Ytgbjbgdnldklpaa.Q
open Go.RowKit Go.Proofs.YtgbjbgdnldklpaaW.PrintWords Go.Proofs.YtgbjbgdnldklpaaW.PrintLast Go.Proofs.YtgbjbgdnldklpaaW.PrintMore
attribute [local go_sem] max2_int min2_int max_two min_two max_three min_three max_four min_four
set_option linter.unusedVariables false
set_option linter.unusedSimpArgs false

/-! ### maze_Walk: function 22 -/
def maze_Walk.l0 : Nat → Int → List Int → List Int → Int → Int → List (List (S44)) → Option (List Int × Int)
 | 0, _, _, _, _, _, _ => none
 | k + 1, x1, x8, x37, x38, x39, x198000 => if x39 < x38 then (if 0 ≤ x39 then (if x39 < (x37.length : Int) then (if 0 ≤ x1 then (if x1 < (x198000.length : Int) then (if 0 ≤ (rd x37 x39) then (if (rd x37 x39) < ((rd_L4 x198000 x1).length : Int) then (if x8.length < 17592186044416 then (maze_Walk.l0 k ((rd_T44 (rd_L4 x198000 x1) (rd x37 x39)).f0) (x8 ++ [(rd_T44 (rd_L4 x198000 x1) (rd x37 x39)).f0]) x37 x38 (wrap64 (x39 + 1)) x198000) else (none)) else (none)) else (none)) else (none)) else (none)) else (none)) else (none)) else (some (x8, 0))
def maze_Walk.f (k : Nat) (l0_0 : List (List (S44))) (a1 : Int) (l2 : List Int) : Option (List Int × Int) := (maze_Valid.f l0_0).bind fun t198 => (if t198 = true then (if a1 < 0 then (some (([] : List Int), 2)) else (if a1 ≥ (l0_0.length : Int) then (some (([] : List Int), 2)) else (if 0 < (l0_0.length : Int) then ((maze_fits.f l2 ((rd_L4 l0_0 0).length : Int)).bind fun t200 => (if t200 = true then (maze_Walk.l0 k a1 (([a1] : List Int)) l2 (l2.length : Int) 0 l0_0) else (some (([] : List Int), 2)))) else (none)))) else (some (([] : List Int), 1)))
theorem maze_Walk.mono_l : ∀ k, (∀ y0 y1 y2 y3 y4 y5, LeO (maze_Walk.l0 k y0 y1 y2 y3 y4 y5) (maze_Walk.l0 (k + 1) y0 y1 y2 y3 y4 y5))
 | 0 => fun _ _ _ _ _ _ r h => by simp [maze_Walk.l0] at h
 | k + 1 => by
  have ih0 := maze_Walk.mono_l k
  ·intro y0 y1 y2 y3 y4 y5
   unfold maze_Walk.l0
   repeat' first
   | (with_reducible exact ih0 _ _ _ _ _ _)
   | (with_reducible exact LeO.refl _)
   | (with_reducible exact LeO.none _)
   | (with_reducible refine LeO.ite ?_ ?_)
   | (with_reducible refine LeO.bind ?_ (fun _ => ?_))
   | exact ih0 _ _ _ _ _ _
   | exact LeO.none _
   | refine LeO.ite ?_ ?_
   | refine LeO.bind ?_ (fun _ => ?_)
theorem maze_Walk.mono : ∀ a0 a1 a2 k, LeO (maze_Walk.f k a0 a1 a2) (maze_Walk.f (k + 1) a0 a1 a2) := by
 intro a0 a1 a2 k
 have ih0 := maze_Walk.mono_l k
 unfold maze_Walk.f
 repeat' first
   | (with_reducible exact ih0 _ _ _ _ _ _)
   | (with_reducible exact LeO.refl _)
   | (with_reducible exact LeO.none _)
   | (with_reducible refine LeO.ite ?_ ?_)
   | (with_reducible refine LeO.bind ?_ (fun _ => ?_))
   | exact ih0 _ _ _ _ _ _
   | exact LeO.none _
   | refine LeO.ite ?_ ?_
   | refine LeO.bind ?_ (fun _ => ?_)
set_option maxHeartbeats 8000000 in
set_option maxRecDepth 100000 in
theorem maze_Walk.calls (k : Nat) (A0_0 : Option Addr) (c0_0 : Nat) (l0_0 : List (List (S44))) (a1 : Int) (A2 : Option Addr) (c2 : Nat) (l2 : List Int) (r1 : List Int) (r2 : Int) (w : World) (hr0_0 : Kd.C (Kd.slice 44 k44) w A0_0 l0_0.length l0_0) (hc0_0 : l0_0.length ≤ c0_0) (hr2 : Kd.C (Kd.int .i64) w A2 l2.length l2) (hc2 : l2.length ≤ c2) (h : maze_Walk.f k l0_0 a1 l2 = some (r1, r2)) :
  Calls Try.prog 22 #[.agg #[.slice A0_0 l0_0.length c0_0], .int .i64 a1, .slice A2 l2.length c2] w fun e w' => ∃ v0_ : Value, e = .returned (.tuple #[v0_, .int .i64 r2]) ∧ Kd.R (Kd.int .i64) 3 w' w.heap.size (fun _ => True) v0_ r1 ∧ Below w.heap.size w w' := by
 have hu38 := Try.underlying38
 have HR0_0 := Aside0.mk hr0_0
 have HC0_0 := Aside0.mk hc0_0
 clear hr0_0 hc0_0
 have HR2 := Aside0.mk hr2
 have HC2 := Aside0.mk hc2
 clear hr2 hc2
 have HB := Aside0.mk (Below.refl w.heap.size w)
 have H : ((maze_Valid.f l0_0).bind fun t198 => (if t198 = true then (if a1 < 0 then (some (([] : List Int), 2)) else (if a1 ≥ (l0_0.length : Int) then (some (([] : List Int), 2)) else (if 0 < (l0_0.length : Int) then ((maze_fits.f l2 ((rd_L4 l0_0 0).length : Int)).bind fun t200 => (if t200 = true then (maze_Walk.l0 k a1 (([a1] : List Int)) l2 (l2.length : Int) 0 l0_0) else (some (([] : List Int), 2)))) else (none)))) else (some (([] : List Int), 1)))) = some (r1, r2) := h
 clear h
 replace H := Option.bind_eq_some_iff.mp H
 obtain ⟨t198, A40, H⟩ := H
 replace H : (if t198 = true then (if a1 < 0 then (some (([] : List Int), 2)) else (if a1 ≥ (l0_0.length : Int) then (some (([] : List Int), 2)) else (if 0 < (l0_0.length : Int) then ((maze_fits.f l2 ((rd_L4 l0_0 0).length : Int)).bind fun t200 => (if t200 = true then (maze_Walk.l0 k a1 (([a1] : List Int)) l2 (l2.length : Int) 0 l0_0) else (some (([] : List Int), 2)))) else (none)))) else (some (([] : List Int), 1))) = some (r1, r2) := H
 have A4 := Aside0.mk A40
 clear A40
 by_cases c5 : t198 = true
 ·subst c5
  have H1 : (if a1 < 0 then (some (([] : List Int), 2)) else (if a1 ≥ (l0_0.length : Int) then (some (([] : List Int), 2)) else (if 0 < (l0_0.length : Int) then ((maze_fits.f l2 ((rd_L4 l0_0 0).length : Int)).bind fun t200 => (if t200 = true then (maze_Walk.l0 k a1 (([a1] : List Int)) l2 (l2.length : Int) 0 l0_0) else (some (([] : List Int), 2)))) else (none)))) = some (r1, r2) := by rw [if_pos rfl] at H; exact H
  clear H
  have H := H1
  clear H1
  by_cases c6 : a1 < 0
  ·rw [if_pos c6] at H
   have c6b0 : decide (a1 < 0) = true := decide_eq_true c6
   clear c6
   simp only [Option.some.injEq, Prod.mk.injEq] at H
   obtain ⟨rfl, rfl⟩ := H
   go_enter Try.func22, Try.ntmps22
   go_wp2_with (first | ((with_reducible refine gate_dst (N := 3) rfl ?_); (try (refine gate_guard (by rfl) ?_; dsimp only)); refine box_event ?hg (N := 3) ?hd (cs := #[.slice A0_0 l0_0.length c0_0]) (t := 38) ?hr ?_; (case hd => rfl); (case hg => rfl); (case hr => first | (go_simp; done) | (go_simp; rfl)); intro gb197 hg w7 hbox hb; have n0_ := Aside0.mk (below_step (by repeat (first | (with_reducible first | exact HB.out | apply below_alloc | apply pw_below_drewN | apply below_drew1) | exact HB.out)) hb); have n1_ := Aside0.mk (hbox); have n2_ := Aside0.mk ((by rw [hg]; exact (below_size (by repeat (first | (with_reducible first | exact HB.out | apply below_alloc | apply pw_below_drewN | apply below_drew1) | exact HB.out))) : w.heap.size ≤ gb197)); have n3_ := Aside0.mk ((by rw [hg]; exact (below_size (by repeat (first | (with_reducible first | exact HB.out | apply below_alloc | apply pw_below_drewN | apply below_drew1) | exact HB.out))) : w.heap.size ≤ gb197)); clear HB; have HB := n0_; have BK197 := n1_; have GW197 := n2_; have GE197 := n3_; clear n0_ n1_ n2_ n3_; clear hb hbox hg; have hcz8_0 : w7.cell? ⟨gb197, 0, none⟩ = some (.slice A0_0 l0_0.length c0_0) := (blk_cell BK197.out 0).trans rfl; have hfz8_0 := blk_frozen BK197.out 0) | ((with_reducible refine gate_callee (f := 24) rfl ?_); refine goesL_ (some 13) rfl rfl Try.func24 (by kernel_rfl) rfl #[.agg #[.slice A0_0 l0_0.length c0_0]] rfl (by (try simp only [List.map_toArray, List.map_cons, List.map_nil]); first | done | rfl | (simp only [List.length_drop, List.length_take]; rfl)) ?_; (with_reducible refine (maze_Valid.calls _ _ l0_0 true _ ?side1 ?side2 A4.out).mono ?_); (case side1 => repeat (first | exact (Kd.C_below HR0_0.out HB.out) | (with_reducible refine Kd.C_alloc ?_ _) | (with_reducible refine Kd.C_drewN ?_ _) | (with_reducible refine Kd.C_drew ?_))); (case side2 => exact HC0_0.out); rintro e w9 ⟨rfl, hb⟩; refine ⟨_, rfl, ?_⟩; have n0_ := Aside0.mk (blk_below (g := gb197) (o := .cells #[.slice A0_0 l0_0.length c0_0] 38 (0, 0)) (by (with_reducible repeat (first | refine blk_drewN ?_ _ | refine blk_drew ?_ | refine blk_alloc ?_ _)); exact BK197.out) hb); have n1_ := Aside0.mk (below_step (by repeat (first | (with_reducible first | exact HB.out | apply below_alloc | apply pw_below_drewN | apply below_drew1 | refine below_set ?_ GE197.out) | exact HB.out)) hb); clear BK197; clear HB; have BK197 := n0_; have HB := n1_; clear n0_ n1_; (try clear hb); (try clear hb2); (try clear hk); (try clear hi)))
   go_ret2
   exact ⟨_, by first | rfl | (simp [errW_none, errW_some] <;> rfl) | (simp [*, errW_none, errW_some] <;> rfl), by first | exact Kd.R_nil _ _ _ _ _ | exact Kd.N_nil _ _ _ _ _ | exact Kd.V_nil _ _ _ _ _ | exact Kd.Q_nil _ _ _ _ _ | exact Kd.S_nil _ _ _ _ _, by repeat (first | (with_reducible first | exact HB.out | apply below_alloc | apply pw_below_drewN | apply below_drew1 | refine below_set ?_ GE197.out) | exact HB.out)⟩
  ·rw [if_neg c6] at H
   have c6b0 : decide (a1 < 0) = false := decide_eq_false c6
   clear c6
   by_cases c10 : a1 ≥ (l0_0.length : Int)
   ·rw [if_pos c10] at H
    have c10b0 : decide ((l0_0.length : Int) ≤ a1) = true := decide_eq_true c10
    clear c10
    simp only [Option.some.injEq, Prod.mk.injEq] at H
    obtain ⟨rfl, rfl⟩ := H
    go_enter Try.func22, Try.ntmps22
    go_wp2_with (first | ((with_reducible refine gate_dst (N := 3) rfl ?_); (try (refine gate_guard (by rfl) ?_; dsimp only)); refine box_event ?hg (N := 3) ?hd (cs := #[.slice A0_0 l0_0.length c0_0]) (t := 38) ?hr ?_; (case hd => rfl); (case hg => rfl); (case hr => first | (go_simp; done) | (go_simp; rfl)); intro gb197 hg w11 hbox hb; have n0_ := Aside0.mk (below_step (by repeat (first | (with_reducible first | exact HB.out | apply below_alloc | apply pw_below_drewN | apply below_drew1) | exact HB.out)) hb); have n1_ := Aside0.mk (hbox); have n2_ := Aside0.mk ((by rw [hg]; exact (below_size (by repeat (first | (with_reducible first | exact HB.out | apply below_alloc | apply pw_below_drewN | apply below_drew1) | exact HB.out))) : w.heap.size ≤ gb197)); have n3_ := Aside0.mk ((by rw [hg]; exact (below_size (by repeat (first | (with_reducible first | exact HB.out | apply below_alloc | apply pw_below_drewN | apply below_drew1) | exact HB.out))) : w.heap.size ≤ gb197)); clear HB; have HB := n0_; have BK197 := n1_; have GW197 := n2_; have GE197 := n3_; clear n0_ n1_ n2_ n3_; clear hb hbox hg; have hcz12_0 : w11.cell? ⟨gb197, 0, none⟩ = some (.slice A0_0 l0_0.length c0_0) := (blk_cell BK197.out 0).trans rfl; have hfz12_0 := blk_frozen BK197.out 0) | ((with_reducible refine gate_callee (f := 24) rfl ?_); refine goesL_ (some 13) rfl rfl Try.func24 (by kernel_rfl) rfl #[.agg #[.slice A0_0 l0_0.length c0_0]] rfl (by (try simp only [List.map_toArray, List.map_cons, List.map_nil]); first | done | rfl | (simp only [List.length_drop, List.length_take]; rfl)) ?_; (with_reducible refine (maze_Valid.calls _ _ l0_0 true _ ?side1 ?side2 A4.out).mono ?_); (case side1 => repeat (first | exact (Kd.C_below HR0_0.out HB.out) | (with_reducible refine Kd.C_alloc ?_ _) | (with_reducible refine Kd.C_drewN ?_ _) | (with_reducible refine Kd.C_drew ?_))); (case side2 => exact HC0_0.out); rintro e w13 ⟨rfl, hb⟩; refine ⟨_, rfl, ?_⟩; have n0_ := Aside0.mk (blk_below (g := gb197) (o := .cells #[.slice A0_0 l0_0.length c0_0] 38 (0, 0)) (by (with_reducible repeat (first | refine blk_drewN ?_ _ | refine blk_drew ?_ | refine blk_alloc ?_ _)); exact BK197.out) hb); have n1_ := Aside0.mk (below_step (by repeat (first | (with_reducible first | exact HB.out | apply below_alloc | apply pw_below_drewN | apply below_drew1 | refine below_set ?_ GE197.out) | exact HB.out)) hb); clear BK197; clear HB; have BK197 := n0_; have HB := n1_; clear n0_ n1_; (try clear hb); (try clear hb2); (try clear hk); (try clear hi); have hcz14_0 : w13.cell? ⟨gb197, 0, none⟩ = some (.slice A0_0 l0_0.length c0_0) := (blk_cell BK197.out 0).trans rfl; have hfz14_0 := blk_frozen BK197.out 0))
    go_ret2
    exact ⟨_, by first | rfl | (simp [errW_none, errW_some] <;> rfl) | (simp [*, errW_none, errW_some] <;> rfl), by first | exact Kd.R_nil _ _ _ _ _ | exact Kd.N_nil _ _ _ _ _ | exact Kd.V_nil _ _ _ _ _ | exact Kd.Q_nil _ _ _ _ _ | exact Kd.S_nil _ _ _ _ _, by repeat (first | (with_reducible first | exact HB.out | apply below_alloc | apply pw_below_drewN | apply below_drew1 | refine below_set ?_ GE197.out) | exact HB.out)⟩
   ·rw [if_neg c10] at H
    have c10b0 : decide ((l0_0.length : Int) ≤ a1) = false := decide_eq_false c10
    clear c10
    by_cases c15 : 0 < (l0_0.length : Int)
    ·rw [if_pos c15] at H
     have c15b0 : decide (0 < (l0_0.length : Int)) = true := decide_eq_true c15
     have c15b1 : decide (0 < l0_0.length) = true := decide_eq_true (by omega)
     clear c15
     replace H := Option.bind_eq_some_iff.mp H
     obtain ⟨t200, A160, H⟩ := H
     replace H : (if t200 = true then (maze_Walk.l0 k a1 (([a1] : List Int)) l2 (l2.length : Int) 0 l0_0) else (some (([] : List Int), 2))) = some (r1, r2) := H
     have A16 := Aside0.mk A160
     clear A160
     by_cases c17 : t200 = true
     ·subst c17
      have H1 : (maze_Walk.l0 k a1 (([a1] : List Int)) l2 (l2.length : Int) 0 l0_0) = some (r1, r2) := by rw [if_pos rfl] at H; exact H
      clear H
      have H := H1
      clear H1
      obtain ⟨y201, hy201⟩ : ∃ y_ : List Int, y_ = (([a1] : List Int)) := ⟨_, rfl⟩
      replace H : (maze_Walk.l0 k a1 y201 l2 (l2.length : Int) 0 l0_0) = some (r1, r2) := by first | (rw [hy201]; with_reducible exact H) | (have H2_ := (Option.bind_some _ _).symm.trans H; rw [hy201]; with_reducible exact H2_) | (have H2_ := (Option.bind_some _ _).symm.trans H; with_reducible exact H2_) | with_reducible exact H | (rw [hy201]; exact H) | exact H
      have Ny201 := Aside0.mk hy201
      clear hy201
      have H' := Aside0.mk H
      clear H
      go_enter Try.func22, Try.ntmps22
      go_wp2_with (first | ((with_reducible refine gate_dst (N := 3) rfl ?_); (try (refine gate_guard (by rfl) ?_; dsimp only)); refine box_event ?hg (N := 3) ?hd (cs := #[.slice A0_0 l0_0.length c0_0]) (t := 38) ?hr ?_; (case hd => rfl); (case hg => rfl); (case hr => first | (go_simp; done) | (go_simp; rfl)); intro gb197 hg w18 hbox hb; have n0_ := Aside0.mk (below_step (by repeat (first | (with_reducible first | exact HB.out | apply below_alloc | apply pw_below_drewN | apply below_drew1) | exact HB.out)) hb); have n1_ := Aside0.mk (hbox); have n2_ := Aside0.mk ((by rw [hg]; exact (below_size (by repeat (first | (with_reducible first | exact HB.out | apply below_alloc | apply pw_below_drewN | apply below_drew1) | exact HB.out))) : w.heap.size ≤ gb197)); have n3_ := Aside0.mk ((by rw [hg]; exact (below_size (by repeat (first | (with_reducible first | exact HB.out | apply below_alloc | apply pw_below_drewN | apply below_drew1) | exact HB.out))) : w.heap.size ≤ gb197)); clear HB; have HB := n0_; have BK197 := n1_; have GW197 := n2_; have GE197 := n3_; clear n0_ n1_ n2_ n3_; clear hb hbox hg; have hcz19_0 : w18.cell? ⟨gb197, 0, none⟩ = some (.slice A0_0 l0_0.length c0_0) := (blk_cell BK197.out 0).trans rfl; have hfz19_0 := blk_frozen BK197.out 0) | ((with_reducible refine gate_callee (f := 24) rfl ?_); refine goesL_ (some 13) rfl rfl Try.func24 (by kernel_rfl) rfl #[.agg #[.slice A0_0 l0_0.length c0_0]] rfl (by (try simp only [List.map_toArray, List.map_cons, List.map_nil]); first | done | rfl | (simp only [List.length_drop, List.length_take]; rfl)) ?_; (with_reducible refine (maze_Valid.calls _ _ l0_0 true _ ?side1 ?side2 A4.out).mono ?_); (case side1 => repeat (first | exact (Kd.C_below HR0_0.out HB.out) | (with_reducible refine Kd.C_alloc ?_ _) | (with_reducible refine Kd.C_drewN ?_ _) | (with_reducible refine Kd.C_drew ?_))); (case side2 => exact HC0_0.out); rintro e w20 ⟨rfl, hb⟩; refine ⟨_, rfl, ?_⟩; have n0_ := Aside0.mk (blk_below (g := gb197) (o := .cells #[.slice A0_0 l0_0.length c0_0] 38 (0, 0)) (by (with_reducible repeat (first | refine blk_drewN ?_ _ | refine blk_drew ?_ | refine blk_alloc ?_ _)); exact BK197.out) hb); have n1_ := Aside0.mk (below_step (by repeat (first | (with_reducible first | exact HB.out | apply below_alloc | apply pw_below_drewN | apply below_drew1 | refine below_set ?_ GE197.out) | exact HB.out)) hb); clear BK197; clear HB; have BK197 := n0_; have HB := n1_; clear n0_ n1_; (try clear hb); (try clear hb2); (try clear hk); (try clear hi); have hcz21_0 : w20.cell? ⟨gb197, 0, none⟩ = some (.slice A0_0 l0_0.length c0_0) := (blk_cell BK197.out 0).trans rfl; have hfz21_0 := blk_frozen BK197.out 0; have p199 : 0 ≤ (0 : Int) := (by omega); have q199 : 0 < (l0_0.length : Int) := of_decide_eq_true (by first | (with_reducible assumption) | assumption); obtain ⟨ad199, A199_0, c199_0, e199, hx199_0, hl199_0, hi199_0⟩ := at_L4 HR0_0.out 0 p199 q199; cases e199; have qi199 : (0 < l0_0.length) = True := eq_true (by omega); (try rw [show ((0 : Int)).toNat = 0 from rfl] at hx199_0); (try rw [Addr.add_zero'] at hx199_0); replace hx199_0 := (HB.out.cell (World.block_lt_of_cell? w _ hx199_0)).trans hx199_0; have HR199_0 := Aside0.mk hi199_0; have HC199_0 := Aside0.mk hl199_0; clear hi199_0 hl199_0; replace p199 := eq_true p199; replace q199 := eq_true q199) | (go_at_call 41; (with_reducible refine (maze_fits.calls _ _ l2 ((rd_L4 l0_0 0).length : Int) true _ ?side1 ?side2 A16.out).mono ?_); (case side1 => repeat (first | exact (Kd.C_below HR2.out HB.out) | (with_reducible refine Kd.C_alloc ?_ _) | (with_reducible refine Kd.C_drewN ?_ _) | (with_reducible refine Kd.C_drew ?_))); (case side2 => exact HC2.out); rintro e w22 ⟨rfl, hb⟩; have n0_ := Aside0.mk (blk_below (g := gb197) (o := .cells #[.slice (some ad199) l0_0.length c0_0] 38 (0, 0)) (by (with_reducible repeat (first | refine blk_drewN ?_ _ | refine blk_drew ?_ | refine blk_alloc ?_ _)); exact BK197.out) hb); have n1_ := Aside0.mk (below_step (by repeat (first | (with_reducible first | exact HB.out | apply below_alloc | apply pw_below_drewN | apply below_drew1 | refine below_set ?_ GE197.out) | exact HB.out)) hb); clear BK197; clear HB; have BK197 := n0_; have HB := n1_; clear n0_ n1_; (try clear hb); (try clear hb2); (try clear hk); (try clear hi)) | ((with_reducible refine gate_dst (N := 36) rfl ?_); (try (refine gate_guard (by rfl) ?_; dsimp only)); refine Kd.R_lit (Kd.int .i64) _ 3 ?hg (N := 36) ?hd (xs := ([a1] : List Int)) (inner := [.int .i64 a1]) (ok := fun _ => True) (okp := fun _ => True) ?hr ?hp (fun _ hk => hk) trivial (Below.refl _ _) (Nat.le_refl _) (by simp) ?_; (case hd => rfl); (case hg => rfl); (case hr => first | (go_simp; done) | (go_simp; rfl)); (case hp => exact (Reps.one (show Kd.M (Kd.int .i64) _ _ _ a1 [.int .i64 a1] from rfl) (Reps.none _ _))); intro v202 w23 ho24 hb hg_ hnew_; clear hg_ hnew_; (first | rw [← Ny201.out] at ho24 | (simp only [Int.reduceToNat] at ho24; rw [← Ny201.out] at ho24)); have n0_ := Aside0.mk (Kd.R_lower ho24 (below_size (by repeat (first | (with_reducible first | exact HB.out | apply below_alloc | apply pw_below_drewN | apply below_drew1 | refine below_set ?_ GE197.out) | exact HB.out)))); have n1_ := Aside0.mk (blk_below (g := gb197) (o := .cells #[.slice (some ad199) l0_0.length c0_0] 38 (0, 0)) (by (with_reducible repeat (first | refine blk_drewN ?_ _ | refine blk_drew ?_ | refine blk_alloc ?_ _)); exact BK197.out) hb); have n2_ := Aside0.mk (below_step (by repeat (first | (with_reducible first | exact HB.out | apply below_alloc | apply pw_below_drewN | apply below_drew1 | refine below_set ?_ GE197.out) | exact HB.out)) hb); clear BK197; clear HB; have HO203 := n0_; have BK197 := n1_; have HB := n2_; clear n0_ n1_ n2_; clear hb ho24))
      go_loopg [1, 8, 39] k (fun kq v1 v8 v39 w' => ∃ (x1_1 : Int) (x8_1 : List Int) (x39_1 : Int), v1 = .int .i64 x1_1 ∧ v39 = .int .i64 x39_1 ∧ Aside0 (maze_Walk.l0 kq x1_1 x8_1 l2 (l2.length : Int) x39_1 l0_0 = some (r1, r2)) ∧ Aside0 (kq ≤ k) ∧ Aside0 (Kd.R (Kd.int .i64) 3 w' w.heap.size (fun _ => True) v8 x8_1) ∧ Aside0 (w'.heap[gb197]? = some (.cells #[(.slice (some ad199) l0_0.length c0_0)] 38 (0, 0))) ∧ Aside0 (Below w.heap.size w w'))
      case atStart => exact ⟨(a1), (y201), (0), (by first | rfl | (simp; done) | (simp [*]; done)), (by first | rfl | (simp; done) | (simp [*]; done)), H', ⟨Nat.le_refl _⟩, ⟨by (with_reducible repeat (first | apply Kd.R_alloc | apply Kd.R_drewN | apply Kd.R_drew)); exact HO203.out⟩, ⟨by (with_reducible repeat (first | refine blk_drewN ?_ _ | refine blk_drew ?_ | refine blk_alloc ?_ _)); exact BK197.out⟩, ⟨by repeat (first | (with_reducible first | exact HB.out | apply below_alloc | apply pw_below_drewN | apply below_drew1 | refine below_set ?_ GE197.out) | exact HB.out)⟩⟩
      case round =>
       clear H'
       try clear c1
       try clear p1
       try clear q1
       try clear hx1
       try clear qi1
       try clear c2
       try clear p2
       try clear c5
       try clear c6
       try clear c6b0
       try clear c10
       try clear c10b0
       try clear c15
       try clear c15b0
       try clear c15b1
       try clear c17
       try clear c19
       try clear p19
       try clear q19
       try clear hx19
       try clear qi19
       try clear c22
       try clear c24
       try clear hcz12_0
       try clear hcz14_0
       try clear hcz19_0
       try clear hcz21_0
       try clear hcz8_0
       try clear hfz12_0
       try clear hfz14_0
       try clear hfz19_0
       try clear hfz21_0
       try clear hfz8_0
       try clear hx199_0
       try clear p199
       try clear q199
       obtain ⟨x1_1, x8_1, x39_1, rfl, rfl, HA, HK1, HO_8, BK197, HB⟩ := hrel
       cases gk with
       | zero => exact absurd HA.out (by simp [maze_Walk.l0])
       | succ k1 =>
        have H := HA.out
        clear HA
        simp only [maze_Walk.l0] at H
        by_cases c25 : x39_1 < (l2.length : Int)
        ·rw [if_pos c25] at H
         have c25b0 : decide (x39_1 < (l2.length : Int)) = true := decide_eq_true c25
         clear c25
         by_cases c26 : 0 ≤ x39_1
         ·rw [if_pos c26] at H
          have c26b0 : decide (0 ≤ x39_1) = true := decide_eq_true c26
          clear c26
          by_cases c27 : x39_1 < (l2.length : Int)
          ·rw [if_pos c27] at H
           have c27b0 : decide (x39_1 < (l2.length : Int)) = true := decide_eq_true c27
           clear c27
           by_cases c28 : 0 ≤ x1_1
           ·rw [if_pos c28] at H
            have c28b0 : decide (0 ≤ x1_1) = true := decide_eq_true c28
            clear c28
            by_cases c29 : x1_1 < (l0_0.length : Int)
            ·rw [if_pos c29] at H
             have c29b0 : decide (x1_1 < (l0_0.length : Int)) = true := decide_eq_true c29
             clear c29
             by_cases c30 : 0 ≤ (rd l2 x39_1)
             ·rw [if_pos c30] at H
              have c30b0 : decide (0 ≤ (rd l2 x39_1)) = true := decide_eq_true c30
              clear c30
              by_cases c31 : (rd l2 x39_1) < ((rd_L4 l0_0 x1_1).length : Int)
              ·rw [if_pos c31] at H
               have c31b0 : decide ((rd l2 x39_1) < ((rd_L4 l0_0 x1_1).length : Int)) = true := decide_eq_true c31
               clear c31
               by_cases c32 : x8_1.length < 17592186044416
               ·rw [if_pos c32] at H
                have LMc32 := Aside0.mk c32
                clear c32
                obtain ⟨y207, hy207⟩ : ∃ y_ : List Int, y_ = (x8_1 ++ [(rd_T44 (rd_L4 l0_0 x1_1) (rd l2 x39_1)).f0]) := ⟨_, rfl⟩
                replace H : (maze_Walk.l0 k1 ((rd_T44 (rd_L4 l0_0 x1_1) (rd l2 x39_1)).f0) y207 l2 (l2.length : Int) (wrap64 (x39_1 + 1)) l0_0) = some (r1, r2) := by first | (rw [hy207]; with_reducible exact H) | (have H2_ := (Option.bind_some _ _).symm.trans H; rw [hy207]; with_reducible exact H2_) | (have H2_ := (Option.bind_some _ _).symm.trans H; with_reducible exact H2_) | with_reducible exact H | (rw [hy207]; exact H) | exact H
                have Ny207 := Aside0.mk hy207
                clear hy207
                have H' := Aside0.mk H
                clear H
                have p204 : 0 ≤ (x39_1 : Int) := of_decide_eq_true (by first | (with_reducible assumption) | assumption)
                have q204 : x39_1 < (l2.length : Int) := of_decide_eq_true (by first | (with_reducible assumption) | assumption)
                obtain ⟨ad204, e204, hx204_0⟩ := Kd.at_int HR2.out x39_1 p204 q204
                cases e204
                replace hx204_0 := (HB.out.cell (World.block_lt_of_cell? w _ hx204_0)).trans hx204_0
                replace p204 := eq_true p204
                replace q204 := eq_true q204
                have hcz33_0 : wr.cell? ⟨gb197, 0, none⟩ = some (.slice (some ad199) l0_0.length c0_0) := (blk_cell BK197.out 0).trans rfl
                have hfz33_0 := blk_frozen BK197.out 0
                have p205 : 0 ≤ (x1_1 : Int) := of_decide_eq_true (by first | (with_reducible assumption) | assumption)
                have q205 : x1_1 < (l0_0.length : Int) := of_decide_eq_true (by first | (with_reducible assumption) | assumption)
                obtain ⟨ad205, A205_0, c205_0, e205, hx205_0, hl205_0, hi205_0⟩ := at_L4 HR0_0.out x1_1 p205 q205
                obtain rfl : ad199 = ad205 := (by injection e205)
                replace hx205_0 := (HB.out.cell (World.block_lt_of_cell? w _ hx205_0)).trans hx205_0
                have HR205_0 := Aside0.mk hi205_0
                have HC205_0 := Aside0.mk hl205_0
                clear hi205_0 hl205_0
                replace p205 := eq_true p205
                replace q205 := eq_true q205
                have p206 : 0 ≤ ((rd l2 x39_1) : Int) := of_decide_eq_true (by first | (with_reducible assumption) | assumption)
                have q206 : (rd l2 x39_1) < ((rd_L4 l0_0 x1_1).length : Int) := of_decide_eq_true (by first | (with_reducible assumption) | assumption)
                obtain ⟨ad206, e206, hx206_0, hx206_1⟩ := at_T44 HR205_0.out (rd l2 x39_1) p206 q206
                cases e206
                replace hx206_0 := (HB.out.cell (World.block_lt_of_cell? w _ hx206_0)).trans hx206_0
                replace hx206_1 := (HB.out.cell (World.block_lt_of_cell? w _ hx206_1)).trans hx206_1
                replace p206 := eq_true p206
                replace q206 := eq_true q206
                go_wp2_with (first | ((with_reducible refine gate_builtin (b := .append) (xs := #[.tmp 52, .tmp 54]) rfl ?_); (try (refine gate_guard (by rfl) ?_; dsimp only)); at_builtin; refine Kd.R_append (Kd.int .i64) (w0 := w) w.heap.size rfl (.tmp 52) (.tmp 54) 30 3 (.int .i64 0) 8 rfl Try.underlying30 info3 rfl (by decide) (by omega) u8 x8_1 ((rd_T44 (rd_L4 l0_0 x1_1) (rd l2 x39_1)).f0) [.int .i64 ((rd_T44 (rd_L4 l0_0 x1_1) (rd l2 x39_1)).f0)] (fun _ => True) (fun _ => False) rfl rfl ?aP (fun _ hk => hk.elim) ?aF ?aO ?aB ?aS ?aL ?_; (case aP => exact rfl); (case aB => exact (by repeat (first | (with_reducible first | exact HB.out | apply below_alloc | apply pw_below_drewN | apply below_drew1 | refine below_set ?_ GE197.out) | exact HB.out))); (case aF => exact (fun _ _ => trivial)); (case aO => exact (by (with_reducible repeat (first | apply Kd.R_alloc | apply Kd.R_drewN | apply Kd.R_drew)); exact HO_8.out)); (case aS => exact (below_size (by repeat (first | (with_reducible first | exact HB.out | apply below_alloc | apply pw_below_drewN | apply below_drew1 | refine below_set ?_ GE197.out) | exact HB.out)))); (case aL => have := LMc32.out; omega); intro v208 w34 ho hb hg hat; rw [← Ny207.out] at ho; have n0_ := Aside0.mk (blk_grown (g := gb197) (o := .cells #[.slice (some ad199) l0_0.length c0_0] 38 (0, 0)) (by (with_reducible repeat (first | refine blk_drewN ?_ _ | refine blk_drew ?_ | refine blk_alloc ?_ _)); exact BK197.out) hg (Kd.R_ne HO_8.out BK197.out (by decide))); have n1_ := Aside0.mk (hb); have n2_ := Aside0.mk (ho); clear BK197; clear HB; clear HO_8; have BK197 := n0_; have HB := n1_; have HO209 := n2_; clear n0_ n1_ n2_; clear ho hb hg hat))
                go_roundg k1
                case measure => have := HK1.out; omega
                case rel => exact ⟨((rd_T44 (rd_L4 l0_0 x1_1) (rd l2 x39_1)).f0), (y207), (wrap64 (x39_1 + 1)), (by first | rfl | (simp; done) | (simp [*]; done)), (by first | rfl | (simp; done) | (simp [*]; done)), H', ⟨by have := HK1.out; omega⟩, ⟨by (with_reducible repeat (first | apply Kd.R_alloc | apply Kd.R_drewN | apply Kd.R_drew)); exact HO209.out⟩, ⟨by (with_reducible repeat (first | refine blk_drewN ?_ _ | refine blk_drew ?_ | refine blk_alloc ?_ _)); exact BK197.out⟩, ⟨by repeat (first | (with_reducible first | exact HB.out | apply below_alloc | apply pw_below_drewN | apply below_drew1 | refine below_set ?_ GE197.out) | exact HB.out)⟩⟩
               ·rw [if_neg c32] at H
                exact absurd H (by simp)
              ·rw [if_neg c31] at H
               exact absurd H (by simp)
             ·rw [if_neg c30] at H
              exact absurd H (by simp)
            ·rw [if_neg c29] at H
             exact absurd H (by simp)
           ·rw [if_neg c28] at H
            exact absurd H (by simp)
          ·rw [if_neg c27] at H
           exact absurd H (by simp)
         ·rw [if_neg c26] at H
          exact absurd H (by simp)
        ·rw [if_neg c25] at H
         have c25b0 : decide (x39_1 < (l2.length : Int)) = false := decide_eq_false c25
         clear c25
         simp only [Option.some.injEq, Prod.mk.injEq] at H
         obtain ⟨rfl, rfl⟩ := H
         go_wp2
         go_ret2
         exact ⟨_, by first | rfl | (simp [errW_none, errW_some] <;> rfl) | (simp [*, errW_none, errW_some] <;> rfl), by (with_reducible repeat (first | apply Kd.R_alloc | apply Kd.R_drewN | apply Kd.R_drew)); exact HO_8.out, by repeat (first | (with_reducible first | exact HB.out | apply below_alloc | apply pw_below_drewN | apply below_drew1 | refine below_set ?_ GE197.out) | exact HB.out)⟩
     ·replace c17 := Bool.eq_false_iff.mpr c17
      subst c17
      have H1 : (some (([] : List Int), 2)) = some (r1, r2) := by rw [if_neg (show ¬ (false = true) by decide)] at H; exact H
      clear H
      have H := H1
      clear H1
      simp only [Option.some.injEq, Prod.mk.injEq] at H
      obtain ⟨rfl, rfl⟩ := H
      go_enter Try.func22, Try.ntmps22
      go_wp2_with (first | ((with_reducible refine gate_dst (N := 3) rfl ?_); (try (refine gate_guard (by rfl) ?_; dsimp only)); refine box_event ?hg (N := 3) ?hd (cs := #[.slice A0_0 l0_0.length c0_0]) (t := 38) ?hr ?_; (case hd => rfl); (case hg => rfl); (case hr => first | (go_simp; done) | (go_simp; rfl)); intro gb197 hg w35 hbox hb; have n0_ := Aside0.mk (below_step (by repeat (first | (with_reducible first | exact HB.out | apply below_alloc | apply pw_below_drewN | apply below_drew1) | exact HB.out)) hb); have n1_ := Aside0.mk (hbox); have n2_ := Aside0.mk ((by rw [hg]; exact (below_size (by repeat (first | (with_reducible first | exact HB.out | apply below_alloc | apply pw_below_drewN | apply below_drew1) | exact HB.out))) : w.heap.size ≤ gb197)); have n3_ := Aside0.mk ((by rw [hg]; exact (below_size (by repeat (first | (with_reducible first | exact HB.out | apply below_alloc | apply pw_below_drewN | apply below_drew1) | exact HB.out))) : w.heap.size ≤ gb197)); clear HB; have HB := n0_; have BK197 := n1_; have GW197 := n2_; have GE197 := n3_; clear n0_ n1_ n2_ n3_; clear hb hbox hg; have hcz36_0 : w35.cell? ⟨gb197, 0, none⟩ = some (.slice A0_0 l0_0.length c0_0) := (blk_cell BK197.out 0).trans rfl; have hfz36_0 := blk_frozen BK197.out 0) | ((with_reducible refine gate_callee (f := 24) rfl ?_); refine goesL_ (some 13) rfl rfl Try.func24 (by kernel_rfl) rfl #[.agg #[.slice A0_0 l0_0.length c0_0]] rfl (by (try simp only [List.map_toArray, List.map_cons, List.map_nil]); first | done | rfl | (simp only [List.length_drop, List.length_take]; rfl)) ?_; (with_reducible refine (maze_Valid.calls _ _ l0_0 true _ ?side1 ?side2 A4.out).mono ?_); (case side1 => repeat (first | exact (Kd.C_below HR0_0.out HB.out) | (with_reducible refine Kd.C_alloc ?_ _) | (with_reducible refine Kd.C_drewN ?_ _) | (with_reducible refine Kd.C_drew ?_))); (case side2 => exact HC0_0.out); rintro e w37 ⟨rfl, hb⟩; refine ⟨_, rfl, ?_⟩; have n0_ := Aside0.mk (blk_below (g := gb197) (o := .cells #[.slice A0_0 l0_0.length c0_0] 38 (0, 0)) (by (with_reducible repeat (first | refine blk_drewN ?_ _ | refine blk_drew ?_ | refine blk_alloc ?_ _)); exact BK197.out) hb); have n1_ := Aside0.mk (below_step (by repeat (first | (with_reducible first | exact HB.out | apply below_alloc | apply pw_below_drewN | apply below_drew1 | refine below_set ?_ GE197.out) | exact HB.out)) hb); clear BK197; clear HB; have BK197 := n0_; have HB := n1_; clear n0_ n1_; (try clear hb); (try clear hb2); (try clear hk); (try clear hi); have hcz38_0 : w37.cell? ⟨gb197, 0, none⟩ = some (.slice A0_0 l0_0.length c0_0) := (blk_cell BK197.out 0).trans rfl; have hfz38_0 := blk_frozen BK197.out 0; have p199 : 0 ≤ (0 : Int) := (by omega); have q199 : 0 < (l0_0.length : Int) := of_decide_eq_true (by first | (with_reducible assumption) | assumption); obtain ⟨ad199, A199_0, c199_0, e199, hx199_0, hl199_0, hi199_0⟩ := at_L4 HR0_0.out 0 p199 q199; cases e199; have qi199 : (0 < l0_0.length) = True := eq_true (by omega); (try rw [show ((0 : Int)).toNat = 0 from rfl] at hx199_0); (try rw [Addr.add_zero'] at hx199_0); replace hx199_0 := (HB.out.cell (World.block_lt_of_cell? w _ hx199_0)).trans hx199_0; have HR199_0 := Aside0.mk hi199_0; have HC199_0 := Aside0.mk hl199_0; clear hi199_0 hl199_0; replace p199 := eq_true p199; replace q199 := eq_true q199) | (go_at_call 41; (with_reducible refine (maze_fits.calls _ _ l2 ((rd_L4 l0_0 0).length : Int) false _ ?side1 ?side2 A16.out).mono ?_); (case side1 => repeat (first | exact (Kd.C_below HR2.out HB.out) | (with_reducible refine Kd.C_alloc ?_ _) | (with_reducible refine Kd.C_drewN ?_ _) | (with_reducible refine Kd.C_drew ?_))); (case side2 => exact HC2.out); rintro e w39 ⟨rfl, hb⟩; have n0_ := Aside0.mk (blk_below (g := gb197) (o := .cells #[.slice (some ad199) l0_0.length c0_0] 38 (0, 0)) (by (with_reducible repeat (first | refine blk_drewN ?_ _ | refine blk_drew ?_ | refine blk_alloc ?_ _)); exact BK197.out) hb); have n1_ := Aside0.mk (below_step (by repeat (first | (with_reducible first | exact HB.out | apply below_alloc | apply pw_below_drewN | apply below_drew1 | refine below_set ?_ GE197.out) | exact HB.out)) hb); clear BK197; clear HB; have BK197 := n0_; have HB := n1_; clear n0_ n1_; (try clear hb); (try clear hb2); (try clear hk); (try clear hi)))
      go_ret2
      exact ⟨_, by first | rfl | (simp [errW_none, errW_some] <;> rfl) | (simp [*, errW_none, errW_some] <;> rfl), by first | exact Kd.R_nil _ _ _ _ _ | exact Kd.N_nil _ _ _ _ _ | exact Kd.V_nil _ _ _ _ _ | exact Kd.Q_nil _ _ _ _ _ | exact Kd.S_nil _ _ _ _ _, by repeat (first | (with_reducible first | exact HB.out | apply below_alloc | apply pw_below_drewN | apply below_drew1 | refine below_set ?_ GE197.out) | exact HB.out)⟩
    ·rw [if_neg c15] at H
     exact absurd H (by simp)
 ·replace c5 := Bool.eq_false_iff.mpr c5
  subst c5
  have H1 : (some (([] : List Int), 1)) = some (r1, r2) := by rw [if_neg (show ¬ (false = true) by decide)] at H; exact H
  clear H
  have H := H1
  clear H1
  simp only [Option.some.injEq, Prod.mk.injEq] at H
  obtain ⟨rfl, rfl⟩ := H
  go_enter Try.func22, Try.ntmps22
  go_wp2_with (first | ((with_reducible refine gate_dst (N := 3) rfl ?_); (try (refine gate_guard (by rfl) ?_; dsimp only)); refine box_event ?hg (N := 3) ?hd (cs := #[.slice A0_0 l0_0.length c0_0]) (t := 38) ?hr ?_; (case hd => rfl); (case hg => rfl); (case hr => first | (go_simp; done) | (go_simp; rfl)); intro gb197 hg w40 hbox hb; have n0_ := Aside0.mk (below_step (by repeat (first | (with_reducible first | exact HB.out | apply below_alloc | apply pw_below_drewN | apply below_drew1) | exact HB.out)) hb); have n1_ := Aside0.mk (hbox); have n2_ := Aside0.mk ((by rw [hg]; exact (below_size (by repeat (first | (with_reducible first | exact HB.out | apply below_alloc | apply pw_below_drewN | apply below_drew1) | exact HB.out))) : w.heap.size ≤ gb197)); have n3_ := Aside0.mk ((by rw [hg]; exact (below_size (by repeat (first | (with_reducible first | exact HB.out | apply below_alloc | apply pw_below_drewN | apply below_drew1) | exact HB.out))) : w.heap.size ≤ gb197)); clear HB; have HB := n0_; have BK197 := n1_; have GW197 := n2_; have GE197 := n3_; clear n0_ n1_ n2_ n3_; clear hb hbox hg; have hcz41_0 : w40.cell? ⟨gb197, 0, none⟩ = some (.slice A0_0 l0_0.length c0_0) := (blk_cell BK197.out 0).trans rfl; have hfz41_0 := blk_frozen BK197.out 0) | ((with_reducible refine gate_callee (f := 24) rfl ?_); refine goesL_ (some 13) rfl rfl Try.func24 (by kernel_rfl) rfl #[.agg #[.slice A0_0 l0_0.length c0_0]] rfl (by (try simp only [List.map_toArray, List.map_cons, List.map_nil]); first | done | rfl | (simp only [List.length_drop, List.length_take]; rfl)) ?_; (with_reducible refine (maze_Valid.calls _ _ l0_0 false _ ?side1 ?side2 A4.out).mono ?_); (case side1 => repeat (first | exact (Kd.C_below HR0_0.out HB.out) | (with_reducible refine Kd.C_alloc ?_ _) | (with_reducible refine Kd.C_drewN ?_ _) | (with_reducible refine Kd.C_drew ?_))); (case side2 => exact HC0_0.out); rintro e w42 ⟨rfl, hb⟩; refine ⟨_, rfl, ?_⟩; have n0_ := Aside0.mk (blk_below (g := gb197) (o := .cells #[.slice A0_0 l0_0.length c0_0] 38 (0, 0)) (by (with_reducible repeat (first | refine blk_drewN ?_ _ | refine blk_drew ?_ | refine blk_alloc ?_ _)); exact BK197.out) hb); have n1_ := Aside0.mk (below_step (by repeat (first | (with_reducible first | exact HB.out | apply below_alloc | apply pw_below_drewN | apply below_drew1 | refine below_set ?_ GE197.out) | exact HB.out)) hb); clear BK197; clear HB; have BK197 := n0_; have HB := n1_; clear n0_ n1_; (try clear hb); (try clear hb2); (try clear hk); (try clear hi)))
  go_ret2
  exact ⟨_, by first | rfl | (simp [errW_none, errW_some] <;> rfl) | (simp [*, errW_none, errW_some] <;> rfl), by first | exact Kd.R_nil _ _ _ _ _ | exact Kd.N_nil _ _ _ _ _ | exact Kd.V_nil _ _ _ _ _ | exact Kd.Q_nil _ _ _ _ _ | exact Kd.S_nil _ _ _ _ _, by repeat (first | (with_reducible first | exact HB.out | apply below_alloc | apply pw_below_drewN | apply below_drew1 | refine below_set ?_ GE197.out) | exact HB.out)⟩

end Go.Proofs.Ytgbjbgdnldklpaa.Q
end
/-! Part QRef10Connected -/
section
-- Written by xprint.py, a program of this session's, over the kit's print. Lean checks it.
namespace Go.Proofs.Ytgbjbgdnldklpaa.Q
open Go.RowKit Go.Proofs.YtgbjbgdnldklpaaW.PrintWords Go.Proofs.YtgbjbgdnldklpaaW.PrintLast Go.Proofs.YtgbjbgdnldklpaaW.PrintMore
attribute [local go_sem] max2_int min2_int max_two min_two max_three min_three max_four min_four
set_option linter.unusedVariables false
set_option linter.unusedSimpArgs false

/-! ### mizmazeref10_Connected: function 34 -/
mutual
def mizmazeref10_Connected.l0 : Nat → List Bool → Int → Int → List (List (S44)) → Option (Bool)
 | 0, _, _, _, _ => none
 | k + 1, x3, x4, x5, x115000 => if x5 < (x115000.length : Int) then (mizmazeref10_Connected.l1 k x3 x4 x5 0 x115000) else (some (x4 == (x115000.length : Int)))
def mizmazeref10_Connected.l1 : Nat → List Bool → Int → Int → Int → List (List (S44)) → Option (Bool)
 | 0, _, _, _, _, _ => none
 | k + 1, x3, x4, x5, x6, x115000 => if x6 < (x115000.length : Int) then (mizmazeref10_Connected.l2 k x3 x4 x5 x6 0 x115000) else (mizmazeref10_Connected.l0 k x3 x4 (wrap64 (x5 + 1)) x115000)
def mizmazeref10_Connected.l2 : Nat → List Bool → Int → Int → Int → Int → List (List (S44)) → Option (Bool)
 | 0, _, _, _, _, _, _ => none
 | k + 1, x3, x4, x5, x6, x7, x115000 => if 0 ≤ x6 then (if x6 < (x115000.length : Int) then (if x7 < ((rd_L4 x115000 x6).length : Int) then (if x6 < (x3.length : Int) then (mizmazeref10_Connected.j3 k x3 x4 x5 x6 x7 (rdOf false x3 x6) x115000) else (none)) else (mizmazeref10_Connected.j3 k x3 x4 x5 x6 x7 false x115000)) else (none)) else (none)
def mizmazeref10_Connected.j3 : Nat → List Bool → Int → Int → Int → Int → Bool → List (List (S44)) → Option (Bool)
 | 0, _, _, _, _, _, _, _ => none
 | k + 1, x3, x4, x5, x6, x7, x42, x115000 => if x42 = true then (if 0 ≤ x6 then (if x6 < (x115000.length : Int) then (if 0 ≤ x7 then (if x7 < ((rd_L4 x115000 x6).length : Int) then (if 0 ≤ ((rd_T44 (rd_L4 x115000 x6) x7).f0) then (if ((rd_T44 (rd_L4 x115000 x6) x7).f0) < (x3.length : Int) then (if (rdOf false x3 ((rd_T44 (rd_L4 x115000 x6) x7).f0) = true) then (mizmazeref10_Connected.l2 k x3 x4 x5 x6 (wrap64 (x7 + 1)) x115000) else (mizmazeref10_Connected.l2 k (x3.set (((rd_T44 (rd_L4 x115000 x6) x7).f0) : Int).toNat true) (wrap64 (x4 + 1)) x5 x6 (wrap64 (x7 + 1)) x115000)) else (none)) else (none)) else (none)) else (none)) else (none)) else (none)) else (mizmazeref10_Connected.l1 k x3 x4 x5 (wrap64 (x6 + 1)) x115000)
end
def mizmazeref10_Connected.f (k : Nat) (l0_0 : List (List (S44))) : Option (Bool) := if 0 ≤ (l0_0.length : Int) then (if ((l0_0.length : Int) : Int).toNat ≤ 281474976710656 then ((some (List.replicate ((l0_0.length : Int) : Int).toNat false : List Bool)).bind fun y115 => (if 0 < (y115.length : Int) then (mizmazeref10_Connected.l0 k (y115.set (0 : Int).toNat true) 1 0 l0_0) else (none))) else (none)) else (none)
theorem mizmazeref10_Connected.mono_l : ∀ k, (∀ y0 y1 y2 y3, LeO (mizmazeref10_Connected.l0 k y0 y1 y2 y3) (mizmazeref10_Connected.l0 (k + 1) y0 y1 y2 y3)) ∧ (∀ y0 y1 y2 y3 y4, LeO (mizmazeref10_Connected.l1 k y0 y1 y2 y3 y4) (mizmazeref10_Connected.l1 (k + 1) y0 y1 y2 y3 y4)) ∧ (∀ y0 y1 y2 y3 y4 y5, LeO (mizmazeref10_Connected.l2 k y0 y1 y2 y3 y4 y5) (mizmazeref10_Connected.l2 (k + 1) y0 y1 y2 y3 y4 y5)) ∧ (∀ y0 y1 y2 y3 y4 y5 y6, LeO (mizmazeref10_Connected.j3 k y0 y1 y2 y3 y4 y5 y6) (mizmazeref10_Connected.j3 (k + 1) y0 y1 y2 y3 y4 y5 y6))
 | 0 => ⟨fun _ _ _ _ r h => by simp [mizmazeref10_Connected.l0] at h, fun _ _ _ _ _ r h => by simp [mizmazeref10_Connected.l1] at h, fun _ _ _ _ _ _ r h => by simp [mizmazeref10_Connected.l2] at h, fun _ _ _ _ _ _ _ r h => by simp [mizmazeref10_Connected.j3] at h⟩
 | k + 1 => by
  obtain ⟨ih0, ih1, ih2, ih3⟩ := mizmazeref10_Connected.mono_l k
  refine ⟨?_, ?_, ?_, ?_⟩
  ·intro y0 y1 y2 y3
   unfold mizmazeref10_Connected.l0
   repeat' first
   | (with_reducible exact ih0 _ _ _ _)
   | (with_reducible exact ih1 _ _ _ _ _)
   | (with_reducible exact ih2 _ _ _ _ _ _)
   | (with_reducible exact ih3 _ _ _ _ _ _ _)
   | (with_reducible exact LeO.refl _)
   | (with_reducible exact LeO.none _)
   | (with_reducible refine LeO.ite ?_ ?_)
   | (with_reducible refine LeO.bind ?_ (fun _ => ?_))
   | exact ih0 _ _ _ _
   | exact ih1 _ _ _ _ _
   | exact ih2 _ _ _ _ _ _
   | exact ih3 _ _ _ _ _ _ _
   | exact LeO.none _
   | refine LeO.ite ?_ ?_
   | refine LeO.bind ?_ (fun _ => ?_)
  ·intro y0 y1 y2 y3 y4
   unfold mizmazeref10_Connected.l1
   repeat' first
   | (with_reducible exact ih0 _ _ _ _)
   | (with_reducible exact ih1 _ _ _ _ _)
   | (with_reducible exact ih2 _ _ _ _ _ _)
   | (with_reducible exact ih3 _ _ _ _ _ _ _)
   | (with_reducible exact LeO.refl _)
   | (with_reducible exact LeO.none _)
   | (with_reducible refine LeO.ite ?_ ?_)
   | (with_reducible refine LeO.bind ?_ (fun _ => ?_))
   | exact ih0 _ _ _ _
   | exact ih1 _ _ _ _ _
   | exact ih2 _ _ _ _ _ _
   | exact ih3 _ _ _ _ _ _ _
   | exact LeO.none _
   | refine LeO.ite ?_ ?_
   | refine LeO.bind ?_ (fun _ => ?_)
  ·intro y0 y1 y2 y3 y4 y5
   unfold mizmazeref10_Connected.l2
   repeat' first
   | (with_reducible exact ih0 _ _ _ _)
   | (with_reducible exact ih1 _ _ _ _ _)
   | (with_reducible exact ih2 _ _ _ _ _ _)
   | (with_reducible exact ih3 _ _ _ _ _ _ _)
   | (with_reducible exact LeO.refl _)
   | (with_reducible exact LeO.none _)
   | (with_reducible refine LeO.ite ?_ ?_)
   | (with_reducible refine LeO.bind ?_ (fun _ => ?_))
   | exact ih0 _ _ _ _
   | exact ih1 _ _ _ _ _
   | exact ih2 _ _ _ _ _ _
   | exact ih3 _ _ _ _ _ _ _
   | exact LeO.none _
   | refine LeO.ite ?_ ?_
   | refine LeO.bind ?_ (fun _ => ?_)
  ·intro y0 y1 y2 y3 y4 y5 y6
   unfold mizmazeref10_Connected.j3
   repeat' first
   | (with_reducible exact ih0 _ _ _ _)
   | (with_reducible exact ih1 _ _ _ _ _)
   | (with_reducible exact ih2 _ _ _ _ _ _)
   | (with_reducible exact ih3 _ _ _ _ _ _ _)
   | (with_reducible exact LeO.refl _)
   | (with_reducible exact LeO.none _)
   | (with_reducible refine LeO.ite ?_ ?_)
   | (with_reducible refine LeO.bind ?_ (fun _ => ?_))
   | exact ih0 _ _ _ _
   | exact ih1 _ _ _ _ _
   | exact ih2 _ _ _ _ _ _
   | exact ih3 _ _ _ _ _ _ _
   | exact LeO.none _
   | refine LeO.ite ?_ ?_
   | refine LeO.bind ?_ (fun _ => ?_)
theorem mizmazeref10_Connected.mono : ∀ a0 k, LeO (mizmazeref10_Connected.f k a0) (mizmazeref10_Connected.f (k + 1) a0) := by
 intro a0 k
 obtain ⟨ih0, ih1, ih2, ih3⟩ := mizmazeref10_Connected.mono_l k
 unfold mizmazeref10_Connected.f
 repeat' first
   | (with_reducible exact ih0 _ _ _ _)
   | (with_reducible exact ih1 _ _ _ _ _)
   | (with_reducible exact ih2 _ _ _ _ _ _)
   | (with_reducible exact ih3 _ _ _ _ _ _ _)
   | (with_reducible exact LeO.refl _)
   | (with_reducible exact LeO.none _)
   | (with_reducible refine LeO.ite ?_ ?_)
   | (with_reducible refine LeO.bind ?_ (fun _ => ?_))
   | exact ih0 _ _ _ _
   | exact ih1 _ _ _ _ _
   | exact ih2 _ _ _ _ _ _
   | exact ih3 _ _ _ _ _ _ _
   | exact LeO.none _
   | refine LeO.ite ?_ ?_
   | refine LeO.bind ?_ (fun _ => ?_)
set_option maxHeartbeats 8000000 in
set_option maxRecDepth 100000 in
theorem mizmazeref10_Connected.calls (k : Nat) (A0_0 : Option Addr) (c0_0 : Nat) (l0_0 : List (List (S44))) (r : Bool) (w : World) (hr0_0 : Kd.C (Kd.slice 44 k44) w A0_0 l0_0.length l0_0) (hc0_0 : l0_0.length ≤ c0_0) (h : mizmazeref10_Connected.f k l0_0 = some r) :
  Calls Try.prog 34 #[.agg #[.slice A0_0 l0_0.length c0_0]] w fun e w' => e = .returned (.bool r) ∧ Below w.heap.size w w' := by
 have hu38 := Try.underlying38
 have HR0_0 := Aside0.mk hr0_0
 have HC0_0 := Aside0.mk hc0_0
 clear hr0_0 hc0_0
 have HB := Aside0.mk (Below.refl w.heap.size w)
 have H : (if 0 ≤ (l0_0.length : Int) then (if ((l0_0.length : Int) : Int).toNat ≤ 281474976710656 then ((some (List.replicate ((l0_0.length : Int) : Int).toNat false : List Bool)).bind fun y115 => (if 0 < (y115.length : Int) then (mizmazeref10_Connected.l0 k (y115.set (0 : Int).toNat true) 1 0 l0_0) else (none))) else (none)) else (none)) = some r := h
 clear h
 by_cases c2 : 0 ≤ (l0_0.length : Int)
 ·rw [if_pos c2] at H
  have c2b0 := eq_true c2
  have c2b1 : decide (0 ≤ (l0_0.length : Int)) = true := decide_eq_true c2
  clear c2
  by_cases c3 : ((l0_0.length : Int) : Int).toNat ≤ 281474976710656
  ·rw [if_pos c3] at H
   have c3b0 := eq_true c3
   have c3b1 : decide (((l0_0.length : Int) : Int).toNat ≤ 281474976710656) = true := decide_eq_true c3
   clear c3
   obtain ⟨y115, hy115⟩ : ∃ y_ : List Bool, y_ = (List.replicate ((l0_0.length : Int) : Int).toNat false) := ⟨_, rfl⟩
   replace H : (if 0 < (y115.length : Int) then (mizmazeref10_Connected.l0 k (y115.set (0 : Int).toNat true) 1 0 l0_0) else (none)) = some r := by first | (rw [hy115]; with_reducible exact H) | (have H2_ := (Option.bind_some _ _).symm.trans H; rw [hy115]; with_reducible exact H2_) | (have H2_ := (Option.bind_some _ _).symm.trans H; with_reducible exact H2_) | with_reducible exact H | (rw [hy115]; exact H) | exact H
   have Ny115 := Aside0.mk hy115
   clear hy115
   by_cases c4 : 0 < (y115.length : Int)
   ·rw [if_pos c4] at H
    have c4b0 : decide (0 < (y115.length : Int)) = true := decide_eq_true c4
    have c4b1 : decide (0 < y115.length) = true := decide_eq_true (by omega)
    clear c4
    obtain ⟨y118, hy118⟩ : ∃ y_ : List Bool, y_ = (y115.set (0 : Int).toNat true) := ⟨_, rfl⟩
    replace H : (mizmazeref10_Connected.l0 k y118 1 0 l0_0) = some r := by first | (rw [hy118]; with_reducible exact H) | (have H2_ := (Option.bind_some _ _).symm.trans H; rw [hy118]; with_reducible exact H2_) | (have H2_ := (Option.bind_some _ _).symm.trans H; with_reducible exact H2_) | with_reducible exact H | (rw [hy118]; exact H) | exact H
    have Ny118 := Aside0.mk hy118
    clear hy118
    have H' := Aside0.mk H
    clear H
    go_enter Try.func34, Try.ntmps34
    go_wp2_with (first | ((with_reducible refine gate_dst (N := 1) rfl ?_); refine box_event ?hg (N := 1) ?hd (cs := #[.slice A0_0 l0_0.length c0_0]) (t := 38) ?hr ?_; (case hd => rfl); (case hg => rfl); (case hr => first | (go_simp; done) | (go_simp; rfl)); intro gb114 hg w6 hbox hb; have n0_ := Aside0.mk (below_step (by repeat (first | (with_reducible first | exact HB.out | apply below_alloc | apply pw_below_drewN | apply below_drew1) | exact HB.out)) hb); have n1_ := Aside0.mk (hbox); have n2_ := Aside0.mk ((by rw [hg]; exact (below_size (by repeat (first | (with_reducible first | exact HB.out | apply below_alloc | apply pw_below_drewN | apply below_drew1) | exact HB.out))) : w.heap.size ≤ gb114)); have n3_ := Aside0.mk ((by rw [hg]; exact (below_size (by repeat (first | (with_reducible first | exact HB.out | apply below_alloc | apply pw_below_drewN | apply below_drew1) | exact HB.out))) : w.heap.size ≤ gb114)); clear HB; have HB := n0_; have BK114 := n1_; have GW114 := n2_; have GE114 := n3_; clear n0_ n1_ n2_ n3_; clear hb hbox hg; have hcz7_0 : w6.cell? ⟨gb114, 0, none⟩ = some (.slice A0_0 l0_0.length c0_0) := (blk_cell BK114.out 0).trans rfl; have hfz7_0 := blk_frozen BK114.out 0) | ((with_reducible refine gate_dst (N := 12) rfl ?_); refine Kd.R_make Kd.bool _ 4 rfl (N := 12) rfl 73 _ _ rfl (l0_0.length : Int) rfl rfl Try.underlying73 (.bool false) 1 info4 rfl (by decide) (by omega) false (ok := fun _ => True) (okp := fun _ => True) rfl (fun _ hk => hk) trivial (of_decide_eq_true (by first | (with_reducible assumption) | assumption)) (Nat.le_trans (Nat.mul_le_mul_right _ (of_decide_eq_true (by first | (with_reducible assumption) | assumption) : (l0_0.length : Int).toNat ≤ 281474976710656)) (by omega)) (Below.refl _ _) (Nat.le_refl _) ?_; intro v116 w8 ho9 hb hg_ hnew_; clear hg_ hnew_; (first | rw [← Ny115.out] at ho9 | (simp only [Int.reduceToNat] at ho9; rw [← Ny115.out] at ho9)); have n0_ := Aside0.mk (Kd.R_lower ho9 (below_size (by repeat (first | (with_reducible first | exact HB.out | apply below_alloc | apply pw_below_drewN | apply below_drew1 | refine below_set ?_ GE114.out) | exact HB.out)))); have n1_ := Aside0.mk (blk_below (g := gb114) (o := .cells #[.slice A0_0 l0_0.length c0_0] 38 (0, 0)) (by (with_reducible repeat (first | refine blk_drewN ?_ _ | refine blk_drew ?_ | refine blk_alloc ?_ _)); exact BK114.out) hb); have n2_ := Aside0.mk (below_step (by repeat (first | (with_reducible first | exact HB.out | apply below_alloc | apply pw_below_drewN | apply below_drew1 | refine below_set ?_ GE114.out) | exact HB.out)) hb); clear BK114; clear HB; have HO117 := n0_; have BK114 := n1_; have HB := n2_; clear n0_ n1_ n2_; clear hb ho9; have p5 : 0 ≤ (0 : Int) := (by omega); have q5 : (0 : Int) < ((y115.length : Int) : Int) := of_decide_eq_true (by first | (with_reducible assumption) | assumption); have qi5 : (0 < y115.length) = True := eq_true (by omega); obtain ⟨go5, co5, eo5, gb5, gl5, cl5, HG5⟩ := Kd.R_form HO117.out (by omega); (first | cases eo5 | (injection eo5 with ea_ en_ ec_; (first | subst ea_ | (injection ea_ with ea_; subst ea_)); subst ec_; clear en_)); have GB5 := Aside0.mk gb5; have GG5 := Aside0.mk HG5; clear gb5 gl5 HG5; obtain ⟨hx5_0, hf5_0⟩ := Kd.R_celln false HO117.out (0 : Int) p5 q5; (try rw [show ((0 : Int)).toNat = 0 from rfl] at hx5_0); (try simp only [Nat.reduceMul, Nat.zero_mul, Nat.zero_add, Nat.reduceAdd] at hx5_0); (try rw [show ((0 : Int)).toNat = 0 from rfl] at hf5_0); (try simp only [Nat.reduceMul, Nat.zero_mul, Nat.zero_add, Nat.reduceAdd] at hf5_0); replace p5 := eq_true p5; replace q5 := eq_true q5; obtain ⟨hy10_, hz10_⟩ := Kd.R_celln false HO117.out (0 : Int) (by omega) (of_decide_eq_true (by first | (with_reducible assumption) | assumption)); (try simp only [Int.reduceToNat, Int.toNat_zero, Int.toNat_ofNat, Nat.reduceMul, Nat.zero_mul, Nat.zero_add] at hy10_ hz10_); (try rw [show ((0 : Int)).toNat = 0 from rfl] at hy10_); (try rw [show ((0 : Int)).toNat = 0 from rfl] at hz10_); have HP10 := Kd.R_putg HO117.out (0 : Int) true) | ((with_reducible refine gate_store (t := 4) (p := 14) rfl ?_); refine store_event (t := 4) (p := 14) (v := ?vo_w11) (w1 := (w8.setCell ⟨go5, (0 : Int).toNat, none⟩ (.bool true))) ?hg ?ho ?hn ?hr ?_; (case ho => rfl); (case hg => rfl); (case hn => rfl); (case hr => first | (go_simp; done) | (go_simp; rfl)); intro w11 hw; have hg : w8.grownBy w11 (some go5) := (by rw [hw]; exact HP10.2); have hp_ : Kd.R Kd.bool 4 w11 w.heap.size (fun _ => True) (.slice (some ⟨go5, 0, none⟩) y115.length co5) y118 := (by rw [hw, Ny118.out]; exact HP10.1); clear HP10; have n0_ := Aside0.mk (blk_grown (g := gb114) (o := .cells #[.slice A0_0 l0_0.length c0_0] 38 (0, 0)) (by (with_reducible repeat (first | refine blk_drewN ?_ _ | refine blk_drew ?_ | refine blk_alloc ?_ _)); exact BK114.out) hg (Kd.R_ne HO117.out BK114.out (by decide))); have n1_ := Aside0.mk (hp_); have n2_ := Aside0.mk ((by rw [hw]; exact below_set (HB.out) GB5.out : Below w.heap.size w w11)); clear BK114; clear HO117; clear HB; have BK114 := n0_; have HO117 := n1_; have HB := n2_; clear n0_ n1_ n2_; clear hg hw hp_))
    go_loopg [4, 5] k (fun kq v4 v5 w' => ∃ (x3_1 : List Bool) (x4_1 : Int) (x5_1 : Int), v4 = .int .i64 x4_1 ∧ v5 = .int .i64 x5_1 ∧ Aside0 (mizmazeref10_Connected.l0 kq x3_1 x4_1 x5_1 l0_0 = some r) ∧ Aside0 (kq ≤ k) ∧ Aside0 (Kd.R Kd.bool 4 w' w.heap.size (fun _ => True) (.slice (some ⟨go5, 0, none⟩) y115.length co5) x3_1) ∧ Aside0 (w'.heap[gb114]? = some (.cells #[(.slice A0_0 l0_0.length c0_0)] 38 (0, 0))) ∧ Aside0 (Below w.heap.size w w'))
    case atStart => exact ⟨(y118), (1), (0), (by first | rfl | (simp; done) | (simp [*]; done)), (by first | rfl | (simp; done) | (simp [*]; done)), H', ⟨Nat.le_refl _⟩, ⟨by (with_reducible repeat (first | apply Kd.R_alloc | apply Kd.R_drewN | apply Kd.R_drew)); exact HO117.out⟩, ⟨by (with_reducible repeat (first | refine blk_drewN ?_ _ | refine blk_drew ?_ | refine blk_alloc ?_ _)); exact BK114.out⟩, ⟨by repeat (first | (with_reducible first | exact HB.out | apply below_alloc | apply pw_below_drewN | apply below_drew1 | refine below_set ?_ GE114.out) | exact HB.out)⟩⟩
    case round =>
     clear H'
     try clear c2
     try clear c2b0
     try clear c2b1
     try clear p2
     try clear c3
     try clear c3b0
     try clear c3b1
     try clear c4
     try clear c4b0
     try clear c4b1
     try clear p5
     try clear q5
     try clear hx5
     try clear qi5
     try clear hf5
     try clear hcz7_0
     try clear hfz7_0
     try clear hx5_0
     try clear p5
     try clear q5
     obtain ⟨x3_1, x4_1, x5_1, rfl, rfl, HA, HK1, HO_3, BK114, HB⟩ := hrel
     have hl3_1 := (Kd.R_reads' HO_3.out).1
     rw [hl3_1] at HO_3
     (try simp only [hl3_1])
     (try simp only [hl3_1] at BK114)
     cases gk with
     | zero => exact absurd HA.out (by simp [mizmazeref10_Connected.l0])
     | succ k1 =>
      have H := HA.out
      clear HA
      simp only [mizmazeref10_Connected.l0] at H
      by_cases c12 : x5_1 < (l0_0.length : Int)
      ·rw [if_pos c12] at H
       have c12b0 : decide (x5_1 < (l0_0.length : Int)) = true := decide_eq_true c12
       clear c12
       have H' := Aside0.mk H
       clear H
       have hcz13_0 : wr.cell? ⟨gb114, 0, none⟩ = some (.slice A0_0 l0_0.length c0_0) := (blk_cell BK114.out 0).trans rfl
       have hfz13_0 := blk_frozen BK114.out 0
       go_wp2
       go_loopg [4, 6] k1 (fun kq v4 v6 w' => ∃ (x3_2 : List Bool) (x4_2 : Int) (x6_2 : Int), v4 = .int .i64 x4_2 ∧ v6 = .int .i64 x6_2 ∧ Aside0 (mizmazeref10_Connected.l1 kq x3_2 x4_2 x5_1 x6_2 l0_0 = some r) ∧ Aside0 (kq ≤ k1) ∧ Aside0 (Kd.R Kd.bool 4 w' w.heap.size (fun _ => True) (.slice (some ⟨go5, 0, none⟩) x3_1.length co5) x3_2) ∧ Aside0 (w'.heap[gb114]? = some (.cells #[(.slice A0_0 l0_0.length c0_0)] 38 (0, 0))) ∧ Aside0 (Below w.heap.size w w'))
       case atStart => exact ⟨(x3_1), (x4_1), (0), (by first | rfl | (simp; done) | (simp [*]; done)), (by first | rfl | (simp; done) | (simp [*]; done)), H', ⟨Nat.le_refl _⟩, ⟨by (try simp only [hl3_1]); (with_reducible repeat (first | apply Kd.R_alloc | apply Kd.R_drewN | apply Kd.R_drew)); exact HO_3.out⟩, ⟨by (try simp only [hl3_1]); (with_reducible repeat (first | refine blk_drewN ?_ _ | refine blk_drew ?_ | refine blk_alloc ?_ _)); exact BK114.out⟩, ⟨by repeat (first | (with_reducible first | exact HB.out | apply below_alloc | apply pw_below_drewN | apply below_drew1 | refine below_set ?_ GE114.out) | exact HB.out)⟩⟩
       case round =>
        clear H'
        try clear c1
        try clear c2
        try clear c2b0
        try clear c2b1
        try clear p2
        try clear c3
        try clear c3b0
        try clear c3b1
        try clear c4
        try clear c4b0
        try clear c4b1
        try clear p5
        try clear q5
        try clear hx5
        try clear qi5
        try clear hf5
        try clear c12
        try clear c12b0
        try clear hcz13_0
        try clear hcz7_0
        try clear hfz13_0
        try clear hfz7_0
        try clear hx5_0
        try clear p2
        try clear p5
        try clear q5
        obtain ⟨x3_2, x4_2, x6_2, rfl, rfl, HA, HK2, HO_3, BK114, HB⟩ := hrel
        have hl3_2 := (Kd.R_reads' HO_3.out).1
        rw [hl3_2] at HO_3
        (try simp only [hl3_2])
        (try simp only [hl3_2] at BK114)
        cases gk with
        | zero => exact absurd HA.out (by simp [mizmazeref10_Connected.l1])
        | succ k2 =>
         have H := HA.out
         clear HA
         simp only [mizmazeref10_Connected.l1] at H
         by_cases c14 : x6_2 < (l0_0.length : Int)
         ·rw [if_pos c14] at H
          have c14b0 : decide (x6_2 < (l0_0.length : Int)) = true := decide_eq_true c14
          clear c14
          have H' := Aside0.mk H
          clear H
          have hcz15_0 : wr.cell? ⟨gb114, 0, none⟩ = some (.slice A0_0 l0_0.length c0_0) := (blk_cell BK114.out 0).trans rfl
          have hfz15_0 := blk_frozen BK114.out 0
          go_wp2
          go_loopg [4, 7] k2 (fun kq v4 v7 w' => ∃ (x3_3 : List Bool) (x4_3 : Int) (x7_3 : Int), v4 = .int .i64 x4_3 ∧ v7 = .int .i64 x7_3 ∧ Aside0 (mizmazeref10_Connected.l2 kq x3_3 x4_3 x5_1 x6_2 x7_3 l0_0 = some r) ∧ Aside0 (kq ≤ k2) ∧ Aside0 (Kd.R Kd.bool 4 w' w.heap.size (fun _ => True) (.slice (some ⟨go5, 0, none⟩) x3_2.length co5) x3_3) ∧ Aside0 (w'.heap[gb114]? = some (.cells #[(.slice A0_0 l0_0.length c0_0)] 38 (0, 0))) ∧ Aside0 (Below w.heap.size w w'))
          case atStart => exact ⟨(x3_2), (x4_2), (0), (by first | rfl | (simp; done) | (simp [*]; done)), (by first | rfl | (simp; done) | (simp [*]; done)), H', ⟨Nat.le_refl _⟩, ⟨by (try simp only [hl3_1]); (try simp only [hl3_2]); (with_reducible repeat (first | apply Kd.R_alloc | apply Kd.R_drewN | apply Kd.R_drew)); exact HO_3.out⟩, ⟨by (try simp only [hl3_1]); (try simp only [hl3_2]); (with_reducible repeat (first | refine blk_drewN ?_ _ | refine blk_drew ?_ | refine blk_alloc ?_ _)); exact BK114.out⟩, ⟨by repeat (first | (with_reducible first | exact HB.out | apply below_alloc | apply pw_below_drewN | apply below_drew1 | refine below_set ?_ GE114.out) | exact HB.out)⟩⟩
          case round =>
           clear H'
           try clear c1
           try clear c2
           try clear c2b0
           try clear c2b1
           try clear p2
           try clear c3
           try clear c3b0
           try clear c3b1
           try clear c4
           try clear c4b0
           try clear c4b1
           try clear p5
           try clear q5
           try clear hx5
           try clear qi5
           try clear hf5
           try clear c12
           try clear c12b0
           try clear c14
           try clear c14b0
           try clear hcz13_0
           try clear hcz15_0
           try clear hcz7_0
           try clear hfz13_0
           try clear hfz15_0
           try clear hfz7_0
           try clear hx5_0
           try clear p2
           try clear p5
           try clear q5
           obtain ⟨x3_3, x4_3, x7_3, rfl, rfl, HA, HK3, HO_3, BK114, HB⟩ := hrel
           have hl3_3 := (Kd.R_reads' HO_3.out).1
           rw [hl3_3] at HO_3
           (try simp only [hl3_3])
           (try simp only [hl3_3] at BK114)
           cases gk with
           | zero => exact absurd HA.out (by simp [mizmazeref10_Connected.l2])
           | succ k3 =>
            have H := HA.out
            clear HA
            simp only [mizmazeref10_Connected.l2] at H
            have HC16 := Aside0.mk H
            clear H
            go_upto_region 11 with (fail)
            go_cut [42] (fun v42 wc => ∃ (kq : Nat) (x42_15 : Bool), v42 = .bool x42_15 ∧ Aside0 (mizmazeref10_Connected.j3 kq x3_3 x4_3 x5_1 x6_2 x7_3 x42_15 l0_0 = some r) ∧ Aside0 (kq ≤ k3) ∧ Aside0 (Kd.R Kd.bool 4 wc w.heap.size (fun _ => True) (.slice (some ⟨go5, 0, none⟩) x3_3.length co5) x3_3) ∧ Aside0 (wc.heap[gb114]? = some (.cells #[(.slice A0_0 l0_0.length c0_0)] 38 (0, 0))) ∧ Aside0 (Below w.heap.size w wc))
            case first =>
             have H := HC16.out
             clear HC16
             by_cases c17 : 0 ≤ x6_2
             ·rw [if_pos c17] at H
              have c17b0 : decide (0 ≤ x6_2) = true := decide_eq_true c17
              clear c17
              (first | rw [c17b0] | (simp only [i64_w, i32_w]; rw [c17b0]) | skip)
              by_cases c18 : x6_2 < (l0_0.length : Int)
              ·rw [if_pos c18] at H
               have c18b0 : decide (x6_2 < (l0_0.length : Int)) = true := decide_eq_true c18
               clear c18
               by_cases c19 : x7_3 < ((rd_L4 l0_0 x6_2).length : Int)
               ·rw [if_pos c19] at H
                have c19b0 : decide (x7_3 < ((rd_L4 l0_0 x6_2).length : Int)) = true := decide_eq_true c19
                clear c19
                by_cases c20 : x6_2 < (x3_3.length : Int)
                ·rw [if_pos c20] at H
                 have c20b0 : decide (x6_2 < (x3_3.length : Int)) = true := decide_eq_true c20
                 clear c20
                 have H' := Aside0.mk H
                 clear H
                 have hcz21_0 : wr.cell? ⟨gb114, 0, none⟩ = some (.slice A0_0 l0_0.length c0_0) := (blk_cell BK114.out 0).trans rfl
                 have hfz21_0 := blk_frozen BK114.out 0
                 have p119 : 0 ≤ (x6_2 : Int) := of_decide_eq_true (by first | (with_reducible assumption) | assumption)
                 have q119 : x6_2 < (l0_0.length : Int) := of_decide_eq_true (by first | (with_reducible assumption) | assumption)
                 obtain ⟨ad119, A119_0, c119_0, e119, hx119_0, hl119_0, hi119_0⟩ := at_L4 HR0_0.out x6_2 p119 q119
                 cases e119
                 replace hx119_0 := (HB.out.cell (World.block_lt_of_cell? w _ hx119_0)).trans hx119_0
                 have HR119_0 := Aside0.mk hi119_0
                 have HC119_0 := Aside0.mk hl119_0
                 clear hi119_0 hl119_0
                 replace p119 := eq_true p119
                 replace q119 := eq_true q119
                 have p120 : 0 ≤ (x6_2 : Int) := of_decide_eq_true (by first | (with_reducible assumption) | assumption)
                 have q120 : x6_2 < (x3_3.length : Int) := of_decide_eq_true (by first | (with_reducible assumption) | assumption)
                 obtain ⟨ad120, e120, hx120_0⟩ := Kd.at_bool (Kd.R_reads' HO_3.out).2.2 x6_2 p120 q120
                 obtain rfl : (⟨go5, 0, none⟩ : Addr) = ad120 := (by injection e120)
                 (first | simp only [add_plain] at hx120_0 | simp only [add_at] at hx120_0 | simp only [Addr.add, Nat.zero_add] at hx120_0 | skip)
                 replace p120 := eq_true p120
                 replace q120 := eq_true q120
                 go_wp2
                 go_meet
                 case rel => exact ⟨_, (rdOf false x3_3 x6_2), (by first | rfl | (simp; done) | (simp [*]; done)), H', ⟨by have := HK1.out; have := HK2.out; have := HK3.out; first | omega | exact Nat.le_refl _⟩, ⟨by (try simp only [hl3_1]); (try simp only [hl3_2]); (try simp only [hl3_3]); (with_reducible repeat (first | apply Kd.R_alloc | apply Kd.R_drewN | apply Kd.R_drew)); exact HO_3.out⟩, ⟨by (try simp only [hl3_1]); (try simp only [hl3_2]); (try simp only [hl3_3]); (with_reducible repeat (first | refine blk_drewN ?_ _ | refine blk_drew ?_ | refine blk_alloc ?_ _)); exact BK114.out⟩, ⟨by repeat (first | (with_reducible first | exact HB.out | apply below_alloc | apply pw_below_drewN | apply below_drew1 | refine below_set ?_ GE114.out) | exact HB.out)⟩⟩
                ·rw [if_neg c20] at H
                 exact absurd H (by simp)
               ·rw [if_neg c19] at H
                have c19b0 : decide (x7_3 < ((rd_L4 l0_0 x6_2).length : Int)) = false := decide_eq_false c19
                clear c19
                have H' := Aside0.mk H
                clear H
                have hcz22_0 : wr.cell? ⟨gb114, 0, none⟩ = some (.slice A0_0 l0_0.length c0_0) := (blk_cell BK114.out 0).trans rfl
                have hfz22_0 := blk_frozen BK114.out 0
                have p119 : 0 ≤ (x6_2 : Int) := of_decide_eq_true (by first | (with_reducible assumption) | assumption)
                have q119 : x6_2 < (l0_0.length : Int) := of_decide_eq_true (by first | (with_reducible assumption) | assumption)
                obtain ⟨ad119, A119_0, c119_0, e119, hx119_0, hl119_0, hi119_0⟩ := at_L4 HR0_0.out x6_2 p119 q119
                cases e119
                replace hx119_0 := (HB.out.cell (World.block_lt_of_cell? w _ hx119_0)).trans hx119_0
                have HR119_0 := Aside0.mk hi119_0
                have HC119_0 := Aside0.mk hl119_0
                clear hi119_0 hl119_0
                replace p119 := eq_true p119
                replace q119 := eq_true q119
                go_wp2
                go_meet
                case rel => exact ⟨_, (false), (by first | rfl | (simp; done) | (simp [*]; done)), H', ⟨by have := HK1.out; have := HK2.out; have := HK3.out; first | omega | exact Nat.le_refl _⟩, ⟨by (try simp only [hl3_1]); (try simp only [hl3_2]); (try simp only [hl3_3]); (with_reducible repeat (first | apply Kd.R_alloc | apply Kd.R_drewN | apply Kd.R_drew)); exact HO_3.out⟩, ⟨by (try simp only [hl3_1]); (try simp only [hl3_2]); (try simp only [hl3_3]); (with_reducible repeat (first | refine blk_drewN ?_ _ | refine blk_drew ?_ | refine blk_alloc ?_ _)); exact BK114.out⟩, ⟨by repeat (first | (with_reducible first | exact HB.out | apply below_alloc | apply pw_below_drewN | apply below_drew1 | refine below_set ?_ GE114.out) | exact HB.out)⟩⟩
              ·rw [if_neg c18] at H
               exact absurd H (by simp)
             ·rw [if_neg c17] at H
              exact absurd H (by simp)
            case rest =>
             clear HC16
             try clear c1
             try clear p1
             try clear q1
             try clear hx1
             try clear c2
             try clear c2b0
             try clear c2b1
             try clear p2
             try clear c3
             try clear c3b0
             try clear c3b1
             try clear c4
             try clear c4b0
             try clear c4b1
             try clear p5
             try clear q5
             try clear hx5
             try clear qi5
             try clear hf5
             try clear c11
             try clear p11
             try clear q11
             try clear hx11
             try clear c12
             try clear c12b0
             try clear p12
             try clear q12
             try clear hx12
             try clear c14
             try clear c14b0
             try clear c17
             try clear c17b0
             try clear c18
             try clear c18b0
             try clear c19
             try clear c19b0
             try clear c20
             try clear c20b0
             try clear hcz13_0
             try clear hcz15_0
             try clear hcz21_0
             try clear hcz22_0
             try clear hcz7_0
             try clear hfz13_0
             try clear hfz15_0
             try clear hfz21_0
             try clear hfz22_0
             try clear hfz7_0
             try clear hx119_0
             try clear hx120_0
             try clear hx5_0
             try clear p119
             try clear p120
             try clear p2
             try clear p5
             try clear q119
             try clear q120
             try clear q5
             obtain ⟨kq, x42_15, rfl, HA, HJ15, HO_3, BK114, HB⟩ := hcut
             cases kq with
             | zero => exact absurd HA.out (by simp [mizmazeref10_Connected.j3])
             | succ kj15 =>
              have H := HA.out
              clear HA
              simp only [mizmazeref10_Connected.j3] at H
              by_cases c23 : x42_15 = true
              ·subst c23
               have H1 : (if 0 ≤ x6_2 then (if x6_2 < (l0_0.length : Int) then (if 0 ≤ x7_3 then (if x7_3 < ((rd_L4 l0_0 x6_2).length : Int) then (if 0 ≤ ((rd_T44 (rd_L4 l0_0 x6_2) x7_3).f0) then (if ((rd_T44 (rd_L4 l0_0 x6_2) x7_3).f0) < (x3_3.length : Int) then (if (rdOf false x3_3 ((rd_T44 (rd_L4 l0_0 x6_2) x7_3).f0) = true) then (mizmazeref10_Connected.l2 kj15 x3_3 x4_3 x5_1 x6_2 (wrap64 (x7_3 + 1)) l0_0) else (mizmazeref10_Connected.l2 kj15 (x3_3.set (((rd_T44 (rd_L4 l0_0 x6_2) x7_3).f0) : Int).toNat true) (wrap64 (x4_3 + 1)) x5_1 x6_2 (wrap64 (x7_3 + 1)) l0_0)) else (none)) else (none)) else (none)) else (none)) else (none)) else (none)) = some r := by rw [if_pos rfl] at H; exact H
               clear H
               have H := H1
               clear H1
               by_cases c24 : 0 ≤ x6_2
               ·rw [if_pos c24] at H
                have c24b0 : decide (0 ≤ x6_2) = true := decide_eq_true c24
                clear c24
                by_cases c25 : x6_2 < (l0_0.length : Int)
                ·rw [if_pos c25] at H
                 have c25b0 : decide (x6_2 < (l0_0.length : Int)) = true := decide_eq_true c25
                 clear c25
                 by_cases c26 : 0 ≤ x7_3
                 ·rw [if_pos c26] at H
                  have c26b0 : decide (0 ≤ x7_3) = true := decide_eq_true c26
                  clear c26
                  by_cases c27 : x7_3 < ((rd_L4 l0_0 x6_2).length : Int)
                  ·rw [if_pos c27] at H
                   have c27b0 : decide (x7_3 < ((rd_L4 l0_0 x6_2).length : Int)) = true := decide_eq_true c27
                   clear c27
                   by_cases c28 : 0 ≤ ((rd_T44 (rd_L4 l0_0 x6_2) x7_3).f0)
                   ·rw [if_pos c28] at H
                    have c28b0 : decide (0 ≤ ((rd_T44 (rd_L4 l0_0 x6_2) x7_3).f0)) = true := decide_eq_true c28
                    clear c28
                    by_cases c29 : ((rd_T44 (rd_L4 l0_0 x6_2) x7_3).f0) < (x3_3.length : Int)
                    ·rw [if_pos c29] at H
                     have c29b0 : decide (((rd_T44 (rd_L4 l0_0 x6_2) x7_3).f0) < (x3_3.length : Int)) = true := decide_eq_true c29
                     clear c29
                     obtain ⟨bq30, hbq30⟩ : ∃ b_ : Bool, b_ = (rdOf false x3_3 ((rd_T44 (rd_L4 l0_0 x6_2) x7_3).f0)) := ⟨_, rfl⟩
                     replace H : (if (bq30 = true) then (mizmazeref10_Connected.l2 kj15 x3_3 x4_3 x5_1 x6_2 (wrap64 (x7_3 + 1)) l0_0) else (mizmazeref10_Connected.l2 kj15 (x3_3.set (((rd_T44 (rd_L4 l0_0 x6_2) x7_3).f0) : Int).toNat true) (wrap64 (x4_3 + 1)) x5_1 x6_2 (wrap64 (x7_3 + 1)) l0_0)) = some r := by rw [← hbq30] at H; exact H
                     have Nbq30 := Aside0.mk hbq30
                     clear hbq30
                     by_cases c31 : (bq30 = true)
                     ·subst c31
                      have H1 : (mizmazeref10_Connected.l2 kj15 x3_3 x4_3 x5_1 x6_2 (wrap64 (x7_3 + 1)) l0_0) = some r := by rw [if_pos rfl] at H; exact H
                      clear H
                      have H := H1
                      clear H1
                      have H' := Aside0.mk H
                      clear H
                      have hcz32_0 : wc.cell? ⟨gb114, 0, none⟩ = some (.slice A0_0 l0_0.length c0_0) := (blk_cell BK114.out 0).trans rfl
                      have hfz32_0 := blk_frozen BK114.out 0
                      have p121 : 0 ≤ (x6_2 : Int) := of_decide_eq_true (by first | (with_reducible assumption) | assumption)
                      have q121 : x6_2 < (l0_0.length : Int) := of_decide_eq_true (by first | (with_reducible assumption) | assumption)
                      obtain ⟨ad121, A121_0, c121_0, e121, hx121_0, hl121_0, hi121_0⟩ := at_L4 HR0_0.out x6_2 p121 q121
                      cases e121
                      replace hx121_0 := (HB.out.cell (World.block_lt_of_cell? w _ hx121_0)).trans hx121_0
                      have HR121_0 := Aside0.mk hi121_0
                      have HC121_0 := Aside0.mk hl121_0
                      clear hi121_0 hl121_0
                      replace p121 := eq_true p121
                      replace q121 := eq_true q121
                      have p122 : 0 ≤ (x7_3 : Int) := of_decide_eq_true (by first | (with_reducible assumption) | assumption)
                      have q122 : x7_3 < ((rd_L4 l0_0 x6_2).length : Int) := of_decide_eq_true (by first | (with_reducible assumption) | assumption)
                      obtain ⟨ad122, e122, hx122_0, hx122_1⟩ := at_T44 HR121_0.out x7_3 p122 q122
                      cases e122
                      replace hx122_0 := (HB.out.cell (World.block_lt_of_cell? w _ hx122_0)).trans hx122_0
                      replace hx122_1 := (HB.out.cell (World.block_lt_of_cell? w _ hx122_1)).trans hx122_1
                      replace p122 := eq_true p122
                      replace q122 := eq_true q122
                      have p123 : 0 ≤ (((rd_T44 (rd_L4 l0_0 x6_2) x7_3).f0) : Int) := of_decide_eq_true (by first | (with_reducible assumption) | assumption)
                      have q123 : ((rd_T44 (rd_L4 l0_0 x6_2) x7_3).f0) < (x3_3.length : Int) := of_decide_eq_true (by first | (with_reducible assumption) | assumption)
                      obtain ⟨ad123, e123, hx123_0⟩ := Kd.at_bool (Kd.R_reads' HO_3.out).2.2 ((rd_T44 (rd_L4 l0_0 x6_2) x7_3).f0) p123 q123
                      (try rw [← Nbq30.out] at hx123_0)
                      obtain rfl : (⟨go5, 0, none⟩ : Addr) = ad123 := (by injection e123)
                      (first | simp only [add_plain] at hx123_0 | simp only [add_at] at hx123_0 | simp only [Addr.add, Nat.zero_add] at hx123_0 | skip)
                      replace p123 := eq_true p123
                      replace q123 := eq_true q123
                      go_wp2
                      (try simp only [← hl3_3])
                      go_roundg kj15
                      case measure => have := HK1.out; have := HK2.out; have := HK3.out; have := HJ15.out; omega
                      case rel => exact ⟨(x3_3), (x4_3), (wrap64 (x7_3 + 1)), (by first | rfl | (simp; done) | (simp [*]; done)), (by first | rfl | (simp; done) | (simp [*]; done)), H', ⟨by have := HK1.out; have := HK2.out; have := HK3.out; have := HJ15.out; omega⟩, ⟨by (try simp only [hl3_1]); (try simp only [hl3_2]); (try simp only [hl3_3]); (with_reducible repeat (first | apply Kd.R_alloc | apply Kd.R_drewN | apply Kd.R_drew)); exact HO_3.out⟩, ⟨by (try simp only [hl3_1]); (try simp only [hl3_2]); (try simp only [hl3_3]); (with_reducible repeat (first | refine blk_drewN ?_ _ | refine blk_drew ?_ | refine blk_alloc ?_ _)); exact BK114.out⟩, ⟨by repeat (first | (with_reducible first | exact HB.out | apply below_alloc | apply pw_below_drewN | apply below_drew1 | refine below_set ?_ GE114.out) | exact HB.out)⟩⟩
                     ·replace c31 := Bool.eq_false_iff.mpr c31
                      subst c31
                      have H1 : (mizmazeref10_Connected.l2 kj15 (x3_3.set (((rd_T44 (rd_L4 l0_0 x6_2) x7_3).f0) : Int).toNat true) (wrap64 (x4_3 + 1)) x5_1 x6_2 (wrap64 (x7_3 + 1)) l0_0) = some r := by rw [if_neg (show ¬ (false = true) by decide)] at H; exact H
                      clear H
                      have H := H1
                      clear H1
                      obtain ⟨y124, hy124⟩ : ∃ y_ : List Bool, y_ = (x3_3.set (((rd_T44 (rd_L4 l0_0 x6_2) x7_3).f0) : Int).toNat true) := ⟨_, rfl⟩
                      replace H : (mizmazeref10_Connected.l2 kj15 y124 (wrap64 (x4_3 + 1)) x5_1 x6_2 (wrap64 (x7_3 + 1)) l0_0) = some r := by first | (rw [hy124]; with_reducible exact H) | (have H2_ := (Option.bind_some _ _).symm.trans H; rw [hy124]; with_reducible exact H2_) | (have H2_ := (Option.bind_some _ _).symm.trans H; with_reducible exact H2_) | with_reducible exact H | (rw [hy124]; exact H) | exact H
                      have Ny124 := Aside0.mk hy124
                      clear hy124
                      have H' := Aside0.mk H
                      clear H
                      have hcz34_0 : wc.cell? ⟨gb114, 0, none⟩ = some (.slice A0_0 l0_0.length c0_0) := (blk_cell BK114.out 0).trans rfl
                      have hfz34_0 := blk_frozen BK114.out 0
                      have p121 : 0 ≤ (x6_2 : Int) := of_decide_eq_true (by first | (with_reducible assumption) | assumption)
                      have q121 : x6_2 < (l0_0.length : Int) := of_decide_eq_true (by first | (with_reducible assumption) | assumption)
                      obtain ⟨ad121, A121_0, c121_0, e121, hx121_0, hl121_0, hi121_0⟩ := at_L4 HR0_0.out x6_2 p121 q121
                      cases e121
                      replace hx121_0 := (HB.out.cell (World.block_lt_of_cell? w _ hx121_0)).trans hx121_0
                      have HR121_0 := Aside0.mk hi121_0
                      have HC121_0 := Aside0.mk hl121_0
                      clear hi121_0 hl121_0
                      replace p121 := eq_true p121
                      replace q121 := eq_true q121
                      have p122 : 0 ≤ (x7_3 : Int) := of_decide_eq_true (by first | (with_reducible assumption) | assumption)
                      have q122 : x7_3 < ((rd_L4 l0_0 x6_2).length : Int) := of_decide_eq_true (by first | (with_reducible assumption) | assumption)
                      obtain ⟨ad122, e122, hx122_0, hx122_1⟩ := at_T44 HR121_0.out x7_3 p122 q122
                      cases e122
                      replace hx122_0 := (HB.out.cell (World.block_lt_of_cell? w _ hx122_0)).trans hx122_0
                      replace hx122_1 := (HB.out.cell (World.block_lt_of_cell? w _ hx122_1)).trans hx122_1
                      replace p122 := eq_true p122
                      replace q122 := eq_true q122
                      have p123 : 0 ≤ (((rd_T44 (rd_L4 l0_0 x6_2) x7_3).f0) : Int) := of_decide_eq_true (by first | (with_reducible assumption) | assumption)
                      have q123 : ((rd_T44 (rd_L4 l0_0 x6_2) x7_3).f0) < (x3_3.length : Int) := of_decide_eq_true (by first | (with_reducible assumption) | assumption)
                      obtain ⟨ad123, e123, hx123_0⟩ := Kd.at_bool (Kd.R_reads' HO_3.out).2.2 ((rd_T44 (rd_L4 l0_0 x6_2) x7_3).f0) p123 q123
                      (try rw [← Nbq30.out] at hx123_0)
                      obtain rfl : (⟨go5, 0, none⟩ : Addr) = ad123 := (by injection e123)
                      (first | simp only [add_plain] at hx123_0 | simp only [add_at] at hx123_0 | simp only [Addr.add, Nat.zero_add] at hx123_0 | skip)
                      replace p123 := eq_true p123
                      replace q123 := eq_true q123
                      have p33 : 0 ≤ (((rd_T44 (rd_L4 l0_0 x6_2) x7_3).f0) : Int) := of_decide_eq_true (by first | (with_reducible assumption) | assumption)
                      have q33 : (((rd_T44 (rd_L4 l0_0 x6_2) x7_3).f0) : Int) < ((x3_3.length : Int) : Int) := of_decide_eq_true (by first | (with_reducible assumption) | assumption)
                      obtain ⟨hx33_0, hf33_0⟩ := Kd.R_celln false HO_3.out (((rd_T44 (rd_L4 l0_0 x6_2) x7_3).f0) : Int) p33 q33
                      replace p33 := eq_true p33
                      replace q33 := eq_true q33
                      have HP35 := Kd.R_putg HO_3.out (((rd_T44 (rd_L4 l0_0 x6_2) x7_3).f0) : Int) true
                      go_wp2_with (first | ((with_reducible refine gate_store (t := 4) (p := 61) rfl ?_); refine store_event (t := 4) (p := 61) (v := ?vo_w36) (w1 := (wc.setCell ⟨go5, (((rd_T44 (rd_L4 l0_0 x6_2) x7_3).f0) : Int).toNat, none⟩ (.bool true))) ?hg ?ho ?hn ?hr ?_; (case ho => rfl); (case hg => rfl); (case hn => rfl); (case hr => first | (go_simp; done) | (go_simp; rfl)); intro w36 hw; have hg : wc.grownBy w36 (some go5) := (by rw [hw]; exact HP35.2); have hp_ : Kd.R Kd.bool 4 w36 w.heap.size (fun _ => True) (.slice (some ⟨go5, 0, none⟩) x3_3.length co5) y124 := (by rw [hw, Ny124.out]; exact HP35.1); clear HP35; have n0_ := Aside0.mk (hp_); have n1_ := Aside0.mk (blk_grown (g := gb114) (o := .cells #[.slice (some ad121) l0_0.length c0_0] 38 (0, 0)) (by (with_reducible repeat (first | refine blk_drewN ?_ _ | refine blk_drew ?_ | refine blk_alloc ?_ _)); exact BK114.out) hg (Kd.R_ne HO_3.out BK114.out (by decide))); have n2_ := Aside0.mk ((by rw [hw]; exact below_set (HB.out) GB5.out : Below w.heap.size w w36)); clear HO_3; clear BK114; clear HB; have HO_3 := n0_; have BK114 := n1_; have HB := n2_; clear n0_ n1_ n2_; clear hg hw hp_))
                      (try simp only [← hl3_3])
                      go_roundg kj15
                      case measure => have := HK1.out; have := HK2.out; have := HK3.out; have := HJ15.out; omega
                      case rel => exact ⟨(y124), (wrap64 (x4_3 + 1)), (wrap64 (x7_3 + 1)), (by first | rfl | (simp; done) | (simp [*]; done)), (by first | rfl | (simp; done) | (simp [*]; done)), H', ⟨by have := HK1.out; have := HK2.out; have := HK3.out; have := HJ15.out; omega⟩, ⟨by (try simp only [hl3_1]); (try simp only [hl3_2]); (try simp only [hl3_3]); (with_reducible repeat (first | apply Kd.R_alloc | apply Kd.R_drewN | apply Kd.R_drew)); exact HO_3.out⟩, ⟨by (try simp only [hl3_1]); (try simp only [hl3_2]); (try simp only [hl3_3]); (with_reducible repeat (first | refine blk_drewN ?_ _ | refine blk_drew ?_ | refine blk_alloc ?_ _)); exact BK114.out⟩, ⟨by repeat (first | (with_reducible first | exact HB.out | apply below_alloc | apply pw_below_drewN | apply below_drew1 | refine below_set ?_ GE114.out) | exact HB.out)⟩⟩
                    ·rw [if_neg c29] at H
                     exact absurd H (by simp)
                   ·rw [if_neg c28] at H
                    exact absurd H (by simp)
                  ·rw [if_neg c27] at H
                   exact absurd H (by simp)
                 ·rw [if_neg c26] at H
                  exact absurd H (by simp)
                ·rw [if_neg c25] at H
                 exact absurd H (by simp)
               ·rw [if_neg c24] at H
                exact absurd H (by simp)
              ·replace c23 := Bool.eq_false_iff.mpr c23
               subst c23
               have H1 : (mizmazeref10_Connected.l1 kj15 x3_3 x4_3 x5_1 (wrap64 (x6_2 + 1)) l0_0) = some r := by rw [if_neg (show ¬ (false = true) by decide)] at H; exact H
               clear H
               have H := H1
               clear H1
               have H' := Aside0.mk H
               clear H
               go_wp2
               (try simp only [← hl3_2, ← hl3_3])
               go_roundg kj15
               case measure => have := HK1.out; have := HK2.out; have := HK3.out; have := HJ15.out; omega
               case rel => exact ⟨(x3_3), (x4_3), (wrap64 (x6_2 + 1)), (by first | rfl | (simp; done) | (simp [*]; done)), (by first | rfl | (simp; done) | (simp [*]; done)), H', ⟨by have := HK1.out; have := HK2.out; have := HK3.out; have := HJ15.out; omega⟩, ⟨by (try simp only [hl3_1]); (try simp only [hl3_2]); (try simp only [hl3_3]); (with_reducible repeat (first | apply Kd.R_alloc | apply Kd.R_drewN | apply Kd.R_drew)); exact HO_3.out⟩, ⟨by (try simp only [hl3_1]); (try simp only [hl3_2]); (try simp only [hl3_3]); (with_reducible repeat (first | refine blk_drewN ?_ _ | refine blk_drew ?_ | refine blk_alloc ?_ _)); exact BK114.out⟩, ⟨by repeat (first | (with_reducible first | exact HB.out | apply below_alloc | apply pw_below_drewN | apply below_drew1 | refine below_set ?_ GE114.out) | exact HB.out)⟩⟩
         ·rw [if_neg c14] at H
          have c14b0 : decide (x6_2 < (l0_0.length : Int)) = false := decide_eq_false c14
          clear c14
          have H' := Aside0.mk H
          clear H
          have hcz37_0 : wr.cell? ⟨gb114, 0, none⟩ = some (.slice A0_0 l0_0.length c0_0) := (blk_cell BK114.out 0).trans rfl
          have hfz37_0 := blk_frozen BK114.out 0
          go_wp2
          (try simp only [← hl3_1, ← hl3_2])
          go_roundg k2
          case measure => have := HK1.out; have := HK2.out; omega
          case rel => exact ⟨(x3_2), (x4_2), (wrap64 (x5_1 + 1)), (by first | rfl | (simp; done) | (simp [*]; done)), (by first | rfl | (simp; done) | (simp [*]; done)), H', ⟨by have := HK1.out; have := HK2.out; omega⟩, ⟨by (try simp only [hl3_1]); (try simp only [hl3_2]); (with_reducible repeat (first | apply Kd.R_alloc | apply Kd.R_drewN | apply Kd.R_drew)); exact HO_3.out⟩, ⟨by (try simp only [hl3_1]); (try simp only [hl3_2]); (with_reducible repeat (first | refine blk_drewN ?_ _ | refine blk_drew ?_ | refine blk_alloc ?_ _)); exact BK114.out⟩, ⟨by repeat (first | (with_reducible first | exact HB.out | apply below_alloc | apply pw_below_drewN | apply below_drew1 | refine below_set ?_ GE114.out) | exact HB.out)⟩⟩
      ·rw [if_neg c12] at H
       have c12b0 : decide (x5_1 < (l0_0.length : Int)) = false := decide_eq_false c12
       clear c12
       obtain rfl := Option.some.inj H
       have hcz38_0 : wr.cell? ⟨gb114, 0, none⟩ = some (.slice A0_0 l0_0.length c0_0) := (blk_cell BK114.out 0).trans rfl
       have hfz38_0 := blk_frozen BK114.out 0
       go_wp2
       go_ret
       exact ⟨by first | rfl | (simp [errW_none, errW_some] <;> rfl) | (simp [*, errW_none, errW_some] <;> rfl), by repeat (first | (with_reducible first | exact HB.out | apply below_alloc | apply pw_below_drewN | apply below_drew1 | refine below_set ?_ GE114.out) | exact HB.out)⟩
   ·rw [if_neg c4] at H
    exact absurd H (by simp)
  ·rw [if_neg c3] at H
   exact absurd H (by simp)
 ·rw [if_neg c2] at H
  exact absurd H (by simp)

end Go.Proofs.Ytgbjbgdnldklpaa.Q
end
/-! Part MWalkZ -/
section
namespace Go.Proofs.Ytgbjbgdnldklpaa.Q
open Go.RowKit Go.Proofs.YtgbjbgdnldklpaaW.PrintWords Go.Proofs.YtgbjbgdnldklpaaW.PrintLast Go.Proofs.YtgbjbgdnldklpaaW.PrintMore
set_option linter.unusedVariables false
set_option linter.unusedSectionVars false
/-! ### the rooms where one is -/
def stepsZ (z : List (List S44)) : Nat → List Nat → List Nat
 | _, [] => []
 | s, x :: w => gz z s x :: stepsZ z (gz z s x) w
def pathZ (z : List (List S44)) (s : Nat) (w : List Nat) : List Nat := s :: stepsZ z s w
theorem stepsZ_len (z : List (List S44)) : ∀ (w : List Nat) (s : Nat), (stepsZ z s w).length = w.length
 | [], _ => rfl
 | x :: w, s => by simp [stepsZ, stepsZ_len z w]
theorem pathZ_len (z : List (List S44)) (s : Nat) (w : List Nat) : (pathZ z s w).length = w.length + 1 := by simp [pathZ, stepsZ_len]
section
variable {z : List (List S44)} {n m : Nat} (V : VZ z n m)
include V
theorem stepsZ_lt : ∀ {w : List Nat} {s : Nat}, s < n → Wd m w → ∀ t ∈ stepsZ z s w, t < n
 | [], s, hs, hw, t, ht => by cases ht
 | x :: w, s, hs, hw, t, ht => by
  have h1 := V.gLt s x hs hw.head
  rcases List.mem_cons.1 ht with rfl | ht
  ·exact h1
  ·exact stepsZ_lt h1 hw.tail t ht
theorem pathZ_lt {w : List Nat} {s : Nat} (hs : s < n) (hw : Wd m w) : ∀ t ∈ pathZ z s w, t < n := fun t ht => by
 rcases List.mem_cons.1 ht with rfl | ht
 ·exact hs
 ·exact stepsZ_lt V hs hw t ht
theorem walk_loop {w : List Nat} (hw : Wd m w) (hl : w.length ≤ 1000000) : ∀ (e i s : Nat) (out : List Int), i + e = w.length → s < n → out.length ≤ i + 1 → Ev (fun k => maze_Walk.l0 k (s : Int) out (toI w) (w.length : Int) (i : Int) z) (out ++ toI (stepsZ z s (w.drop i)), 0)
 | 0, i, s, out, he, hs, ho => by
  refine Ev.step (f := fun _ => some (out, (0 : Int))) (fun k => by rw [maze_Walk.l0, if_neg (by omega)]) (Ev.ret ?_)
  rw [List.drop_eq_nil_of_le (by omega)]
  simp [stepsZ, toI]
 | e + 1, i, s, out, he, hs, ho => by
  have hi : i < w.length := by omega
  have hx : w[i] < m := hw _ (List.getElem_mem hi)
  have hlen := V.len
  have hrow := V.row s hs
  have ih := walk_loop hw hl e (i + 1) (gz z s w[i]) (out ++ [((gz z s w[i] : Nat) : Int)]) (by omega) (V.gLt s _ hs hx) (by simp; omega)
  have e1 : out ++ toI (stepsZ z s (w.drop i)) = (out ++ [((gz z s w[i] : Nat) : Int)]) ++ toI (stepsZ z (gz z s w[i]) (w.drop (i + 1))) := by
   rw [List.drop_eq_getElem_cons hi]
   simp [stepsZ, toI]
  rw [e1]
  refine Ev.step (fun k => by rw [maze_Walk.l0, if_pos (by omega), if_pos (by omega), if_pos (by rw [toI_len]; omega), if_pos (by omega), if_pos (by omega), toI_rd hi, if_pos (by omega), if_pos (by omega), V.f0 s _ hs hx, if_pos (by omega), wrapS (by omega)]) ih
theorem walk_ev {w : List Nat} (hw : Wd m w) (hl : w.length ≤ 40000) {s : Nat} (hs : s < n) : Ev (fun k => maze_Walk.f k z (s : Int) (toI w)) (toI (pathZ z s w), 0) := by
 have hlen := V.len
 have hr0 : (rd_L4 z 0).length = m := V.row 0 V.n0
 have h0 := V.n0
 have := walk_loop V hw (by omega) w.length 0 s [(s : Int)] (by omega) hs (by simp)
 have e1 : ([(s : Int)] ++ toI (stepsZ z s (w.drop 0)), (0 : Int)) = (toI (pathZ z s w), 0) := by simp [pathZ, toI]
 rw [e1] at this
 refine this.congr fun k => ?_
 unfold maze_Walk.f maze_Valid.f maze_fits.f
 rw [mvB_of V, Option.bind_some, if_pos rfl, if_neg (by omega), if_neg (by omega), if_pos (by omega), hr0, Option.bind_some, toI_len, decide_eq_true hl, Bool.true_and, inB_toI.2 hw, if_pos rfl]
 rfl
end
end Go.Proofs.Ytgbjbgdnldklpaa.Q
end
/-! Part MConnZ -/
section
namespace Go.Proofs.Ytgbjbgdnldklpaa.Q
open Go.RowKit Go.Proofs.YtgbjbgdnldklpaaW.PrintWords Go.Proofs.YtgbjbgdnldklpaaW.PrintLast Go.Proofs.YtgbjbgdnldklpaaW.PrintMore
set_option linter.unusedVariables false
set_option linter.unusedSectionVars false
/-- The last room of a path. -/
def endZ (z : List (List S44)) : Nat → List Nat → Nat
 | s, [] => s
 | s, x :: w => endZ z (gz z s x) w
theorem endZ_app (z : List (List S44)) : ∀ (u v : List Nat) (s : Nat), endZ z s (u ++ v) = endZ z (endZ z s u) v
 | [], _, _ => rfl
 | x :: u, v, s => by simp [endZ, endZ_app z u v]
/-! ### connected mazes -/
def trues (b : List Bool) : Nat := b.count true
theorem trues_set {l : List Bool} {u : Nat} (h : u < l.length) (hf : rdOf false l (u : Int) = false) : trues (l.set u true) = trues l + 1 := by
 induction l generalizing u with
 | nil => exact absurd h (by simp)
 | cons b l ih =>
  cases u with
  | zero =>
   have : b = false := hf
   subst this
   simp [trues]
  | succ u =>
   have := ih (u := u) (by simpa using h) (by rw [rdBE (by simpa using h)]; rw [rdBE h] at hf; simpa using hf)
   simp only [trues] at this
   cases b <;> simp [trues] <;> omega
theorem trues_le (b : List Bool) : trues b ≤ b.length := List.count_le_length
theorem trues_all {b : List Bool} : trues b = b.length ↔ ∀ t, t < b.length → rdOf false b (t : Int) = true := by
 unfold trues
 rw [List.count_eq_length]
 constructor
 ·intro h t ht
  rw [rdBE ht]
  exact (h _ (List.getElem_mem ht)).symm
 ·intro h x hx
  obtain ⟨t, ht, rfl⟩ := List.getElem_of_mem hx
  have := h t ht
  rw [rdBE ht] at this
  exact this.symm
theorem trues_none (n : Nat) : trues (List.replicate n false) = 0 := by
 simp [trues, List.count_replicate]
theorem nodup_full {n : Nat} {Q : List Nat} (hd : Q.Nodup) (hl : ∀ x ∈ Q, x < n) (h : Q.length = n) {t : Nat} (ht : t < n) : t ∈ Q := by
 refine Classical.byContradiction fun hc => ?_
 have := nodup_le n (t :: Q) (List.nodup_cons.2 ⟨hc, hd⟩) fun x hx => (List.mem_cons.1 hx).elim (fun e => e ▸ ht) (hl x)
 simp at this; omega
/-- Each room can be reached from room 0. -/
def Cn (z : List (List S44)) (n m : Nat) : Prop := ∀ t, t < n → ∃ w, Wd m w ∧ endZ z 0 w = t
structure BfZ (z : List (List S44)) (n m : Nat) (Q : List Nat) : Prop where
 nd : Q.Nodup
 lt : ∀ t ∈ Q, t < n
 z0 : 0 ∈ Q
 wd : ∀ (i : Nat) (hi : i < Q.length), ∃ w, Wd m w ∧ w.length ≤ i ∧ endZ z 0 w = Q[i]
/-- The list of rooms that the reference has seen at its end. -/
def SeenZ (z : List (List S44)) (n m : Nat) (b : List Bool) : Prop := b.length = n ∧ (∀ t, t < n → rdOf false b (t : Int) = true → ∃ w, Wd m w ∧ endZ z 0 w = t)
def FinZ (z : List (List S44)) (n m : Nat) (g : Nat → Option Bool) : Prop := ∃ b, SeenZ z n m b ∧ (∀ w, Wd m w → w.length ≤ n → rdOf false b ((endZ z 0 w : Nat) : Int) = true) ∧ Ev g (((trues b : Nat) : Int) == (n : Int))
theorem FinZ.step {z : List (List S44)} {n m : Nat} {g g' : Nat → Option Bool} (h : ∀ k, g (k + 1) = g' k) (hf : FinZ z n m g') : FinZ z n m g := by
 obtain ⟨b, h1, h2, h3⟩ := hf
 exact ⟨b, h1, h2, Ev.step h h3⟩
section
variable {z : List (List S44)} {n m : Nat} (V : VZ z n m)
include V
theorem endZ_lt : ∀ {w : List Nat} {s : Nat}, s < n → Wd m w → endZ z s w < n
 | [], s, hs, hw => hs
 | x :: w, s, hs, hw => endZ_lt (w := w) (s := gz z s x) (V.gLt s x hs hw.head) hw.tail
theorem conn_prog : ∃ Q, BfZ z n m Q ∧ (∀ t ∈ Q, ∀ x, x < m → gz z t x ∈ Q) ∧ Ev (fun k => maze_Connected.f k z) (((Q.length : Nat) : Int) == (n : Int), 0) := by
 have hlen := V.len; have h60 := V.n60; have h0 := V.n0; have hm6 := V.k6
 have outer : ∀ (d i : Nat) (b : List Bool) (Q : List Nat), i + d = n → i ≤ Q.length → b.length = n → BfZ z n m Q → (∀ t, t < n → (rdOf false b (t : Int) = true ↔ t ∈ Q)) → (∀ (j : Nat) (hj : j < Q.length), j < i → ∀ x, x < m → gz z Q[j] x ∈ Q) →
   ∃ Q', BfZ z n m Q' ∧ (∀ t ∈ Q', ∀ x, x < m → gz z t x ∈ Q') ∧ Ev (fun k => maze_Connected.l0 k b (toI Q) (i : Int) z) (((Q'.length : Nat) : Int) == (n : Int), 0) := by
  intro d
  induction d with
  | zero =>
   intro i b Q hi hiQ hb B hbQ hc
   have hQn := nodup_le n Q B.nd B.lt
   refine ⟨Q, B, fun t ht x hx => ?_, Ev.step (f := fun _ => some (((Q.length : Nat) : Int) == (n : Int), 0)) (fun k => by rw [maze_Connected.l0, if_neg (by rw [toI_len]; omega), toI_len, hlen]) (Ev.now _)⟩
   obtain ⟨j, hj, rfl⟩ := List.getElem_of_mem ht
   exact hc j hj (by omega) x hx
  | succ d ih =>
   intro i b Q hi hiQ hb B hbQ hc
   have hQn := nodup_le n Q B.nd B.lt
   by_cases hiq : i < Q.length
   ·have hq := B.lt _ (List.getElem_mem hiq)
    have hrow := V.row _ hq
    obtain ⟨w, hw1, hw2, hw3⟩ := B.wd i hiq
    have inner : ∀ (e x : Nat) (b : List Bool) (P : List Nat), x + e = m → b.length = n → BfZ z n m (Q ++ P) → (∀ t, t < n → (rdOf false b (t : Int) = true ↔ t ∈ Q ++ P)) → (∀ y, y < x → gz z Q[i] y ∈ Q ++ P) →
      ∃ Q', BfZ z n m Q' ∧ (∀ t ∈ Q', ∀ x, x < m → gz z t x ∈ Q') ∧ Ev (fun k => maze_Connected.l1 k b (toI (Q ++ P)) (i : Int) (rd_L4 z ((Q[i] : Nat) : Int)) (m : Int) (x : Int) z) (((Q'.length : Nat) : Int) == (n : Int), 0) := by
     intro e
     induction e with
     | zero =>
      intro x b P hx hb B hbQ hy
      have : (Q ++ P).length = Q.length + P.length := by simp
      obtain ⟨Q', h1, h2, h3⟩ := ih (i + 1) b (Q ++ P) (by omega) (by omega) hb B hbQ (fun j hj hji y hym => by
       rw [List.getElem_append_left (by omega)]
       rcases Nat.lt_or_ge j i with h7 | h7
       ·exact List.mem_append.2 (Or.inl (hc j (by omega) h7 y hym))
       ·obtain rfl : j = i := by omega
        exact hy y (by omega))
      exact ⟨Q', h1, h2, Ev.step (fun k => by rw [maze_Connected.l1, if_neg (by omega), wrapS (by omega)]) h3⟩
     | succ e ih2 =>
      intro x b P hx hb B hbQ hy
      have hxm : x < m := by omega
      have hg := V.gLt _ x hq hxm
      have hle := nodup_le n _ B.nd B.lt
      by_cases hin : gz z Q[i] x ∈ Q ++ P
      ·obtain ⟨Q', h1, h2, h3⟩ := ih2 (x + 1) b P (by omega) hb B hbQ (fun y hyx => by
        rcases Nat.lt_or_ge y x with h7 | h7
        ·exact hy y h7
        ·obtain rfl : y = x := by omega
         exact hin)
       exact ⟨Q', h1, h2, Ev.step (fun k => by rw [maze_Connected.l1, if_pos (by omega), if_pos (by omega), if_pos (by omega), V.f0 _ _ hq hxm, if_pos (by omega), if_pos (by omega), if_pos ((hbQ _ hg).2 hin), wrapS (by omega)]) h3⟩
      ·have hf : ¬ rdOf false b ((gz z Q[i] x : Nat) : Int) = true := fun h => hin ((hbQ _ hg).1 h)
       obtain ⟨Q', h1, h2, h3⟩ := ih2 (x + 1) (b.set (gz z Q[i] x) true) (P ++ [gz z Q[i] x]) (by omega) (by rw [List.length_set]; exact hb) (by
         rw [← List.append_assoc]
         refine ⟨?_, ?_, List.mem_append.2 (Or.inl B.z0), fun j hj => ?_⟩
         ·rw [List.nodup_append]
          refine ⟨B.nd, by simp, fun a ha c hc e => hin ?_⟩
          rw [List.mem_singleton.1 hc] at e
          exact e ▸ ha
         ·intro t ht
          rcases List.mem_append.1 ht with ht | ht
          ·exact B.lt t ht
          ·rw [List.mem_singleton.1 ht]; exact hg
         ·by_cases h7 : j < (Q ++ P).length
          ·rw [List.getElem_append_left h7]
           exact B.wd j h7
          ·have h8 : j = (Q ++ P).length := by simp at hj h7 ⊢; omega
           subst h8
           refine ⟨w ++ [x], hw1.app (fun y hy => by rw [List.mem_singleton.1 hy]; exact hxm), ?_, ?_⟩
           ·simp at *; omega
           ·rw [endZ_app, hw3]; simp [endZ]) (fun t ht => by
         rw [rdB_set (by omega), ← List.append_assoc, List.mem_append, List.mem_singleton]
         by_cases h7 : gz z Q[i] x = t
         ·simp [h7]
         ·rw [if_neg h7, hbQ t ht]
          exact ⟨Or.inl, fun h => h.elim id fun e => absurd e.symm h7⟩) (fun y hyx => by
         rw [← List.append_assoc]
         rcases Nat.lt_or_ge y x with h7 | h7
         ·exact List.mem_append.2 (Or.inl (hy y h7))
         ·obtain rfl : y = x := by omega
          exact List.mem_append.2 (Or.inr (List.mem_singleton.2 rfl)))
       refine ⟨Q', h1, h2, Ev.step (fun k => by rw [maze_Connected.l1, if_pos (by omega), if_pos (by omega), if_pos (by omega), V.f0 _ _ hq hxm, if_pos (by omega), if_pos (by omega), if_neg hf, if_pos (by rw [toI_len]; omega), wrapS (by omega), Int.toNat_natCast, ← toI_snoc, List.append_assoc]) h3⟩
    obtain ⟨Q', h1, h2, h3⟩ := inner m 0 b [] (by omega) hb (by rw [List.append_nil]; exact B) (by rw [List.append_nil]; exact hbQ) (fun y hy => by omega)
    rw [List.append_nil] at h3
    exact ⟨Q', h1, h2, Ev.step (fun k => by rw [maze_Connected.l0, if_pos (by rw [toI_len]; omega), if_pos (by omega), toI_rd hiq, if_pos (by omega), if_pos (by omega), hrow]; rfl) h3⟩
   ·refine ⟨Q, B, fun t ht x hx => ?_, Ev.step (f := fun _ => some (((Q.length : Nat) : Int) == (n : Int), 0)) (fun k => by rw [maze_Connected.l0, if_neg (by rw [toI_len]; omega), toI_len, hlen]) (Ev.now _)⟩
    obtain ⟨j, hj, rfl⟩ := List.getElem_of_mem ht
    exact hc j hj (by omega) x hx
 obtain ⟨Q', h1, h2, h3⟩ := outer n 0 ((List.replicate n false).set 0 true) [0] (by omega) (by simp) (by simp) ⟨by simp, fun t ht => by rw [List.mem_singleton.1 ht]; exact h0, by simp, fun i hi => ⟨[], Wd.nil m, Nat.zero_le _, by
   have : i = 0 := by simpa using hi
   subst this; rfl⟩⟩ (fun t ht => by
  rw [rdB_set (by simpa using ht), rdBE (by simpa using ht)]
  by_cases h : 0 = t
  ·simp [← h]
  ·rw [if_neg h]; simp; omega) (fun j hj hji => by omega)
 refine ⟨Q', h1, h2, ?_⟩
 refine h3.congr fun k => ?_
 unfold maze_Connected.f maze_Valid.f
 rw [mvB_of V, Option.bind_some, if_pos rfl, if_pos (by omega), if_pos (by rw [Int.toNat_natCast]; omega), Option.bind_some, Int.toNat_natCast, if_pos (by rw [List.length_replicate]; omega), hlen]
 rfl
theorem SeenZ.add {b : List Bool} {i x : Nat} (h : SeenZ z n m b) (hi : i < n) (hb : rdOf false b (i : Int) = true) (hx : x < m) : SeenZ z n m (b.set (gz z i x) true) := by
 refine ⟨by rw [List.length_set]; exact h.1, fun t ht hr => ?_⟩
 rw [rdB_set (by rw [h.1]; exact ht)] at hr
 by_cases e : gz z i x = t
 ·obtain ⟨w, h1, h2⟩ := h.2 i hi hb
  exact ⟨w ++ [x], h1.app (fun y hy => by rw [List.mem_singleton.1 hy]; exact hx), by rw [endZ_app, h2]; exact e⟩
 ·rw [if_neg e] at hr
  exact h.2 t ht hr
theorem conn_ref : FinZ z n m (fun k => mizmazeref10_Connected.f k z) := by
 have hlen := V.len; have h60 := V.n60; have h0 := V.n0; have hm6 := V.k6
 have key : ∀ (d j : Nat) (b : List Bool), j + d = n → SeenZ z n m b → (∀ w, Wd m w → w.length ≤ j → rdOf false b ((endZ z 0 w : Nat) : Int) = true) → FinZ z n m (fun k => mizmazeref10_Connected.l0 k b ((trues b : Nat) : Int) (j : Int) z) := by
  intro d
  induction d with
  | zero =>
   intro j b hj S hw
   exact ⟨b, S, fun w h1 h2 => hw w h1 (by omega), Ev.step (f := fun _ => some (((trues b : Nat) : Int) == (n : Int))) (fun k => by rw [mizmazeref10_Connected.l0, if_neg (by omega), hlen]) (Ev.now _)⟩
  | succ d ih =>
   intro j b hj S hw
   have rooms : ∀ (e i : Nat) (b : List Bool), i + e = n → SeenZ z n m b → (∀ w, Wd m w → w.length ≤ j → rdOf false b ((endZ z 0 w : Nat) : Int) = true) → (∀ w x, Wd m w → x < m → w.length ≤ j → endZ z 0 w < i → rdOf false b ((gz z (endZ z 0 w) x : Nat) : Int) = true) →
     FinZ z n m (fun k => mizmazeref10_Connected.l1 k b ((trues b : Nat) : Int) (j : Int) (i : Int) z) := by
    intro e
    induction e with
    | zero =>
     intro i b hi S hw hn
     refine FinZ.step (fun k => by rw [mizmazeref10_Connected.l1, if_neg (by omega), wrapS (by omega)]) (ih (j + 1) b (by omega) S fun w h1 h2 => ?_)
     by_cases h3 : w.length ≤ j
     ·exact hw w h1 h3
     ·have hne : w ≠ [] := fun h => by subst h; simp at h3
      obtain ⟨v, x, rfl⟩ : ∃ v x, w = v ++ [x] := ⟨_, _, (List.dropLast_concat_getLast hne).symm⟩
      rw [List.length_append] at h2; simp at h2
      rw [endZ_app]
      exact hn v x h1.left (h1.right x (by simp)) (by omega) (by have := endZ_lt V h0 h1.left; omega)
    | succ e ihr =>
     intro i b hi S hw hn
     have hin : i < n := by omega
     have hrow := V.row i hin
     refine FinZ.step (g' := fun k => mizmazeref10_Connected.l2 k b ((trues b : Nat) : Int) (j : Int) (i : Int) ((0 : Nat) : Int) z) (fun k => by rw [mizmazeref10_Connected.l1, if_pos (by omega)]; rfl) ?_
     cases hb : rdOf false b (i : Int) with
     | false =>
      refine FinZ.step (fun k => by rw [mizmazeref10_Connected.l2, if_pos (by omega), if_pos (by omega), if_pos (by have := V.k0; omega), if_pos (by have := S.1; omega), hb]) ?_
      refine FinZ.step (fun k => by rw [mizmazeref10_Connected.j3, if_neg (by simp), wrapS (by omega)]) (ihr (i + 1) b (by omega) S hw fun w x h1 hx h2 h3 => ?_)
      rcases Nat.lt_or_ge (endZ z 0 w) i with h7 | h7
      ·exact hn w x h1 hx h2 h7
      ·have : endZ z 0 w = i := by omega
       have h8 := hw w h1 h2
       rw [this, hb] at h8
       cases h8
     | true =>
      have doors : ∀ (e x : Nat) (b : List Bool), x + e = m → SeenZ z n m b → (∀ w, Wd m w → w.length ≤ j → rdOf false b ((endZ z 0 w : Nat) : Int) = true) → (∀ w x, Wd m w → x < m → w.length ≤ j → endZ z 0 w < i → rdOf false b ((gz z (endZ z 0 w) x : Nat) : Int) = true) → rdOf false b (i : Int) = true → (∀ y, y < x → rdOf false b ((gz z i y : Nat) : Int) = true) →
        FinZ z n m (fun k => mizmazeref10_Connected.l2 k b ((trues b : Nat) : Int) (j : Int) (i : Int) (x : Int) z) := by
       intro e
       induction e with
       | zero =>
        intro x b hx S hw hn hb hy
        refine FinZ.step (fun k => by rw [mizmazeref10_Connected.l2, if_pos (by omega), if_pos (by omega), if_neg (by omega)]) ?_
        refine FinZ.step (fun k => by rw [mizmazeref10_Connected.j3, if_neg (by simp), wrapS (by omega)]) (ihr (i + 1) b (by omega) S hw fun w x' h1 hx' h2 h3 => ?_)
        rcases Nat.lt_or_ge (endZ z 0 w) i with h7 | h7
        ·exact hn w x' h1 hx' h2 h7
        ·have : endZ z 0 w = i := by omega
         rw [this]
         exact hy x' (by omega)
       | succ e ihd =>
        intro x b hx S hw hn hb hy
        have hxm : x < m := by omega
        have hg := V.gLt i x hin hxm
        have hbl := S.1
        refine FinZ.step (fun k => by rw [mizmazeref10_Connected.l2, if_pos (by omega), if_pos (by omega), if_pos (by omega), if_pos (by omega), hb]) ?_
        cases hc : rdOf false b ((gz z i x : Nat) : Int) with
        | true =>
         refine FinZ.step (fun k => by rw [mizmazeref10_Connected.j3, if_pos rfl, if_pos (by omega), if_pos (by omega), if_pos (by omega), if_pos (by omega), V.f0 _ _ hin hxm, if_pos (by omega), if_pos (by omega), if_pos hc, wrapS (by omega)]) (ihd (x + 1) b (by omega) S hw hn hb fun y hyx => ?_)
         rcases Nat.lt_or_ge y x with h7 | h7
         ·exact hy y h7
         ·obtain rfl : y = x := by omega
          exact hc
        | false =>
         have mono : ∀ t : Nat, t < n → rdOf false b (t : Int) = true → rdOf false (b.set (gz z i x) true) (t : Int) = true := fun t ht h => by
          rw [rdB_set (by omega)]
          by_cases e : gz z i x = t
          ·rw [if_pos e]
          ·rw [if_neg e]; exact h
         have ht := trues_set (by omega) hc
         have hle := trues_le b
         refine FinZ.step (fun k => by rw [mizmazeref10_Connected.j3, if_pos rfl, if_pos (by omega), if_pos (by omega), if_pos (by omega), if_pos (by omega), V.f0 _ _ hin hxm, if_pos (by omega), if_pos (by omega), if_neg (by rw [hc]; simp), wrapS (by omega), wrapS (by omega), Int.toNat_natCast, ← ht]) (ihd (x + 1) (b.set (gz z i x) true) (by omega) (SeenZ.add V S hin hb hxm) (fun w h1 h2 => mono _ (endZ_lt V h0 h1) (hw w h1 h2)) (fun w x' h1 hx' h2 h3 => mono _ (V.gLt _ _ (endZ_lt V h0 h1) hx') (hn w x' h1 hx' h2 h3)) (mono _ hin hb) fun y hyx => ?_)
         rcases Nat.lt_or_ge y x with h7 | h7
         ·exact mono _ (V.gLt _ _ hin (by omega)) (hy y h7)
         ·obtain rfl : y = x := by omega
          rw [rdB_set (by omega), if_pos rfl]
      exact doors m 0 b (by omega) S hw hn hb fun y hy => by omega
   exact FinZ.step (g' := fun k => mizmazeref10_Connected.l1 k b ((trues b : Nat) : Int) (j : Int) ((0 : Nat) : Int) z) (fun k => by rw [mizmazeref10_Connected.l0, if_pos (by omega)]; rfl) (rooms n 0 b (by omega) S hw fun w x _ _ _ h => by omega)
 have t1 : trues ((List.replicate n false).set 0 true) = 1 := by
  rw [trues_set (by simpa using h0) (by
   have : (0 : Nat) < (List.replicate n false).length := by simpa using h0
   rw [rdBE this]; simp), trues_none]
 obtain ⟨b, h1, h2, h3⟩ := key n 0 ((List.replicate n false).set 0 true) (by omega) ⟨by simp, fun t ht hr => by
  rw [rdB_set (by simpa using ht), rdBE (by simpa using ht)] at hr
  by_cases e : 0 = t
  ·exact ⟨[], Wd.nil m, e⟩
  ·rw [if_neg e] at hr; simp at hr⟩ (fun w hw hl => by
  obtain rfl := List.eq_nil_of_length_eq_zero (by omega : w.length = 0)
  show rdOf false _ ((0 : Nat) : Int) = true
  rw [rdB_set (by simpa using h0), if_pos rfl])
 refine ⟨b, h1, h2, h3.congr fun k => ?_⟩
 unfold mizmazeref10_Connected.f
 rw [if_pos (by omega), if_pos (by rw [Int.toNat_natCast]; omega), Option.bind_some, Int.toNat_natCast, hlen, if_pos (by rw [List.length_replicate]; omega), t1]
 rfl
theorem conn_both : ∃ b, Ev (fun k => maze_Connected.f k z) (b, 0) ∧ Ev (fun k => mizmazeref10_Connected.f k z) b ∧ (b = true ↔ Cn z n m) := by
 obtain ⟨Q, B, cl, h1⟩ := conn_prog V
 obtain ⟨b, S, hw, h2⟩ := conn_ref V
 have h0 := V.n0
 by_cases hq : Q.length = n
 ·have hall : ∀ t, t < n → ∃ w, Wd m w ∧ w.length ≤ n ∧ endZ z 0 w = t := fun t ht => by
   obtain ⟨i, hi, rfl⟩ := List.getElem_of_mem (nodup_full B.nd B.lt hq ht)
   obtain ⟨w, w1, w2, w3⟩ := B.wd i hi
   exact ⟨w, w1, by omega, w3⟩
  have hT : trues b = b.length := trues_all.2 fun t ht => by
   obtain ⟨w, w1, w2, w3⟩ := hall t (by rw [← S.1]; exact ht)
   rw [← w3]; exact hw w w1 w2
  have e1 : (((Q.length : Nat) : Int) == (n : Int)) = true := by rw [hq]; simp
  have e2 : (((trues b : Nat) : Int) == (n : Int)) = true := by rw [hT, S.1]; simp
  rw [e1] at h1; rw [e2] at h2
  exact ⟨true, h1, h2, fun _ t ht => let ⟨w, w1, _, w3⟩ := hall t ht; ⟨w, w1, w3⟩, fun _ => rfl⟩
 ·have hQn := nodup_le n Q B.nd B.lt
  have reach : ∀ (w : List Nat) (s : Nat), s ∈ Q → Wd m w → endZ z s w ∈ Q := by
   intro w
   induction w with
   | nil => intro s hs _; exact hs
   | cons x w ih => intro s hs hw; exact ih _ (cl s hs x hw.head) hw.tail
  have hno : ¬ Cn z n m := fun hc => by
   have := nodup_sub (S := List.range n) (T := Q) List.nodup_range fun t ht => by
    obtain ⟨w, w1, w2⟩ := hc t (List.mem_range.1 ht)
    rw [← w2]; exact reach w 0 B.z0 w1
   rw [List.length_range] at this; omega
  have hT : trues b ≠ n := fun h => hno fun t ht => S.2 t ht (trues_all.1 (by rw [h, S.1]) t (by rw [S.1]; exact ht))
  have e1 : (((Q.length : Nat) : Int) == (n : Int)) = false := by simp; omega
  have e2 : (((trues b : Nat) : Int) == (n : Int)) = false := by simp; omega
  rw [e1] at h1; rw [e2] at h2
  exact ⟨false, h1, h2, by simp [hno]⟩
end
end Go.Proofs.Ytgbjbgdnldklpaa.Q
end
/-! Part MVisZ -/
section
namespace Go.Proofs.Ytgbjbgdnldklpaa.Q
open Go.RowKit Go.Proofs.YtgbjbgdnldklpaaW.PrintWords Go.Proofs.YtgbjbgdnldklpaaW.PrintLast Go.Proofs.YtgbjbgdnldklpaaW.PrintMore
set_option linter.unusedVariables false
set_option linter.unusedSectionVars false
/-! ### the reference's Visits -/
section
variable {z : List (List S44)} {n m : Nat} (V : VZ z n m)
include V
end
end Go.Proofs.Ytgbjbgdnldklpaa.Q
end
