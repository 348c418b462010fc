/- A colouring of a colouring is a colouring; whether an automaton is strongly connected, its period, its classes, its sinks and the number of its colourings are the same for all of them; Same holds both ways. (text 7 of 29) -/
import Derived.Test.YtjgdalhdiohclaaZColorAlikef
open Go.RowKit Go.Proofs.YtjgdalhdiohclaaW.PrintWords Go.Proofs.YtjgdalhdiohclaaW.PrintLast Go.Proofs.YtjgdalhdiohclaaW.PrintMore
/-! Part QNetLengths -/
section
namespace Go.Proofs.Ytjgdalhdiohclaa.Q
attribute [local go_sem] max2_int min2_int max_two min_two max_three min_three max_four min_four
set_option linter.unusedVariables false
set_option linter.unusedSimpArgs false
mutual
def net_lengths.l0 : Nat → List Int → List Bool → List Int → Int → List (List Int) → Option (List Int)
 | 0, _, _, _, _, _ => none
 | k + 1, x3, x4, x5, x6, x321000 => if x6 < (x5.length : Int) then (if 0 ≤ x6 then (if 0 ≤ (rd x5 x6) then (if (rd x5 x6) < (x321000.length : Int) then (net_lengths.l1 k x3 x4 x5 x6 (rd_L1 x321000 (rd x5 x6)) ((rd_L1 x321000 (rd x5 x6)).length : Int) 0 x321000) else (none)) else (none)) else (none)) else (some x3)
def net_lengths.l1 : Nat → List Int → List Bool → List Int → Int → List Int → Int → Int → List (List Int) → Option (List Int)
 | 0, _, _, _, _, _, _, _, _ => none
 | k + 1, x3, x4, x5, x6, x33, x34, x35, x321000 => if x35 < x34 then (if 0 ≤ x35 then (if x35 < (x33.length : Int) then (if 0 ≤ (rd x33 x35) then (if (rd x33 x35) < (x4.length : Int) then (if (rdOf false x4 (rd x33 x35) = true) then (net_lengths.l1 k x3 x4 x5 x6 x33 x34 (wrap64 (x35 + 1)) x321000) else (if 0 ≤ x6 then (if x6 < (x5.length : Int) then (if 0 ≤ (rd x5 x6) then (if (rd x5 x6) < (x3.length : Int) then (if (rd x33 x35) < (x3.length : Int) then (if x5.length < 17592186044416 then (net_lengths.l1 k (x3.set ((rd x33 x35) : Int).toNat (wrap64 ((rd x3 (rd x5 x6)) + 1))) (x4.set ((rd x33 x35) : Int).toNat true) (x5 ++ [rd x33 x35]) x6 x33 x34 (wrap64 (x35 + 1)) x321000) else (none)) else (none)) else (none)) else (none)) else (none)) else (none))) else (none)) else (none)) else (none)) else (none)) else (net_lengths.l0 k x3 x4 x5 (wrap64 (x6 + 1)) x321000)
end
def net_lengths.f (k : Nat) (l0_0 : List (List Int)) : Option (List Int) := if 0 ≤ (l0_0.length : Int) then (if ((l0_0.length : Int) : Int).toNat ≤ 35184372088832 then (if ((l0_0.length : Int) : Int).toNat ≤ 281474976710656 then ((some (List.replicate ((l0_0.length : Int) : Int).toNat false : List Bool)).bind fun y324 => (if 0 < (y324.length : Int) then (net_lengths.l0 k (List.replicate ((l0_0.length : Int) : Int).toNat 0) (y324.set (0 : Int).toNat true) (([0] : List Int)) 0 l0_0) else (none))) else (none)) else (none)) else (none)
theorem net_lengths.mono_l : ∀ k, (∀ y0 y1 y2 y3 y4, LeO (net_lengths.l0 k y0 y1 y2 y3 y4) (net_lengths.l0 (k + 1) y0 y1 y2 y3 y4)) ∧ (∀ y0 y1 y2 y3 y4 y5 y6 y7, LeO (net_lengths.l1 k y0 y1 y2 y3 y4 y5 y6 y7) (net_lengths.l1 (k + 1) y0 y1 y2 y3 y4 y5 y6 y7))
 | 0 => ⟨fun _ _ _ _ _ r h => by simp [net_lengths.l0] at h, fun _ _ _ _ _ _ _ _ r h => by simp [net_lengths.l1] at h⟩
 | k + 1 => by
  obtain ⟨ih0, ih1⟩ := net_lengths.mono_l k
  refine ⟨?_, ?_⟩
  ·intro y0 y1 y2 y3 y4
   unfold net_lengths.l0
   repeat' first
   | (with_reducible exact ih0 _ _ _ _ _)
   | (with_reducible exact ih1 _ _ _ _ _ _ _ _)
   | (with_reducible exact LeO.refl _)
   | (with_reducible exact LeO.none _)
   | (with_reducible refine LeO.ite ?_ ?_)
   | (with_reducible refine LeO.bind ?_ (fun _ => ?_))
   | exact ih0 _ _ _ _ _
   | exact ih1 _ _ _ _ _ _ _ _
   | exact LeO.none _
   | refine LeO.ite ?_ ?_
   | refine LeO.bind ?_ (fun _ => ?_)
  ·intro y0 y1 y2 y3 y4 y5 y6 y7
   unfold net_lengths.l1
   repeat' first
   | (with_reducible exact ih0 _ _ _ _ _)
   | (with_reducible exact ih1 _ _ _ _ _ _ _ _)
   | (with_reducible exact LeO.refl _)
   | (with_reducible exact LeO.none _)
   | (with_reducible refine LeO.ite ?_ ?_)
   | (with_reducible refine LeO.bind ?_ (fun _ => ?_))
   | exact ih0 _ _ _ _ _
   | exact ih1 _ _ _ _ _ _ _ _
   | exact LeO.none _
   | refine LeO.ite ?_ ?_
   | refine LeO.bind ?_ (fun _ => ?_)
theorem net_lengths.mono : ∀ a0 k, LeO (net_lengths.f k a0) (net_lengths.f (k + 1) a0) := by
 intro a0 k
 obtain ⟨ih0, ih1⟩ := net_lengths.mono_l k
 unfold net_lengths.f
 repeat' first
   | (with_reducible exact ih0 _ _ _ _ _)
   | (with_reducible exact ih1 _ _ _ _ _ _ _ _)
   | (with_reducible exact LeO.refl _)
   | (with_reducible exact LeO.none _)
   | (with_reducible refine LeO.ite ?_ ?_)
   | (with_reducible refine LeO.bind ?_ (fun _ => ?_))
   | exact ih0 _ _ _ _ _
   | exact ih1 _ _ _ _ _ _ _ _
   | exact LeO.none _
   | refine LeO.ite ?_ ?_
   | refine LeO.bind ?_ (fun _ => ?_)
set_option maxHeartbeats 8000000 in
set_option maxRecDepth 100000 in
theorem net_lengths.calls (k : Nat) (A0_0 : Option Addr) (c0_0 : Nat) (l0_0 : List (List Int)) (r : List Int) (w : World) (hr0_0 : Kd.C (Kd.slice 3 (Kd.int .i64)) w A0_0 l0_0.length l0_0) (hc0_0 : l0_0.length ≤ c0_0) (h : net_lengths.f k l0_0 = some r) :
    Calls Try.prog 71 #[.agg #[.slice A0_0 l0_0.length c0_0]] w fun e w' => ∃ v0_ : Value, e = .returned (v0_) ∧ Kd.R (Kd.int .i64) 3 w' w.heap.size (fun _ => True) v0_ r ∧ Below w.heap.size w w' := by
 have hu24 := Try.underlying24
 have HR0_0 := am hr0_0
 have HC0_0 := am hc0_0
 clear hr0_0 hc0_0
 have HB := am (Below.refl w.heap.size w)
 have H : (if 0 ≤ (l0_0.length : Int) then (if ((l0_0.length : Int) : Int).toNat ≤ 35184372088832 then (if ((l0_0.length : Int) : Int).toNat ≤ 281474976710656 then ((some (List.replicate ((l0_0.length : Int) : Int).toNat false : List Bool)).bind fun y324 => (if 0 < (y324.length : Int) then (net_lengths.l0 k (List.replicate ((l0_0.length : Int) : Int).toNat 0) (y324.set (0 : Int).toNat true) (([0] : List Int)) 0 l0_0) else (none))) else (none)) else (none)) else (none)) = some r := h
 clear h
 by_cases c2 : 0 ≤ (l0_0.length : Int)
 rotate_left
 ·rw [if_neg c2] at H
  exact absurd H (by simp)
 rw [if_pos c2] at H
 have c2b0 := eq_true c2
 have c2b1 : decide (0 ≤ (l0_0.length : Int)) = true := decide_eq_true c2
 clear c2
 by_cases c3 : ((l0_0.length : Int) : Int).toNat ≤ 35184372088832
 rotate_left
 ·rw [if_neg c3] at H
  exact absurd H (by simp)
 rw [if_pos c3] at H
 have c3b0 := eq_true c3
 have c3b1 : decide (((l0_0.length : Int) : Int).toNat ≤ 35184372088832) = true := decide_eq_true c3
 clear c3
 obtain ⟨y321, hy321⟩ : ∃ y_ : List Int, y_ = (List.replicate ((l0_0.length : Int) : Int).toNat 0) := ⟨_, rfl⟩
 replace H : (if ((l0_0.length : Int) : Int).toNat ≤ 281474976710656 then ((some (List.replicate ((l0_0.length : Int) : Int).toNat false : List Bool)).bind fun y324 => (if 0 < (y324.length : Int) then (net_lengths.l0 k y321 (y324.set (0 : Int).toNat true) (([0] : List Int)) 0 l0_0) else (none))) else (none)) = some r := by first | (rw [hy321]; with_reducible exact H) | (have H2_ := (Option.bind_some _ _).symm.trans H; rw [hy321]; with_reducible exact H2_) | (have H2_ := (Option.bind_some _ _).symm.trans H; with_reducible exact H2_) | with_reducible exact H | (rw [hy321]; exact H) | exact H
 have Ny321 := am hy321
 clear hy321
 by_cases c4 : ((l0_0.length : Int) : Int).toNat ≤ 281474976710656
 rotate_left
 ·rw [if_neg c4] at H
  exact absurd H (by simp)
 rw [if_pos c4] at H
 have c4b0 := eq_true c4
 have c4b1 : decide (((l0_0.length : Int) : Int).toNat ≤ 281474976710656) = true := decide_eq_true c4
 clear c4
 obtain ⟨y324, hy324⟩ : ∃ y_ : List Bool, y_ = (List.replicate ((l0_0.length : Int) : Int).toNat false) := ⟨_, rfl⟩
 replace H : (if 0 < (y324.length : Int) then (net_lengths.l0 k y321 (y324.set (0 : Int).toNat true) (([0] : List Int)) 0 l0_0) else (none)) = some r := by first | (rw [hy324]; with_reducible exact H) | (have H2_ := (Option.bind_some _ _).symm.trans H; rw [hy324]; with_reducible exact H2_) | (have H2_ := (Option.bind_some _ _).symm.trans H; with_reducible exact H2_) | with_reducible exact H | (rw [hy324]; exact H) | exact H
 have Ny324 := am hy324
 clear hy324
 by_cases c5 : 0 < (y324.length : Int)
 rotate_left
 ·rw [if_neg c5] at H
  exact absurd H (by simp)
 rw [if_pos c5] at H
 have c5b0 : decide (0 < (y324.length : Int)) = true := decide_eq_true c5
 have c5b1 : decide (0 < y324.length) = true := decide_eq_true (by omega)
 clear c5
 obtain ⟨y327, hy327⟩ : ∃ y_ : List Bool, y_ = (y324.set (0 : Int).toNat true) := ⟨_, rfl⟩
 replace H : (net_lengths.l0 k y321 y327 (([0] : List Int)) 0 l0_0) = some r := by first | (rw [hy327]; with_reducible exact H) | (have H2_ := (Option.bind_some _ _).symm.trans H; rw [hy327]; with_reducible exact H2_) | (have H2_ := (Option.bind_some _ _).symm.trans H; with_reducible exact H2_) | with_reducible exact H | (rw [hy327]; exact H) | exact H
 have Ny327 := am hy327
 clear hy327
 obtain ⟨y328, hy328⟩ : ∃ y_ : List Int, y_ = (([0] : List Int)) := ⟨_, rfl⟩
 replace H : (net_lengths.l0 k y321 y327 y328 0 l0_0) = some r := by first | (rw [hy328]; with_reducible exact H) | (have H2_ := (Option.bind_some _ _).symm.trans H; rw [hy328]; with_reducible exact H2_) | (have H2_ := (Option.bind_some _ _).symm.trans H; with_reducible exact H2_) | with_reducible exact H | (rw [hy328]; exact H) | exact H
 have Ny328 := am hy328
 clear hy328
 have H' := am H
 clear H
 go_enter Try.func71, Try.ntmps71
 go_wp2_with (first | ((with_reducible refine gate_dst (N := 1) rfl ?_); refine box_event ?hg (N := 1) ?hd (cs := #[.slice A0_0 l0_0.length c0_0]) (t := 24) ?hr ?_; (case hd => rfl); (case hg => rfl); (case hr => first | (go_simp; done) | (go_simp; rfl)); intro gb320 hg w7 hbox hb; have BK320 := am (hbox); have GW320 := am ((by rw [hg]; exact (below_size (bw HB.out)) : w.heap.size ≤ gb320)); have GE320 := am ((by rw [hg]; exact (below_size (bw HB.out)) : w.heap.size ≤ gb320)); replace HB := am (below_step (bw HB.out) hb); clear hb hbox hg; have hcz8_0 : w7.cell? ⟨gb320, 0, none⟩ = some (.slice A0_0 l0_0.length c0_0) := (blk_cell BK320.out 0).trans rfl; have hfz8_0 := blk_frozen BK320.out 0) | ((with_reducible refine gate_dst (N := 12) rfl ?_); refine Kd.R_make (Kd.int .i64) _ 3 rfl (N := 12) rfl 28 _ _ rfl (l0_0.length : Int) rfl rfl Try.underlying28 (.int .i64 0) 8 info3 rfl (by decide) (by omega) 0 (ok := fun _ => True) (okp := fun _ => True) rfl (fun _ hk => hk) trivial (od zz2) (Nat.le_trans (Nat.mul_le_mul_right _ (od zz2 : (l0_0.length : Int).toNat ≤ 35184372088832)) (by omega)) (Below.refl _ _) (Nat.le_refl _) ?_; intro v322 w9 ho10 hb hg_ hnew_; clear hg_ hnew_; (first | rw [← Ny321.out] at ho10 | (simp only [Int.reduceToNat] at ho10; rw [← Ny321.out] at ho10)); have HO323 := am (Kd.R_lower ho10 (below_size (bs HB.out))); replace BK320 := am (blk_below (g := gb320) (o := .cells #[.slice A0_0 l0_0.length c0_0] 24 (0, 0)) (kb BK320.out) hb); replace HB := am (below_step (bs HB.out) hb); clear hb ho10; have hcz11_0 : w9.cell? ⟨gb320, 0, none⟩ = some (.slice A0_0 l0_0.length c0_0) := (blk_cell BK320.out 0).trans rfl; have hfz11_0 := blk_frozen BK320.out 0) | ((with_reducible refine gate_dst (N := 16) rfl ?_); refine Kd.R_make Kd.bool _ 4 rfl (N := 16) rfl 47 _ _ rfl (l0_0.length : Int) rfl rfl Try.underlying47 (.bool false) 1 info4 rfl (by decide) (by omega) false (ok := fun _ => True) (okp := fun _ => True) rfl (fun _ hk => hk) trivial (od zz2) (Nat.le_trans (Nat.mul_le_mul_right _ (od zz2 : (l0_0.length : Int).toNat ≤ 281474976710656)) (by omega)) (Below.refl _ _) (Nat.le_refl _) ?_; intro v325 w12 ho13 hb hg_ hnew_; clear hg_ hnew_; (first | rw [← Ny324.out] at ho13 | (simp only [Int.reduceToNat] at ho13; rw [← Ny324.out] at ho13)); replace HO323 := am (Kd.R_below (kR HO323.out) hb); have HO326 := am (Kd.R_lower ho13 (below_size (bs HB.out))); replace BK320 := am (blk_below (g := gb320) (o := .cells #[.slice A0_0 l0_0.length c0_0] 24 (0, 0)) (kb BK320.out) hb); replace HB := am (below_step (bs HB.out) hb); clear hb ho13; have p6 : 0 ≤ (0 : Int) := (by omega); have q6 : (0 : Int) < ((y324.length : Int) : Int) := od zz2; have qi6 : (0 < y324.length) = True := eq_true (by omega); obtain ⟨go6, co6, eo6, gb6, gl6, cl6, HG6⟩ := Kd.R_form HO326.out (by omega); (first | cases eo6 | (injection eo6 with ea_ en_ ec_; (first | subst ea_ | (injection ea_ with ea_; subst ea_)); subst ec_; clear en_)); have GB6 := am gb6; have GG6 := am HG6; clear gb6 gl6 HG6; obtain ⟨hx6_0, hf6_0⟩ := Kd.R_celln false HO326.out (0 : Int) p6 q6; (try rw [show ((0 : Int)).toNat = 0 from rfl] at hx6_0); (try simp only [Nat.reduceMul, Nat.zero_mul, Nat.zero_add, Nat.reduceAdd] at hx6_0); (try rw [show ((0 : Int)).toNat = 0 from rfl] at hf6_0); (try simp only [Nat.reduceMul, Nat.zero_mul, Nat.zero_add, Nat.reduceAdd] at hf6_0); replace p6 := eq_true p6; replace q6 := eq_true q6; obtain ⟨hy14_, hz14_⟩ := Kd.R_celln false HO326.out (0 : Int) (by omega) (od zz2); (try simp only [Int.reduceToNat, Int.toNat_zero, Int.toNat_ofNat, Nat.reduceMul, Nat.zero_mul, Nat.zero_add] at hy14_ hz14_); (try rw [show ((0 : Int)).toNat = 0 from rfl] at hy14_); (try rw [show ((0 : Int)).toNat = 0 from rfl] at hz14_); have HP14 := Kd.R_putg HO326.out (0 : Int) true) | ((with_reducible refine gate_store (t := 4) (p := 18) rfl ?_); (try (rw [drewN_self w12]; generalize hq_ : World.drewN w12 _ = w12; have n0_ := am (Kd.R_at hq_ HO323.out); have n1_ := am (Kd.R_at hq_ HO326.out); have n2_ := am (blk_at hq_ BK320.out); have n3_ := am (below_at hq_ HB.out); clear hq_ HO323 HO326 BK320 HB; have HO323 := n0_; have HO326 := n1_; have BK320 := n2_; have HB := n3_; clear n0_ n1_ n2_ n3_; (try (obtain ⟨hy14_, hz14_⟩ := Kd.R_celln false HO326.out (0 : Int) (by omega) (od zz2))); (try (try simp only [Int.reduceToNat, Int.toNat_zero, Int.toNat_ofNat, Nat.reduceMul, Nat.zero_mul, Nat.zero_add] at hy14_ hz14_)); (try (try rw [show ((0 : Int)).toNat = 0 from rfl] at hy14_)); (try (try rw [show ((0 : Int)).toNat = 0 from rfl] at hz14_)); (try (have HP14 := Kd.R_putg HO326.out (0 : Int) true)))); refine store_event (t := 4) (p := 18) (v := ?vo_w15) (w1 := (w12.setCell ⟨go6, (0 : Int).toNat, none⟩ (.bool true))) ?hg ?ho ?hn ?hr ?_; (case ho => rfl); (case hg => rfl); (case hn => rfl); (case hr => first | (go_simp; done) | (go_simp; rfl)); intro w15 hw; have hg : w12.grownBy w15 (some go6) := (by rw [hw]; exact HP14.2); have hp_ : Kd.R Kd.bool 4 w15 w.heap.size (fun _ => True) (.slice (some ⟨go6, 0, none⟩) y324.length co6) y327 := (by rw [hw, Ny327.out]; exact HP14.1); clear HP14; replace BK320 := am (blk_grown (g := gb320) (o := .cells #[.slice A0_0 l0_0.length c0_0] 24 (0, 0)) (kb BK320.out) hg (Kd.R_ne HO326.out BK320.out (by decide))); replace HO323 := am (Kd.R_over' (v := (.slice (some ⟨go6, 0, none⟩) y324.length co6)) (kR HO323.out) (Kd.R_typed HO326.out) (by decide) hg); replace HO326 := am (hp_); replace HB := am ((by rw [hw]; exact below_set (HB.out) GB6.out : Below w.heap.size w w15)); clear hg hw hp_) | ((with_reducible refine gate_dst (N := 19) rfl ?_); refine Kd.R_lit (Kd.int .i64) _ 3 ?hg (N := 19) ?hd (xs := ([0] : List Int)) (inner := [.int .i64 0]) (ok := fun _ => True) (okp := fun _ => True) ?hr ?hp (fun _ hk => hk) trivial (Below.refl _ _) (Nat.le_refl _) (by simp) ?_; (case hd => rfl); (case hg => rfl); (case hr => first | (go_simp; done) | (go_simp; rfl)); (case hp => exact (Reps.one (show Kd.M (Kd.int .i64) _ _ _ 0 [.int .i64 0] from rfl) (Reps.none _ _))); intro v329 w16 ho17 hb hg_ hnew_; clear hg_ hnew_; (first | rw [← Ny328.out] at ho17 | (simp only [Int.reduceToNat] at ho17; rw [← Ny328.out] at ho17)); replace HO326 := am (Kd.R_below (kR HO326.out) hb); have HO330 := am (Kd.R_lower (Kd.R_new' ho17 (Kd.R_lt (kR HO323.out))) (below_size (bs HB.out))); replace HO323 := am (Kd.R_elder' (kR HO323.out) (Kd.R_base ho17) hb); replace BK320 := am (blk_below (g := gb320) (o := .cells #[.slice A0_0 l0_0.length c0_0] 24 (0, 0)) (kb BK320.out) hb); replace HB := am (below_step (bs HB.out) hb); clear hb ho17))
 repeat (go_quiet (first | ((with_reducible refine gate_dst (N := 1) rfl ?_); refine box_event ?hg (N := 1) ?hd (cs := #[.slice A0_0 l0_0.length c0_0]) (t := 24) ?hr ?_; (case hd => rfl); (case hg => rfl); (case hr => first | (go_simp; done) | (go_simp; rfl)); intro gb320 hg w7 hbox hb; have BK320 := am (hbox); have GW320 := am ((by rw [hg]; exact (below_size (bw HB.out)) : w.heap.size ≤ gb320)); have GE320 := am ((by rw [hg]; exact (below_size (bw HB.out)) : w.heap.size ≤ gb320)); replace HB := am (below_step (bw HB.out) hb); clear hb hbox hg; have hcz8_0 : w7.cell? ⟨gb320, 0, none⟩ = some (.slice A0_0 l0_0.length c0_0) := (blk_cell BK320.out 0).trans rfl; have hfz8_0 := blk_frozen BK320.out 0) | ((with_reducible refine gate_dst (N := 12) rfl ?_); refine Kd.R_make (Kd.int .i64) _ 3 rfl (N := 12) rfl 28 _ _ rfl (l0_0.length : Int) rfl rfl Try.underlying28 (.int .i64 0) 8 info3 rfl (by decide) (by omega) 0 (ok := fun _ => True) (okp := fun _ => True) rfl (fun _ hk => hk) trivial (od zz2) (Nat.le_trans (Nat.mul_le_mul_right _ (od zz2 : (l0_0.length : Int).toNat ≤ 35184372088832)) (by omega)) (Below.refl _ _) (Nat.le_refl _) ?_; intro v322 w9 ho10 hb hg_ hnew_; clear hg_ hnew_; (first | rw [← Ny321.out] at ho10 | (simp only [Int.reduceToNat] at ho10; rw [← Ny321.out] at ho10)); have HO323 := am (Kd.R_lower ho10 (below_size (bs HB.out))); replace BK320 := am (blk_below (g := gb320) (o := .cells #[.slice A0_0 l0_0.length c0_0] 24 (0, 0)) (kb BK320.out) hb); replace HB := am (below_step (bs HB.out) hb); clear hb ho10; have hcz11_0 : w9.cell? ⟨gb320, 0, none⟩ = some (.slice A0_0 l0_0.length c0_0) := (blk_cell BK320.out 0).trans rfl; have hfz11_0 := blk_frozen BK320.out 0) | ((with_reducible refine gate_dst (N := 16) rfl ?_); refine Kd.R_make Kd.bool _ 4 rfl (N := 16) rfl 47 _ _ rfl (l0_0.length : Int) rfl rfl Try.underlying47 (.bool false) 1 info4 rfl (by decide) (by omega) false (ok := fun _ => True) (okp := fun _ => True) rfl (fun _ hk => hk) trivial (od zz2) (Nat.le_trans (Nat.mul_le_mul_right _ (od zz2 : (l0_0.length : Int).toNat ≤ 281474976710656)) (by omega)) (Below.refl _ _) (Nat.le_refl _) ?_; intro v325 w12 ho13 hb hg_ hnew_; clear hg_ hnew_; (first | rw [← Ny324.out] at ho13 | (simp only [Int.reduceToNat] at ho13; rw [← Ny324.out] at ho13)); replace HO323 := am (Kd.R_below (kR HO323.out) hb); have HO326 := am (Kd.R_lower ho13 (below_size (bs HB.out))); replace BK320 := am (blk_below (g := gb320) (o := .cells #[.slice A0_0 l0_0.length c0_0] 24 (0, 0)) (kb BK320.out) hb); replace HB := am (below_step (bs HB.out) hb); clear hb ho13; have p6 : 0 ≤ (0 : Int) := (by omega); have q6 : (0 : Int) < ((y324.length : Int) : Int) := od zz2; have qi6 : (0 < y324.length) = True := eq_true (by omega); obtain ⟨go6, co6, eo6, gb6, gl6, cl6, HG6⟩ := Kd.R_form HO326.out (by omega); (first | cases eo6 | (injection eo6 with ea_ en_ ec_; (first | subst ea_ | (injection ea_ with ea_; subst ea_)); subst ec_; clear en_)); have GB6 := am gb6; have GG6 := am HG6; clear gb6 gl6 HG6; obtain ⟨hx6_0, hf6_0⟩ := Kd.R_celln false HO326.out (0 : Int) p6 q6; (try rw [show ((0 : Int)).toNat = 0 from rfl] at hx6_0); (try simp only [Nat.reduceMul, Nat.zero_mul, Nat.zero_add, Nat.reduceAdd] at hx6_0); (try rw [show ((0 : Int)).toNat = 0 from rfl] at hf6_0); (try simp only [Nat.reduceMul, Nat.zero_mul, Nat.zero_add, Nat.reduceAdd] at hf6_0); replace p6 := eq_true p6; replace q6 := eq_true q6; obtain ⟨hy14_, hz14_⟩ := Kd.R_celln false HO326.out (0 : Int) (by omega) (od zz2); (try simp only [Int.reduceToNat, Int.toNat_zero, Int.toNat_ofNat, Nat.reduceMul, Nat.zero_mul, Nat.zero_add] at hy14_ hz14_); (try rw [show ((0 : Int)).toNat = 0 from rfl] at hy14_); (try rw [show ((0 : Int)).toNat = 0 from rfl] at hz14_); have HP14 := Kd.R_putg HO326.out (0 : Int) true) | ((with_reducible refine gate_store (t := 4) (p := 18) rfl ?_); (try (rw [drewN_self w12]; generalize hq_ : World.drewN w12 _ = w12; have n0_ := am (Kd.R_at hq_ HO323.out); have n1_ := am (Kd.R_at hq_ HO326.out); have n2_ := am (blk_at hq_ BK320.out); have n3_ := am (below_at hq_ HB.out); clear hq_ HO323 HO326 BK320 HB; have HO323 := n0_; have HO326 := n1_; have BK320 := n2_; have HB := n3_; clear n0_ n1_ n2_ n3_; (try (obtain ⟨hy14_, hz14_⟩ := Kd.R_celln false HO326.out (0 : Int) (by omega) (od zz2))); (try (try simp only [Int.reduceToNat, Int.toNat_zero, Int.toNat_ofNat, Nat.reduceMul, Nat.zero_mul, Nat.zero_add] at hy14_ hz14_)); (try (try rw [show ((0 : Int)).toNat = 0 from rfl] at hy14_)); (try (try rw [show ((0 : Int)).toNat = 0 from rfl] at hz14_)); (try (have HP14 := Kd.R_putg HO326.out (0 : Int) true)))); refine store_event (t := 4) (p := 18) (v := ?vo_w15) (w1 := (w12.setCell ⟨go6, (0 : Int).toNat, none⟩ (.bool true))) ?hg ?ho ?hn ?hr ?_; (case ho => rfl); (case hg => rfl); (case hn => rfl); (case hr => first | (go_simp; done) | (go_simp; rfl)); intro w15 hw; have hg : w12.grownBy w15 (some go6) := (by rw [hw]; exact HP14.2); have hp_ : Kd.R Kd.bool 4 w15 w.heap.size (fun _ => True) (.slice (some ⟨go6, 0, none⟩) y324.length co6) y327 := (by rw [hw, Ny327.out]; exact HP14.1); clear HP14; replace BK320 := am (blk_grown (g := gb320) (o := .cells #[.slice A0_0 l0_0.length c0_0] 24 (0, 0)) (kb BK320.out) hg (Kd.R_ne HO326.out BK320.out (by decide))); replace HO323 := am (Kd.R_over' (v := (.slice (some ⟨go6, 0, none⟩) y324.length co6)) (kR HO323.out) (Kd.R_typed HO326.out) (by decide) hg); replace HO326 := am (hp_); replace HB := am ((by rw [hw]; exact below_set (HB.out) GB6.out : Below w.heap.size w w15)); clear hg hw hp_) | ((with_reducible refine gate_dst (N := 19) rfl ?_); refine Kd.R_lit (Kd.int .i64) _ 3 ?hg (N := 19) ?hd (xs := ([0] : List Int)) (inner := [.int .i64 0]) (ok := fun _ => True) (okp := fun _ => True) ?hr ?hp (fun _ hk => hk) trivial (Below.refl _ _) (Nat.le_refl _) (by simp) ?_; (case hd => rfl); (case hg => rfl); (case hr => first | (go_simp; done) | (go_simp; rfl)); (case hp => exact (Reps.one (show Kd.M (Kd.int .i64) _ _ _ 0 [.int .i64 0] from rfl) (Reps.none _ _))); intro v329 w16 ho17 hb hg_ hnew_; clear hg_ hnew_; (first | rw [← Ny328.out] at ho17 | (simp only [Int.reduceToNat] at ho17; rw [← Ny328.out] at ho17)); replace HO326 := am (Kd.R_below (kR HO326.out) hb); have HO330 := am (Kd.R_lower (Kd.R_new' ho17 (Kd.R_lt (kR HO323.out))) (below_size (bs HB.out))); replace HO323 := am (Kd.R_elder' (kR HO323.out) (Kd.R_base ho17) hb); replace BK320 := am (blk_below (g := gb320) (o := .cells #[.slice A0_0 l0_0.length c0_0] 24 (0, 0)) (kb BK320.out) hb); replace HB := am (below_step (bs HB.out) hb); clear hb ho17)); try go_wp2_with (first | ((with_reducible refine gate_dst (N := 1) rfl ?_); refine box_event ?hg (N := 1) ?hd (cs := #[.slice A0_0 l0_0.length c0_0]) (t := 24) ?hr ?_; (case hd => rfl); (case hg => rfl); (case hr => first | (go_simp; done) | (go_simp; rfl)); intro gb320 hg w7 hbox hb; have BK320 := am (hbox); have GW320 := am ((by rw [hg]; exact (below_size (bw HB.out)) : w.heap.size ≤ gb320)); have GE320 := am ((by rw [hg]; exact (below_size (bw HB.out)) : w.heap.size ≤ gb320)); replace HB := am (below_step (bw HB.out) hb); clear hb hbox hg; have hcz8_0 : w7.cell? ⟨gb320, 0, none⟩ = some (.slice A0_0 l0_0.length c0_0) := (blk_cell BK320.out 0).trans rfl; have hfz8_0 := blk_frozen BK320.out 0) | ((with_reducible refine gate_dst (N := 12) rfl ?_); refine Kd.R_make (Kd.int .i64) _ 3 rfl (N := 12) rfl 28 _ _ rfl (l0_0.length : Int) rfl rfl Try.underlying28 (.int .i64 0) 8 info3 rfl (by decide) (by omega) 0 (ok := fun _ => True) (okp := fun _ => True) rfl (fun _ hk => hk) trivial (od zz2) (Nat.le_trans (Nat.mul_le_mul_right _ (od zz2 : (l0_0.length : Int).toNat ≤ 35184372088832)) (by omega)) (Below.refl _ _) (Nat.le_refl _) ?_; intro v322 w9 ho10 hb hg_ hnew_; clear hg_ hnew_; (first | rw [← Ny321.out] at ho10 | (simp only [Int.reduceToNat] at ho10; rw [← Ny321.out] at ho10)); have HO323 := am (Kd.R_lower ho10 (below_size (bs HB.out))); replace BK320 := am (blk_below (g := gb320) (o := .cells #[.slice A0_0 l0_0.length c0_0] 24 (0, 0)) (kb BK320.out) hb); replace HB := am (below_step (bs HB.out) hb); clear hb ho10; have hcz11_0 : w9.cell? ⟨gb320, 0, none⟩ = some (.slice A0_0 l0_0.length c0_0) := (blk_cell BK320.out 0).trans rfl; have hfz11_0 := blk_frozen BK320.out 0) | ((with_reducible refine gate_dst (N := 16) rfl ?_); refine Kd.R_make Kd.bool _ 4 rfl (N := 16) rfl 47 _ _ rfl (l0_0.length : Int) rfl rfl Try.underlying47 (.bool false) 1 info4 rfl (by decide) (by omega) false (ok := fun _ => True) (okp := fun _ => True) rfl (fun _ hk => hk) trivial (od zz2) (Nat.le_trans (Nat.mul_le_mul_right _ (od zz2 : (l0_0.length : Int).toNat ≤ 281474976710656)) (by omega)) (Below.refl _ _) (Nat.le_refl _) ?_; intro v325 w12 ho13 hb hg_ hnew_; clear hg_ hnew_; (first | rw [← Ny324.out] at ho13 | (simp only [Int.reduceToNat] at ho13; rw [← Ny324.out] at ho13)); replace HO323 := am (Kd.R_below (kR HO323.out) hb); have HO326 := am (Kd.R_lower ho13 (below_size (bs HB.out))); replace BK320 := am (blk_below (g := gb320) (o := .cells #[.slice A0_0 l0_0.length c0_0] 24 (0, 0)) (kb BK320.out) hb); replace HB := am (below_step (bs HB.out) hb); clear hb ho13; have p6 : 0 ≤ (0 : Int) := (by omega); have q6 : (0 : Int) < ((y324.length : Int) : Int) := od zz2; have qi6 : (0 < y324.length) = True := eq_true (by omega); obtain ⟨go6, co6, eo6, gb6, gl6, cl6, HG6⟩ := Kd.R_form HO326.out (by omega); (first | cases eo6 | (injection eo6 with ea_ en_ ec_; (first | subst ea_ | (injection ea_ with ea_; subst ea_)); subst ec_; clear en_)); have GB6 := am gb6; have GG6 := am HG6; clear gb6 gl6 HG6; obtain ⟨hx6_0, hf6_0⟩ := Kd.R_celln false HO326.out (0 : Int) p6 q6; (try rw [show ((0 : Int)).toNat = 0 from rfl] at hx6_0); (try simp only [Nat.reduceMul, Nat.zero_mul, Nat.zero_add, Nat.reduceAdd] at hx6_0); (try rw [show ((0 : Int)).toNat = 0 from rfl] at hf6_0); (try simp only [Nat.reduceMul, Nat.zero_mul, Nat.zero_add, Nat.reduceAdd] at hf6_0); replace p6 := eq_true p6; replace q6 := eq_true q6; obtain ⟨hy14_, hz14_⟩ := Kd.R_celln false HO326.out (0 : Int) (by omega) (od zz2); (try simp only [Int.reduceToNat, Int.toNat_zero, Int.toNat_ofNat, Nat.reduceMul, Nat.zero_mul, Nat.zero_add] at hy14_ hz14_); (try rw [show ((0 : Int)).toNat = 0 from rfl] at hy14_); (try rw [show ((0 : Int)).toNat = 0 from rfl] at hz14_); have HP14 := Kd.R_putg HO326.out (0 : Int) true) | ((with_reducible refine gate_store (t := 4) (p := 18) rfl ?_); (try (rw [drewN_self w12]; generalize hq_ : World.drewN w12 _ = w12; have n0_ := am (Kd.R_at hq_ HO323.out); have n1_ := am (Kd.R_at hq_ HO326.out); have n2_ := am (blk_at hq_ BK320.out); have n3_ := am (below_at hq_ HB.out); clear hq_ HO323 HO326 BK320 HB; have HO323 := n0_; have HO326 := n1_; have BK320 := n2_; have HB := n3_; clear n0_ n1_ n2_ n3_; (try (obtain ⟨hy14_, hz14_⟩ := Kd.R_celln false HO326.out (0 : Int) (by omega) (od zz2))); (try (try simp only [Int.reduceToNat, Int.toNat_zero, Int.toNat_ofNat, Nat.reduceMul, Nat.zero_mul, Nat.zero_add] at hy14_ hz14_)); (try (try rw [show ((0 : Int)).toNat = 0 from rfl] at hy14_)); (try (try rw [show ((0 : Int)).toNat = 0 from rfl] at hz14_)); (try (have HP14 := Kd.R_putg HO326.out (0 : Int) true)))); refine store_event (t := 4) (p := 18) (v := ?vo_w15) (w1 := (w12.setCell ⟨go6, (0 : Int).toNat, none⟩ (.bool true))) ?hg ?ho ?hn ?hr ?_; (case ho => rfl); (case hg => rfl); (case hn => rfl); (case hr => first | (go_simp; done) | (go_simp; rfl)); intro w15 hw; have hg : w12.grownBy w15 (some go6) := (by rw [hw]; exact HP14.2); have hp_ : Kd.R Kd.bool 4 w15 w.heap.size (fun _ => True) (.slice (some ⟨go6, 0, none⟩) y324.length co6) y327 := (by rw [hw, Ny327.out]; exact HP14.1); clear HP14; replace BK320 := am (blk_grown (g := gb320) (o := .cells #[.slice A0_0 l0_0.length c0_0] 24 (0, 0)) (kb BK320.out) hg (Kd.R_ne HO326.out BK320.out (by decide))); replace HO323 := am (Kd.R_over' (v := (.slice (some ⟨go6, 0, none⟩) y324.length co6)) (kR HO323.out) (Kd.R_typed HO326.out) (by decide) hg); replace HO326 := am (hp_); replace HB := am ((by rw [hw]; exact below_set (HB.out) GB6.out : Below w.heap.size w w15)); clear hg hw hp_) | ((with_reducible refine gate_dst (N := 19) rfl ?_); refine Kd.R_lit (Kd.int .i64) _ 3 ?hg (N := 19) ?hd (xs := ([0] : List Int)) (inner := [.int .i64 0]) (ok := fun _ => True) (okp := fun _ => True) ?hr ?hp (fun _ hk => hk) trivial (Below.refl _ _) (Nat.le_refl _) (by simp) ?_; (case hd => rfl); (case hg => rfl); (case hr => first | (go_simp; done) | (go_simp; rfl)); (case hp => exact (Reps.one (show Kd.M (Kd.int .i64) _ _ _ 0 [.int .i64 0] from rfl) (Reps.none _ _))); intro v329 w16 ho17 hb hg_ hnew_; clear hg_ hnew_; (first | rw [← Ny328.out] at ho17 | (simp only [Int.reduceToNat] at ho17; rw [← Ny328.out] at ho17)); replace HO326 := am (Kd.R_below (kR HO326.out) hb); have HO330 := am (Kd.R_lower (Kd.R_new' ho17 (Kd.R_lt (kR HO323.out))) (below_size (bs HB.out))); replace HO323 := am (Kd.R_elder' (kR HO323.out) (Kd.R_base ho17) hb); replace BK320 := am (blk_below (g := gb320) (o := .cells #[.slice A0_0 l0_0.length c0_0] 24 (0, 0)) (kb BK320.out) hb); replace HB := am (below_step (bs HB.out) hb); clear hb ho17)))
 go_loopg [5, 6] k (fun kq v5 v6 w' => ∃ (x3_1 : List Int) (x4_1 : List Bool) (x5_1 : List Int) (x6_1 : Int), v6 = .int .i64 x6_1 ∧ Aside0 (net_lengths.l0 kq x3_1 x4_1 x5_1 x6_1 l0_0 = some r) ∧ Aside0 (kq ≤ k) ∧ Aside0 (Kd.R (Kd.int .i64) 3 w' w.heap.size (fun k_ => some k_ ≠ (v5 : Value).ownBlock) v322 x3_1) ∧ Aside0 (Kd.R Kd.bool 4 w' w.heap.size (fun _ => True) (.slice (some ⟨go6, 0, none⟩) y324.length co6) x4_1) ∧ Aside0 (Kd.R (Kd.int .i64) 3 w' w.heap.size (fun k_ => some k_ ≠ (v322 : Value).ownBlock) v5 x5_1) ∧ Aside0 (w'.heap[gb320]? = some (.cells #[(.slice A0_0 l0_0.length c0_0)] 24 (0, 0))) ∧ Aside0 (Below w.heap.size w w'))
 case atStart => exact ⟨(y321), (y327), (y328), (0), zz3, H', ⟨Nat.le_refl _⟩, ⟨kR (Kd.R_mono HO323.out (fun _ hk => hk.2))⟩, ⟨kR HO326.out⟩, ⟨kR (Kd.R_mono HO330.out (fun _ hk => hk.2))⟩, ⟨kb BK320.out⟩, ⟨bs HB.out⟩⟩
 case round =>
  clear H'
  (try clear c2); (try clear c2b0); (try clear c2b1); (try clear p2); (try clear c3); (try clear c3b0); (try clear c3b1); (try clear c4); (try clear c4b0); (try clear c4b1); (try clear c5); (try clear c5b0); (try clear c5b1); (try clear p6); (try clear q6); (try clear hx6); (try clear qi6); (try clear hf6); (try clear c7); (try clear hcz11_0); (try clear hcz8_0); (try clear hfz11_0); (try clear hfz8_0); (try clear hx6_0); (try clear p6); (try clear q6)
  obtain ⟨x3_1, x4_1, x5_1, x6_1, rfl, HA, HK1, HO_3, HO_4, HO_5, BK320, HB⟩ := hrel
  have hl4_1 := (Kd.R_reads' HO_4.out).1
  rw [hl4_1] at HO_4
  (try simp only [hl4_1])
  (try simp only [hl4_1] at BK320)
  (try simp only [hl4_1] at HO_3)
  (try simp only [hl4_1] at HO_5)
  cases gk with
  | zero => exact absurd HA.out (by simp [net_lengths.l0])
  | succ k1 =>
   have H := HA.out
   clear HA
   simp only [net_lengths.l0] at H
   by_cases c18 : x6_1 < (x5_1.length : Int)
   rotate_left
   ·rw [if_neg c18] at H
    have c18b0 : decide (x6_1 < (x5_1.length : Int)) = false := decide_eq_false c18
    clear c18
    obtain rfl := Option.some.inj H
    obtain ⟨Ao46, co46, eo46⟩ := Kd.R_slice HO_5.out
    subst eo46
    go_wp2
    repeat (go_quiet (fail); try go_wp2)
    go_ret
    exact ⟨_, by first | rfl | (simp [errW_none, errW_some] <;> rfl) | (simp [*, errW_none, errW_some] <;> rfl), kR (Kd.R_mono HO_3.out (fun _ hk => trivial)), bs HB.out⟩
   rw [if_pos c18] at H
   have c18b0 : decide (x6_1 < (x5_1.length : Int)) = true := decide_eq_true c18
   clear c18
   by_cases c19 : 0 ≤ x6_1
   rotate_left
   ·rw [if_neg c19] at H
    exact absurd H (by simp)
   rw [if_pos c19] at H
   have c19b0 : decide (0 ≤ x6_1) = true := decide_eq_true c19
   clear c19
   by_cases c20 : 0 ≤ (rd x5_1 x6_1)
   rotate_left
   ·rw [if_neg c20] at H
    exact absurd H (by simp)
   rw [if_pos c20] at H
   have c20b0 : decide (0 ≤ (rd x5_1 x6_1)) = true := decide_eq_true c20
   clear c20
   by_cases c21 : (rd x5_1 x6_1) < (l0_0.length : Int)
   rotate_left
   ·rw [if_neg c21] at H
    exact absurd H (by simp)
   rw [if_pos c21] at H
   have c21b0 : decide ((rd x5_1 x6_1) < (l0_0.length : Int)) = true := decide_eq_true c21
   clear c21
   have H' := am H
   clear H
   obtain ⟨Ao22, co22, eo22⟩ := Kd.R_slice HO_5.out
   subst eo22
   have hcz23_0 : wr.cell? ⟨gb320, 0, none⟩ = some (.slice A0_0 l0_0.length c0_0) := (blk_cell BK320.out 0).trans rfl
   have hfz23_0 := blk_frozen BK320.out 0
   have p331 : 0 ≤ (x6_1 : Int) := od zz2
   have q331 : x6_1 < (x5_1.length : Int) := od zz2
   obtain ⟨ad331, e331, hx331_0⟩ := Kd.at_int (Kd.R_reads' HO_5.out).2.2 x6_1 p331 q331
   cases e331
   replace p331 := eq_true p331
   replace q331 := eq_true q331
   have p332 : 0 ≤ ((rd x5_1 x6_1) : Int) := od zz2
   have q332 : (rd x5_1 x6_1) < (l0_0.length : Int) := od zz2
   obtain ⟨ad332, A332_0, c332_0, e332, hx332_0, hl332_0, hi332_0⟩ := at_L1 HR0_0.out (rd x5_1 x6_1) p332 q332
   cases e332
   replace hx332_0 := (HB.out.cell (World.block_lt_of_cell? w _ hx332_0)).trans hx332_0
   have HR332_0 := am hi332_0
   have HC332_0 := am hl332_0
   clear hi332_0 hl332_0
   replace p332 := eq_true p332
   replace q332 := eq_true q332
   go_wp2
   repeat (go_quiet (fail); try go_wp2)
   go_loopg [5, 35] k1 (fun kq v5 v35 w' => ∃ (x3_2 : List Int) (x4_2 : List Bool) (x5_2 : List Int) (x35_2 : Int), v35 = .int .i64 x35_2 ∧ Aside0 (net_lengths.l1 kq x3_2 x4_2 x5_2 x6_1 (rd_L1 l0_0 (rd x5_1 x6_1)) ((rd_L1 l0_0 (rd x5_1 x6_1)).length : Int) x35_2 l0_0 = some r) ∧ Aside0 (kq ≤ k1) ∧ Aside0 (Kd.R (Kd.int .i64) 3 w' w.heap.size (fun k_ => some k_ ≠ (v5 : Value).ownBlock) v322 x3_2) ∧ Aside0 (Kd.R Kd.bool 4 w' w.heap.size (fun _ => True) (.slice (some ⟨go6, 0, none⟩) x4_1.length co6) x4_2) ∧ Aside0 (Kd.R (Kd.int .i64) 3 w' w.heap.size (fun k_ => some k_ ≠ (v322 : Value).ownBlock) v5 x5_2) ∧ Aside0 (w'.heap[gb320]? = some (.cells #[(.slice (some ad332) l0_0.length c0_0)] 24 (0, 0))) ∧ Aside0 (Below w.heap.size w w'))
   case atStart => exact ⟨(x3_1), (x4_1), (x5_1), (0), zz3, H', ⟨Nat.le_refl _⟩, ⟨by (try simp only [hl4_1]); (with_reducible repeat (first | apply Kd.R_alloc | apply Kd.R_drewN | apply Kd.R_drew)); exact HO_3.out⟩, ⟨by (try simp only [hl4_1]); (with_reducible repeat (first | apply Kd.R_alloc | apply Kd.R_drewN | apply Kd.R_drew)); exact HO_4.out⟩, ⟨by (try simp only [hl4_1]); (with_reducible repeat (first | apply Kd.R_alloc | apply Kd.R_drewN | apply Kd.R_drew)); exact HO_5.out⟩, ⟨by (try simp only [hl4_1]); (with_reducible repeat (first | refine blk_drewN ?_ _ | refine blk_drew ?_ | refine blk_alloc ?_ _)); exact BK320.out⟩, ⟨bs HB.out⟩⟩
   case round =>
    clear H'
    (try clear c1); (try clear c2); (try clear c2b0); (try clear c2b1); (try clear p2); (try clear c3); (try clear c3b0); (try clear c3b1); (try clear p3); (try clear q3); (try clear hx3); (try clear c4); (try clear c4b0); (try clear c4b1); (try clear c5); (try clear c5b0); (try clear c5b1); (try clear p6); (try clear q6); (try clear hx6); (try clear qi6); (try clear hf6); (try clear c7); (try clear c18); (try clear c18b0); (try clear c19); (try clear c19b0); (try clear c20); (try clear c20b0); (try clear c21); (try clear c21b0); (try clear hcz11_0); (try clear hcz23_0); (try clear hcz8_0); (try clear hfz11_0); (try clear hfz23_0); (try clear hfz8_0); (try clear hx331_0); (try clear hx332_0); (try clear hx6_0); (try clear p2); (try clear p331); (try clear p332); (try clear p6); (try clear q331); (try clear q332); (try clear q6)
    obtain ⟨x3_2, x4_2, x5_2, x35_2, rfl, HA, HK2, HO_3, HO_4, HO_5, BK320, HB⟩ := hrel
    have hl4_2 := (Kd.R_reads' HO_4.out).1
    rw [hl4_2] at HO_4
    (try simp only [hl4_2])
    (try simp only [hl4_2] at BK320)
    (try simp only [hl4_2] at HO_3)
    (try simp only [hl4_2] at HO_5)
    cases gk with
    | zero => exact absurd HA.out (by simp [net_lengths.l1])
    | succ k2 =>
     have H := HA.out
     clear HA
     simp only [net_lengths.l1] at H
     by_cases c24 : x35_2 < ((rd_L1 l0_0 (rd x5_1 x6_1)).length : Int)
     rotate_left
     ·rw [if_neg c24] at H
      have c24b0 : decide (x35_2 < ((rd_L1 l0_0 (rd x5_1 x6_1)).length : Int)) = false := decide_eq_false c24
      clear c24
      have H' := am H
      clear H
      go_wp2
      repeat (go_quiet (fail); try go_wp2)
      (try simp only [← hl4_1, ← hl4_2])
      go_roundg k2
      case measure => have := HK1.out; have := HK2.out; omega
      case rel => exact ⟨(x3_2), (x4_2), (x5_2), (wrap64 (x6_1 + 1)), zz3, H', ⟨by have := HK1.out; have := HK2.out; omega⟩, ⟨by (try simp only [hl4_1]); (try simp only [hl4_2]); (with_reducible repeat (first | apply Kd.R_alloc | apply Kd.R_drewN | apply Kd.R_drew)); exact HO_3.out⟩, ⟨by (try simp only [hl4_1]); (try simp only [hl4_2]); (with_reducible repeat (first | apply Kd.R_alloc | apply Kd.R_drewN | apply Kd.R_drew)); exact HO_4.out⟩, ⟨by (try simp only [hl4_1]); (try simp only [hl4_2]); (with_reducible repeat (first | apply Kd.R_alloc | apply Kd.R_drewN | apply Kd.R_drew)); exact HO_5.out⟩, ⟨by (try simp only [hl4_1]); (try simp only [hl4_2]); (with_reducible repeat (first | refine blk_drewN ?_ _ | refine blk_drew ?_ | refine blk_alloc ?_ _)); exact BK320.out⟩, ⟨bs HB.out⟩⟩
     rw [if_pos c24] at H
     have c24b0 : decide (x35_2 < ((rd_L1 l0_0 (rd x5_1 x6_1)).length : Int)) = true := decide_eq_true c24
     clear c24
     by_cases c25 : 0 ≤ x35_2
     rotate_left
     ·rw [if_neg c25] at H
      exact absurd H (by simp)
     rw [if_pos c25] at H
     have c25b0 : decide (0 ≤ x35_2) = true := decide_eq_true c25
     clear c25
     by_cases c26 : x35_2 < ((rd_L1 l0_0 (rd x5_1 x6_1)).length : Int)
     rotate_left
     ·rw [if_neg c26] at H
      exact absurd H (by simp)
     rw [if_pos c26] at H
     have c26b0 : decide (x35_2 < ((rd_L1 l0_0 (rd x5_1 x6_1)).length : Int)) = true := decide_eq_true c26
     clear c26
     by_cases c27 : 0 ≤ (rd (rd_L1 l0_0 (rd x5_1 x6_1)) x35_2)
     rotate_left
     ·rw [if_neg c27] at H
      exact absurd H (by simp)
     rw [if_pos c27] at H
     have c27b0 : decide (0 ≤ (rd (rd_L1 l0_0 (rd x5_1 x6_1)) x35_2)) = true := decide_eq_true c27
     clear c27
     by_cases c28 : (rd (rd_L1 l0_0 (rd x5_1 x6_1)) x35_2) < (x4_2.length : Int)
     rotate_left
     ·rw [if_neg c28] at H
      exact absurd H (by simp)
     rw [if_pos c28] at H
     have c28b0 : decide ((rd (rd_L1 l0_0 (rd x5_1 x6_1)) x35_2) < (x4_2.length : Int)) = true := decide_eq_true c28
     clear c28
     obtain ⟨bq29, hbq29⟩ : ∃ b_ : Bool, b_ = (rdOf false x4_2 (rd (rd_L1 l0_0 (rd x5_1 x6_1)) x35_2)) := ⟨_, rfl⟩
     replace H : (if (bq29 = true) then (net_lengths.l1 k2 x3_2 x4_2 x5_2 x6_1 (rd_L1 l0_0 (rd x5_1 x6_1)) ((rd_L1 l0_0 (rd x5_1 x6_1)).length : Int) (wrap64 (x35_2 + 1)) l0_0) else (if 0 ≤ x6_1 then (if x6_1 < (x5_2.length : Int) then (if 0 ≤ (rd x5_2 x6_1) then (if (rd x5_2 x6_1) < (x3_2.length : Int) then (if (rd (rd_L1 l0_0 (rd x5_1 x6_1)) x35_2) < (x3_2.length : Int) then (if x5_2.length < 17592186044416 then (net_lengths.l1 k2 (x3_2.set ((rd (rd_L1 l0_0 (rd x5_1 x6_1)) x35_2) : Int).toNat (wrap64 ((rd x3_2 (rd x5_2 x6_1)) + 1))) (x4_2.set ((rd (rd_L1 l0_0 (rd x5_1 x6_1)) x35_2) : Int).toNat true) (x5_2 ++ [rd (rd_L1 l0_0 (rd x5_1 x6_1)) x35_2]) x6_1 (rd_L1 l0_0 (rd x5_1 x6_1)) ((rd_L1 l0_0 (rd x5_1 x6_1)).length : Int) (wrap64 (x35_2 + 1)) l0_0) else (none)) else (none)) else (none)) else (none)) else (none)) else (none))) = some r := by rw [← hbq29] at H; exact H
     have Nbq29 := am hbq29
     clear hbq29
     by_cases c30 : (bq29 = true)
     ·subst c30
      have H1 : (net_lengths.l1 k2 x3_2 x4_2 x5_2 x6_1 (rd_L1 l0_0 (rd x5_1 x6_1)) ((rd_L1 l0_0 (rd x5_1 x6_1)).length : Int) (wrap64 (x35_2 + 1)) l0_0) = some r := by rw [if_pos rfl] at H; exact H
      clear H
      have H := H1
      clear H1
      have H' := am H
      clear H
      have p333 : 0 ≤ (x35_2 : Int) := od zz2
      have q333 : x35_2 < ((rd_L1 l0_0 (rd x5_1 x6_1)).length : Int) := od zz2
      obtain ⟨ad333, e333, hx333_0⟩ := Kd.at_int HR332_0.out x35_2 p333 q333
      cases e333
      replace hx333_0 := (HB.out.cell (World.block_lt_of_cell? w _ hx333_0)).trans hx333_0
      replace p333 := eq_true p333
      replace q333 := eq_true q333
      have p334 : 0 ≤ ((rd (rd_L1 l0_0 (rd x5_1 x6_1)) x35_2) : Int) := od zz2
      have q334 : (rd (rd_L1 l0_0 (rd x5_1 x6_1)) x35_2) < (x4_2.length : Int) := od zz2
      obtain ⟨ad334, e334, hx334_0⟩ := Kd.at_bool (Kd.R_reads' HO_4.out).2.2 (rd (rd_L1 l0_0 (rd x5_1 x6_1)) x35_2) p334 q334
      (try rw [← Nbq29.out] at hx334_0)
      obtain rfl : (⟨go6, 0, none⟩ : Addr) = ad334 := (by injection e334)
      (first | simp only [add_plain] at hx334_0 | simp only [add_at] at hx334_0 | simp only [Addr.add, Nat.zero_add] at hx334_0 | skip)
      replace p334 := eq_true p334
      replace q334 := eq_true q334
      go_wp2
      repeat (go_quiet (fail); try go_wp2)
      (try simp only [← hl4_2])
      go_roundg k2
      case measure => have := HK1.out; have := HK2.out; omega
      case rel => exact ⟨(x3_2), (x4_2), (x5_2), (wrap64 (x35_2 + 1)), zz3, H', ⟨by have := HK1.out; have := HK2.out; omega⟩, ⟨by (try simp only [hl4_1]); (try simp only [hl4_2]); (with_reducible repeat (first | apply Kd.R_alloc | apply Kd.R_drewN | apply Kd.R_drew)); exact HO_3.out⟩, ⟨by (try simp only [hl4_1]); (try simp only [hl4_2]); (with_reducible repeat (first | apply Kd.R_alloc | apply Kd.R_drewN | apply Kd.R_drew)); exact HO_4.out⟩, ⟨by (try simp only [hl4_1]); (try simp only [hl4_2]); (with_reducible repeat (first | apply Kd.R_alloc | apply Kd.R_drewN | apply Kd.R_drew)); exact HO_5.out⟩, ⟨by (try simp only [hl4_1]); (try simp only [hl4_2]); (with_reducible repeat (first | refine blk_drewN ?_ _ | refine blk_drew ?_ | refine blk_alloc ?_ _)); exact BK320.out⟩, ⟨bs HB.out⟩⟩
     replace c30 := Bool.eq_false_iff.mpr c30
     subst c30
     have H1 : (if 0 ≤ x6_1 then (if x6_1 < (x5_2.length : Int) then (if 0 ≤ (rd x5_2 x6_1) then (if (rd x5_2 x6_1) < (x3_2.length : Int) then (if (rd (rd_L1 l0_0 (rd x5_1 x6_1)) x35_2) < (x3_2.length : Int) then (if x5_2.length < 17592186044416 then (net_lengths.l1 k2 (x3_2.set ((rd (rd_L1 l0_0 (rd x5_1 x6_1)) x35_2) : Int).toNat (wrap64 ((rd x3_2 (rd x5_2 x6_1)) + 1))) (x4_2.set ((rd (rd_L1 l0_0 (rd x5_1 x6_1)) x35_2) : Int).toNat true) (x5_2 ++ [rd (rd_L1 l0_0 (rd x5_1 x6_1)) x35_2]) x6_1 (rd_L1 l0_0 (rd x5_1 x6_1)) ((rd_L1 l0_0 (rd x5_1 x6_1)).length : Int) (wrap64 (x35_2 + 1)) l0_0) else (none)) else (none)) else (none)) else (none)) else (none)) else (none)) = some r := by rw [if_neg (show ¬ (false = true) by decide)] at H; exact H
     clear H
     have H := H1
     clear H1
     obtain ⟨y335, hy335⟩ : ∃ y_ : List Bool, y_ = (x4_2.set ((rd (rd_L1 l0_0 (rd x5_1 x6_1)) x35_2) : Int).toNat true) := ⟨_, rfl⟩
     replace H : (if 0 ≤ x6_1 then (if x6_1 < (x5_2.length : Int) then (if 0 ≤ (rd x5_2 x6_1) then (if (rd x5_2 x6_1) < (x3_2.length : Int) then (if (rd (rd_L1 l0_0 (rd x5_1 x6_1)) x35_2) < (x3_2.length : Int) then (if x5_2.length < 17592186044416 then (net_lengths.l1 k2 (x3_2.set ((rd (rd_L1 l0_0 (rd x5_1 x6_1)) x35_2) : Int).toNat (wrap64 ((rd x3_2 (rd x5_2 x6_1)) + 1))) y335 (x5_2 ++ [rd (rd_L1 l0_0 (rd x5_1 x6_1)) x35_2]) x6_1 (rd_L1 l0_0 (rd x5_1 x6_1)) ((rd_L1 l0_0 (rd x5_1 x6_1)).length : Int) (wrap64 (x35_2 + 1)) l0_0) else (none)) else (none)) else (none)) else (none)) else (none)) else (none)) = some r := by first | (rw [hy335]; with_reducible exact H) | (have H2_ := (Option.bind_some _ _).symm.trans H; rw [hy335]; with_reducible exact H2_) | (have H2_ := (Option.bind_some _ _).symm.trans H; with_reducible exact H2_) | with_reducible exact H | (rw [hy335]; exact H) | exact H
     have Ny335 := am hy335
     clear hy335
     by_cases c32 : 0 ≤ x6_1
     rotate_left
     ·rw [if_neg c32] at H
      exact absurd H (by simp)
     rw [if_pos c32] at H
     have c32b0 : decide (0 ≤ x6_1) = true := decide_eq_true c32
     clear c32
     by_cases c33 : x6_1 < (x5_2.length : Int)
     rotate_left
     ·rw [if_neg c33] at H
      exact absurd H (by simp)
     rw [if_pos c33] at H
     have c33b0 : decide (x6_1 < (x5_2.length : Int)) = true := decide_eq_true c33
     clear c33
     by_cases c34 : 0 ≤ (rd x5_2 x6_1)
     rotate_left
     ·rw [if_neg c34] at H
      exact absurd H (by simp)
     rw [if_pos c34] at H
     have c34b0 : decide (0 ≤ (rd x5_2 x6_1)) = true := decide_eq_true c34
     clear c34
     by_cases c35 : (rd x5_2 x6_1) < (x3_2.length : Int)
     rotate_left
     ·rw [if_neg c35] at H
      exact absurd H (by simp)
     rw [if_pos c35] at H
     have c35b0 : decide ((rd x5_2 x6_1) < (x3_2.length : Int)) = true := decide_eq_true c35
     clear c35
     by_cases c36 : (rd (rd_L1 l0_0 (rd x5_1 x6_1)) x35_2) < (x3_2.length : Int)
     rotate_left
     ·rw [if_neg c36] at H
      exact absurd H (by simp)
     rw [if_pos c36] at H
     have c36b0 : decide ((rd (rd_L1 l0_0 (rd x5_1 x6_1)) x35_2) < (x3_2.length : Int)) = true := decide_eq_true c36
     clear c36
     obtain ⟨y338, hy338⟩ : ∃ y_ : List Int, y_ = (x3_2.set ((rd (rd_L1 l0_0 (rd x5_1 x6_1)) x35_2) : Int).toNat (wrap64 ((rd x3_2 (rd x5_2 x6_1)) + 1))) := ⟨_, rfl⟩
     replace H : (if x5_2.length < 17592186044416 then (net_lengths.l1 k2 y338 y335 (x5_2 ++ [rd (rd_L1 l0_0 (rd x5_1 x6_1)) x35_2]) x6_1 (rd_L1 l0_0 (rd x5_1 x6_1)) ((rd_L1 l0_0 (rd x5_1 x6_1)).length : Int) (wrap64 (x35_2 + 1)) l0_0) else (none)) = some r := by first | (rw [hy338]; with_reducible exact H) | (have H2_ := (Option.bind_some _ _).symm.trans H; rw [hy338]; with_reducible exact H2_) | (have H2_ := (Option.bind_some _ _).symm.trans H; with_reducible exact H2_) | with_reducible exact H | (rw [hy338]; exact H) | exact H
     have Ny338 := am hy338
     clear hy338
     by_cases c38 : x5_2.length < 17592186044416
     rotate_left
     ·rw [if_neg c38] at H
      exact absurd H (by simp)
     rw [if_pos c38] at H
     have LMc38 := am c38
     clear c38
     obtain ⟨y339, hy339⟩ : ∃ y_ : List Int, y_ = (x5_2 ++ [rd (rd_L1 l0_0 (rd x5_1 x6_1)) x35_2]) := ⟨_, rfl⟩
     replace H : (net_lengths.l1 k2 y338 y335 y339 x6_1 (rd_L1 l0_0 (rd x5_1 x6_1)) ((rd_L1 l0_0 (rd x5_1 x6_1)).length : Int) (wrap64 (x35_2 + 1)) l0_0) = some r := by first | (rw [hy339]; with_reducible exact H) | (have H2_ := (Option.bind_some _ _).symm.trans H; rw [hy339]; with_reducible exact H2_) | (have H2_ := (Option.bind_some _ _).symm.trans H; with_reducible exact H2_) | with_reducible exact H | (rw [hy339]; exact H) | exact H
     have Ny339 := am hy339
     clear hy339
     have H' := am H
     clear H
     have p333 : 0 ≤ (x35_2 : Int) := od zz2
     have q333 : x35_2 < ((rd_L1 l0_0 (rd x5_1 x6_1)).length : Int) := od zz2
     obtain ⟨ad333, e333, hx333_0⟩ := Kd.at_int HR332_0.out x35_2 p333 q333
     cases e333
     replace hx333_0 := (HB.out.cell (World.block_lt_of_cell? w _ hx333_0)).trans hx333_0
     replace p333 := eq_true p333
     replace q333 := eq_true q333
     have p334 : 0 ≤ ((rd (rd_L1 l0_0 (rd x5_1 x6_1)) x35_2) : Int) := od zz2
     have q334 : (rd (rd_L1 l0_0 (rd x5_1 x6_1)) x35_2) < (x4_2.length : Int) := od zz2
     obtain ⟨ad334, e334, hx334_0⟩ := Kd.at_bool (Kd.R_reads' HO_4.out).2.2 (rd (rd_L1 l0_0 (rd x5_1 x6_1)) x35_2) p334 q334
     (try rw [← Nbq29.out] at hx334_0)
     obtain rfl : (⟨go6, 0, none⟩ : Addr) = ad334 := (by injection e334)
     (first | simp only [add_plain] at hx334_0 | simp only [add_at] at hx334_0 | simp only [Addr.add, Nat.zero_add] at hx334_0 | skip)
     replace p334 := eq_true p334
     replace q334 := eq_true q334
     have p31 : 0 ≤ ((rd (rd_L1 l0_0 (rd x5_1 x6_1)) x35_2) : Int) := od zz2
     have q31 : ((rd (rd_L1 l0_0 (rd x5_1 x6_1)) x35_2) : Int) < ((x4_2.length : Int) : Int) := od zz2
     obtain ⟨hx31_0, hf31_0⟩ := Kd.R_celln false HO_4.out ((rd (rd_L1 l0_0 (rd x5_1 x6_1)) x35_2) : Int) p31 q31
     replace p31 := eq_true p31
     replace q31 := eq_true q31
     have HP39 := Kd.R_putg HO_4.out ((rd (rd_L1 l0_0 (rd x5_1 x6_1)) x35_2) : Int) true
     go_wp2_with (first | ((with_reducible refine gate_store (t := 4) (p := 46) rfl ?_); (try (rw [drewN_self wr]; generalize hq_ : World.drewN wr _ = wr; have n0_ := am (Kd.R_at hq_ HO_3.out); have n1_ := am (Kd.R_at hq_ HO_4.out); have n2_ := am (Kd.R_at hq_ HO_5.out); have n3_ := am (blk_at hq_ BK320.out); have n4_ := am (below_at hq_ HB.out); clear hq_ HO_3 HO_4 HO_5 BK320 HB; have HO_3 := n0_; have HO_4 := n1_; have HO_5 := n2_; have BK320 := n3_; have HB := n4_; clear n0_ n1_ n2_ n3_ n4_; (try (have HP39 := Kd.R_putg HO_4.out ((rd (rd_L1 l0_0 (rd x5_1 x6_1)) x35_2) : Int) true)))); refine store_event (t := 4) (p := 46) (v := ?vo_w40) (w1 := (wr.setCell ⟨go6, ((rd (rd_L1 l0_0 (rd x5_1 x6_1)) x35_2) : Int).toNat, none⟩ (.bool true))) ?hg ?ho ?hn ?hr ?_; (case ho => rfl); (case hg => rfl); (case hn => rfl); (case hr => first | (go_simp; done) | (go_simp; rfl)); intro w40 hw; have hg : wr.grownBy w40 (some go6) := (by rw [hw]; exact HP39.2); have hp_ : Kd.R Kd.bool 4 w40 w.heap.size (fun _ => True) (.slice (some ⟨go6, 0, none⟩) x4_2.length co6) y335 := (by rw [hw, Ny335.out]; exact HP39.1); clear HP39; replace HO_3 := am (Kd.R_over' (v := (.slice (some ⟨go6, 0, none⟩) x4_2.length co6)) (kR HO_3.out) (Kd.R_typed HO_4.out) (by decide) hg); replace HO_5 := am (Kd.R_over' (v := (.slice (some ⟨go6, 0, none⟩) x4_2.length co6)) (kR HO_5.out) (Kd.R_typed HO_4.out) (by decide) hg); replace BK320 := am (blk_grown (g := gb320) (o := .cells #[.slice (some ad332) l0_0.length c0_0] 24 (0, 0)) (kb BK320.out) hg (Kd.R_ne HO_4.out BK320.out (by decide))); replace HO_4 := am (hp_); replace HB := am ((by rw [hw]; exact below_set (HB.out) GB6.out : Below w.heap.size w w40)); clear hg hw hp_; obtain ⟨Ao41, co41, eo41⟩ := Kd.R_slice HO_5.out; subst eo41; have p336 : 0 ≤ (x6_1 : Int) := od zz2; have q336 : x6_1 < (x5_2.length : Int) := od zz2; obtain ⟨ad336, e336, hx336_0⟩ := Kd.at_int (Kd.R_reads' HO_5.out).2.2 x6_1 p336 q336; cases e336; replace p336 := eq_true p336; replace q336 := eq_true q336; obtain ⟨Ao42, co42, eo42⟩ := Kd.R_slice HO_3.out; subst eo42; have p337 : 0 ≤ ((rd x5_2 x6_1) : Int) := od zz2; have q337 : (rd x5_2 x6_1) < (x3_2.length : Int) := od zz2; obtain ⟨ad337, e337, hx337_0⟩ := Kd.at_int (Kd.R_reads' HO_3.out).2.2 (rd x5_2 x6_1) p337 q337; cases e337; replace p337 := eq_true p337; replace q337 := eq_true q337; have p37 : 0 ≤ ((rd (rd_L1 l0_0 (rd x5_1 x6_1)) x35_2) : Int) := od zz2; have q37 : ((rd (rd_L1 l0_0 (rd x5_1 x6_1)) x35_2) : Int) < ((x3_2.length : Int) : Int) := od zz2; obtain ⟨go37, co37, eo37, gb37, gl37, cl37, HG37⟩ := Kd.R_form HO_3.out (by omega); (first | cases eo37 | (injection eo37 with ea_ en_ ec_; (first | subst ea_ | (injection ea_ with ea_; subst ea_)); subst ec_; clear en_)); have GB37 := am gb37; have GG37 := am HG37; clear gb37 gl37 HG37; (first | simp only [add_plain] at hx337_0 | skip); obtain ⟨hx37_0, hf37_0⟩ := Kd.R_celln 0 HO_3.out ((rd (rd_L1 l0_0 (rd x5_1 x6_1)) x35_2) : Int) p37 q37; replace p37 := eq_true p37; replace q37 := eq_true q37; obtain ⟨hy43_, hz43_⟩ := Kd.R_celln 0 HO_3.out ((rd (rd_L1 l0_0 (rd x5_1 x6_1)) x35_2) : Int) (od zz2) (od zz2); have HP43 := Kd.R_putg HO_3.out ((rd (rd_L1 l0_0 (rd x5_1 x6_1)) x35_2) : Int) (wrap64 ((rd x3_2 (rd x5_2 x6_1)) + 1))) | ((with_reducible refine gate_store (t := 3) (p := 57) rfl ?_); (try (rw [drewN_self w40]; generalize hq_ : World.drewN w40 _ = w40; have n0_ := am (Kd.R_at hq_ HO_3.out); have n1_ := am (Kd.R_at hq_ HO_4.out); have n2_ := am (Kd.R_at hq_ HO_5.out); have n3_ := am (blk_at hq_ BK320.out); have n4_ := am (below_at hq_ HB.out); clear hq_ HO_3 HO_4 HO_5 BK320 HB; have HO_3 := n0_; have HO_4 := n1_; have HO_5 := n2_; have BK320 := n3_; have HB := n4_; clear n0_ n1_ n2_ n3_ n4_; (try (obtain ⟨hy43_, hz43_⟩ := Kd.R_celln 0 HO_3.out ((rd (rd_L1 l0_0 (rd x5_1 x6_1)) x35_2) : Int) (od zz2) (od zz2))); (try (have HP43 := Kd.R_putg HO_3.out ((rd (rd_L1 l0_0 (rd x5_1 x6_1)) x35_2) : Int) (wrap64 ((rd x3_2 (rd x5_2 x6_1)) + 1)))))); refine store_event (t := 3) (p := 57) (v := ?vo_w44) (w1 := (w40.setCell ⟨go37, ((rd (rd_L1 l0_0 (rd x5_1 x6_1)) x35_2) : Int).toNat, none⟩ (.int .i64 (wrap64 ((rd x3_2 (rd x5_2 x6_1)) + 1))))) ?hg ?ho ?hn ?hr ?_; (case ho => rfl); (case hg => rfl); (case hn => rfl); (case hr => first | (go_simp; done) | (go_simp; rfl)); intro w44 hw; have hg : w40.grownBy w44 (some go37) := (by rw [hw]; exact HP43.2); have hp_ : Kd.R (Kd.int .i64) 3 w44 w.heap.size (fun k_ => some k_ ≠ (.slice (some ad336) x5_2.length co41 : Value).ownBlock) (.slice (some ⟨go37, 0, none⟩) x3_2.length co42) y338 := (by rw [hw, Ny338.out]; exact HP43.1); clear HP43; replace HO_4 := am (Kd.R_over' (v := (.slice (some ⟨go37, 0, none⟩) x3_2.length co42)) (kR HO_4.out) (Kd.R_typed HO_3.out) (by decide) hg); replace HO_5 := am (Kd.R_after (v := (.slice (some ⟨go37, 0, none⟩) x3_2.length co42)) (v1 := (.slice (some ⟨go37, 0, none⟩) x3_2.length co42)) (ok := (fun _ => True)) (kR (Kd.R_mono HO_5.out (fun _ hk => ⟨trivial, hk⟩))) hg (.inl rfl)); replace BK320 := am (blk_grown (g := gb320) (o := .cells #[.slice (some ad332) l0_0.length c0_0] 24 (0, 0)) (kb BK320.out) hg (Kd.R_ne HO_3.out BK320.out (by decide))); replace HO_3 := am (hp_); replace HB := am ((by rw [hw]; exact below_set (HB.out) GB37.out : Below w.heap.size w w44)); clear hg hw hp_) | ((with_reducible refine gate_builtin (b := .append) (xs := #[.tmp 58, .tmp 60]) rfl ?_); at_builtin; refine Kd.R_append (Kd.int .i64) (w0 := w) w.heap.size rfl (.tmp 58) (.tmp 60) 28 3 (.int .i64 0) 8 rfl Try.underlying28 info3 rfl (by decide) (by omega) (.slice (some ad336) x5_2.length co41) x5_2 (rd (rd_L1 l0_0 (rd x5_1 x6_1)) x35_2) [.int .i64 (rd (rd_L1 l0_0 (rd x5_1 x6_1)) x35_2)] (fun k_ => some k_ ≠ (.slice (some ⟨go37, 0, none⟩) x3_2.length co42 : Value).ownBlock) (fun _ => False) rfl rfl ?aP (fun _ hk => hk.elim) ?aF ?aO ?aB ?aS ?aL ?_; (case aP => exact rfl); (case aB => exact (bs HB.out)); (case aF => exact (fun k_ hk => Kd.fresh' (Kd.R_lt (kR HO_3.out)) k_ hk)); (case aO => exact (kR (Kd.R_mono HO_5.out (fun _ hk => hk.2)))); (case aS => exact (below_size (bs HB.out))); (case aL => have := LMc38.out; omega); intro v340 w45 ho hb hg hat; rw [← Ny339.out] at ho; have n0_ := am (Kd.R_after (ok := (fun _ => True)) (kR (Kd.R_mono HO_3.out (fun _ hk => ⟨trivial, hk⟩))) hg hat); have n1_ := am (Kd.R_over' (kR HO_4.out) (Kd.R_typed (kR HO_5.out)) (by decide) hg); have n2_ := am (blk_grown (g := gb320) (o := .cells #[.slice (some ad332) l0_0.length c0_0] 24 (0, 0)) (kb BK320.out) hg (Kd.R_ne HO_5.out BK320.out (by decide))); have n3_ := am (hb); have n4_ := am (ho); clear HO_3; clear HO_4; clear BK320; clear HB; clear HO_5; have HO_3 := n0_; have HO_4 := n1_; have BK320 := n2_; have HB := n3_; have HO341 := n4_; clear n0_ n1_ n2_ n3_ n4_; clear ho hb hg hat))
     repeat (go_quiet (first | ((with_reducible refine gate_store (t := 4) (p := 46) rfl ?_); (try (rw [drewN_self wr]; generalize hq_ : World.drewN wr _ = wr; have n0_ := am (Kd.R_at hq_ HO_3.out); have n1_ := am (Kd.R_at hq_ HO_4.out); have n2_ := am (Kd.R_at hq_ HO_5.out); have n3_ := am (blk_at hq_ BK320.out); have n4_ := am (below_at hq_ HB.out); clear hq_ HO_3 HO_4 HO_5 BK320 HB; have HO_3 := n0_; have HO_4 := n1_; have HO_5 := n2_; have BK320 := n3_; have HB := n4_; clear n0_ n1_ n2_ n3_ n4_; (try (have HP39 := Kd.R_putg HO_4.out ((rd (rd_L1 l0_0 (rd x5_1 x6_1)) x35_2) : Int) true)))); refine store_event (t := 4) (p := 46) (v := ?vo_w40) (w1 := (wr.setCell ⟨go6, ((rd (rd_L1 l0_0 (rd x5_1 x6_1)) x35_2) : Int).toNat, none⟩ (.bool true))) ?hg ?ho ?hn ?hr ?_; (case ho => rfl); (case hg => rfl); (case hn => rfl); (case hr => first | (go_simp; done) | (go_simp; rfl)); intro w40 hw; have hg : wr.grownBy w40 (some go6) := (by rw [hw]; exact HP39.2); have hp_ : Kd.R Kd.bool 4 w40 w.heap.size (fun _ => True) (.slice (some ⟨go6, 0, none⟩) x4_2.length co6) y335 := (by rw [hw, Ny335.out]; exact HP39.1); clear HP39; replace HO_3 := am (Kd.R_over' (v := (.slice (some ⟨go6, 0, none⟩) x4_2.length co6)) (kR HO_3.out) (Kd.R_typed HO_4.out) (by decide) hg); replace HO_5 := am (Kd.R_over' (v := (.slice (some ⟨go6, 0, none⟩) x4_2.length co6)) (kR HO_5.out) (Kd.R_typed HO_4.out) (by decide) hg); replace BK320 := am (blk_grown (g := gb320) (o := .cells #[.slice (some ad332) l0_0.length c0_0] 24 (0, 0)) (kb BK320.out) hg (Kd.R_ne HO_4.out BK320.out (by decide))); replace HO_4 := am (hp_); replace HB := am ((by rw [hw]; exact below_set (HB.out) GB6.out : Below w.heap.size w w40)); clear hg hw hp_; obtain ⟨Ao41, co41, eo41⟩ := Kd.R_slice HO_5.out; subst eo41; have p336 : 0 ≤ (x6_1 : Int) := od zz2; have q336 : x6_1 < (x5_2.length : Int) := od zz2; obtain ⟨ad336, e336, hx336_0⟩ := Kd.at_int (Kd.R_reads' HO_5.out).2.2 x6_1 p336 q336; cases e336; replace p336 := eq_true p336; replace q336 := eq_true q336; obtain ⟨Ao42, co42, eo42⟩ := Kd.R_slice HO_3.out; subst eo42; have p337 : 0 ≤ ((rd x5_2 x6_1) : Int) := od zz2; have q337 : (rd x5_2 x6_1) < (x3_2.length : Int) := od zz2; obtain ⟨ad337, e337, hx337_0⟩ := Kd.at_int (Kd.R_reads' HO_3.out).2.2 (rd x5_2 x6_1) p337 q337; cases e337; replace p337 := eq_true p337; replace q337 := eq_true q337; have p37 : 0 ≤ ((rd (rd_L1 l0_0 (rd x5_1 x6_1)) x35_2) : Int) := od zz2; have q37 : ((rd (rd_L1 l0_0 (rd x5_1 x6_1)) x35_2) : Int) < ((x3_2.length : Int) : Int) := od zz2; obtain ⟨go37, co37, eo37, gb37, gl37, cl37, HG37⟩ := Kd.R_form HO_3.out (by omega); (first | cases eo37 | (injection eo37 with ea_ en_ ec_; (first | subst ea_ | (injection ea_ with ea_; subst ea_)); subst ec_; clear en_)); have GB37 := am gb37; have GG37 := am HG37; clear gb37 gl37 HG37; (first | simp only [add_plain] at hx337_0 | skip); obtain ⟨hx37_0, hf37_0⟩ := Kd.R_celln 0 HO_3.out ((rd (rd_L1 l0_0 (rd x5_1 x6_1)) x35_2) : Int) p37 q37; replace p37 := eq_true p37; replace q37 := eq_true q37; obtain ⟨hy43_, hz43_⟩ := Kd.R_celln 0 HO_3.out ((rd (rd_L1 l0_0 (rd x5_1 x6_1)) x35_2) : Int) (od zz2) (od zz2); have HP43 := Kd.R_putg HO_3.out ((rd (rd_L1 l0_0 (rd x5_1 x6_1)) x35_2) : Int) (wrap64 ((rd x3_2 (rd x5_2 x6_1)) + 1))) | ((with_reducible refine gate_store (t := 3) (p := 57) rfl ?_); (try (rw [drewN_self w40]; generalize hq_ : World.drewN w40 _ = w40; have n0_ := am (Kd.R_at hq_ HO_3.out); have n1_ := am (Kd.R_at hq_ HO_4.out); have n2_ := am (Kd.R_at hq_ HO_5.out); have n3_ := am (blk_at hq_ BK320.out); have n4_ := am (below_at hq_ HB.out); clear hq_ HO_3 HO_4 HO_5 BK320 HB; have HO_3 := n0_; have HO_4 := n1_; have HO_5 := n2_; have BK320 := n3_; have HB := n4_; clear n0_ n1_ n2_ n3_ n4_; (try (obtain ⟨hy43_, hz43_⟩ := Kd.R_celln 0 HO_3.out ((rd (rd_L1 l0_0 (rd x5_1 x6_1)) x35_2) : Int) (od zz2) (od zz2))); (try (have HP43 := Kd.R_putg HO_3.out ((rd (rd_L1 l0_0 (rd x5_1 x6_1)) x35_2) : Int) (wrap64 ((rd x3_2 (rd x5_2 x6_1)) + 1)))))); refine store_event (t := 3) (p := 57) (v := ?vo_w44) (w1 := (w40.setCell ⟨go37, ((rd (rd_L1 l0_0 (rd x5_1 x6_1)) x35_2) : Int).toNat, none⟩ (.int .i64 (wrap64 ((rd x3_2 (rd x5_2 x6_1)) + 1))))) ?hg ?ho ?hn ?hr ?_; (case ho => rfl); (case hg => rfl); (case hn => rfl); (case hr => first | (go_simp; done) | (go_simp; rfl)); intro w44 hw; have hg : w40.grownBy w44 (some go37) := (by rw [hw]; exact HP43.2); have hp_ : Kd.R (Kd.int .i64) 3 w44 w.heap.size (fun k_ => some k_ ≠ (.slice (some ad336) x5_2.length co41 : Value).ownBlock) (.slice (some ⟨go37, 0, none⟩) x3_2.length co42) y338 := (by rw [hw, Ny338.out]; exact HP43.1); clear HP43; replace HO_4 := am (Kd.R_over' (v := (.slice (some ⟨go37, 0, none⟩) x3_2.length co42)) (kR HO_4.out) (Kd.R_typed HO_3.out) (by decide) hg); replace HO_5 := am (Kd.R_after (v := (.slice (some ⟨go37, 0, none⟩) x3_2.length co42)) (v1 := (.slice (some ⟨go37, 0, none⟩) x3_2.length co42)) (ok := (fun _ => True)) (kR (Kd.R_mono HO_5.out (fun _ hk => ⟨trivial, hk⟩))) hg (.inl rfl)); replace BK320 := am (blk_grown (g := gb320) (o := .cells #[.slice (some ad332) l0_0.length c0_0] 24 (0, 0)) (kb BK320.out) hg (Kd.R_ne HO_3.out BK320.out (by decide))); replace HO_3 := am (hp_); replace HB := am ((by rw [hw]; exact below_set (HB.out) GB37.out : Below w.heap.size w w44)); clear hg hw hp_) | ((with_reducible refine gate_builtin (b := .append) (xs := #[.tmp 58, .tmp 60]) rfl ?_); at_builtin; refine Kd.R_append (Kd.int .i64) (w0 := w) w.heap.size rfl (.tmp 58) (.tmp 60) 28 3 (.int .i64 0) 8 rfl Try.underlying28 info3 rfl (by decide) (by omega) (.slice (some ad336) x5_2.length co41) x5_2 (rd (rd_L1 l0_0 (rd x5_1 x6_1)) x35_2) [.int .i64 (rd (rd_L1 l0_0 (rd x5_1 x6_1)) x35_2)] (fun k_ => some k_ ≠ (.slice (some ⟨go37, 0, none⟩) x3_2.length co42 : Value).ownBlock) (fun _ => False) rfl rfl ?aP (fun _ hk => hk.elim) ?aF ?aO ?aB ?aS ?aL ?_; (case aP => exact rfl); (case aB => exact (bs HB.out)); (case aF => exact (fun k_ hk => Kd.fresh' (Kd.R_lt (kR HO_3.out)) k_ hk)); (case aO => exact (kR (Kd.R_mono HO_5.out (fun _ hk => hk.2)))); (case aS => exact (below_size (bs HB.out))); (case aL => have := LMc38.out; omega); intro v340 w45 ho hb hg hat; rw [← Ny339.out] at ho; have n0_ := am (Kd.R_after (ok := (fun _ => True)) (kR (Kd.R_mono HO_3.out (fun _ hk => ⟨trivial, hk⟩))) hg hat); have n1_ := am (Kd.R_over' (kR HO_4.out) (Kd.R_typed (kR HO_5.out)) (by decide) hg); have n2_ := am (blk_grown (g := gb320) (o := .cells #[.slice (some ad332) l0_0.length c0_0] 24 (0, 0)) (kb BK320.out) hg (Kd.R_ne HO_5.out BK320.out (by decide))); have n3_ := am (hb); have n4_ := am (ho); clear HO_3; clear HO_4; clear BK320; clear HB; clear HO_5; have HO_3 := n0_; have HO_4 := n1_; have BK320 := n2_; have HB := n3_; have HO341 := n4_; clear n0_ n1_ n2_ n3_ n4_; clear ho hb hg hat)); try go_wp2_with (first | ((with_reducible refine gate_store (t := 4) (p := 46) rfl ?_); (try (rw [drewN_self wr]; generalize hq_ : World.drewN wr _ = wr; have n0_ := am (Kd.R_at hq_ HO_3.out); have n1_ := am (Kd.R_at hq_ HO_4.out); have n2_ := am (Kd.R_at hq_ HO_5.out); have n3_ := am (blk_at hq_ BK320.out); have n4_ := am (below_at hq_ HB.out); clear hq_ HO_3 HO_4 HO_5 BK320 HB; have HO_3 := n0_; have HO_4 := n1_; have HO_5 := n2_; have BK320 := n3_; have HB := n4_; clear n0_ n1_ n2_ n3_ n4_; (try (have HP39 := Kd.R_putg HO_4.out ((rd (rd_L1 l0_0 (rd x5_1 x6_1)) x35_2) : Int) true)))); refine store_event (t := 4) (p := 46) (v := ?vo_w40) (w1 := (wr.setCell ⟨go6, ((rd (rd_L1 l0_0 (rd x5_1 x6_1)) x35_2) : Int).toNat, none⟩ (.bool true))) ?hg ?ho ?hn ?hr ?_; (case ho => rfl); (case hg => rfl); (case hn => rfl); (case hr => first | (go_simp; done) | (go_simp; rfl)); intro w40 hw; have hg : wr.grownBy w40 (some go6) := (by rw [hw]; exact HP39.2); have hp_ : Kd.R Kd.bool 4 w40 w.heap.size (fun _ => True) (.slice (some ⟨go6, 0, none⟩) x4_2.length co6) y335 := (by rw [hw, Ny335.out]; exact HP39.1); clear HP39; replace HO_3 := am (Kd.R_over' (v := (.slice (some ⟨go6, 0, none⟩) x4_2.length co6)) (kR HO_3.out) (Kd.R_typed HO_4.out) (by decide) hg); replace HO_5 := am (Kd.R_over' (v := (.slice (some ⟨go6, 0, none⟩) x4_2.length co6)) (kR HO_5.out) (Kd.R_typed HO_4.out) (by decide) hg); replace BK320 := am (blk_grown (g := gb320) (o := .cells #[.slice (some ad332) l0_0.length c0_0] 24 (0, 0)) (kb BK320.out) hg (Kd.R_ne HO_4.out BK320.out (by decide))); replace HO_4 := am (hp_); replace HB := am ((by rw [hw]; exact below_set (HB.out) GB6.out : Below w.heap.size w w40)); clear hg hw hp_; obtain ⟨Ao41, co41, eo41⟩ := Kd.R_slice HO_5.out; subst eo41; have p336 : 0 ≤ (x6_1 : Int) := od zz2; have q336 : x6_1 < (x5_2.length : Int) := od zz2; obtain ⟨ad336, e336, hx336_0⟩ := Kd.at_int (Kd.R_reads' HO_5.out).2.2 x6_1 p336 q336; cases e336; replace p336 := eq_true p336; replace q336 := eq_true q336; obtain ⟨Ao42, co42, eo42⟩ := Kd.R_slice HO_3.out; subst eo42; have p337 : 0 ≤ ((rd x5_2 x6_1) : Int) := od zz2; have q337 : (rd x5_2 x6_1) < (x3_2.length : Int) := od zz2; obtain ⟨ad337, e337, hx337_0⟩ := Kd.at_int (Kd.R_reads' HO_3.out).2.2 (rd x5_2 x6_1) p337 q337; cases e337; replace p337 := eq_true p337; replace q337 := eq_true q337; have p37 : 0 ≤ ((rd (rd_L1 l0_0 (rd x5_1 x6_1)) x35_2) : Int) := od zz2; have q37 : ((rd (rd_L1 l0_0 (rd x5_1 x6_1)) x35_2) : Int) < ((x3_2.length : Int) : Int) := od zz2; obtain ⟨go37, co37, eo37, gb37, gl37, cl37, HG37⟩ := Kd.R_form HO_3.out (by omega); (first | cases eo37 | (injection eo37 with ea_ en_ ec_; (first | subst ea_ | (injection ea_ with ea_; subst ea_)); subst ec_; clear en_)); have GB37 := am gb37; have GG37 := am HG37; clear gb37 gl37 HG37; (first | simp only [add_plain] at hx337_0 | skip); obtain ⟨hx37_0, hf37_0⟩ := Kd.R_celln 0 HO_3.out ((rd (rd_L1 l0_0 (rd x5_1 x6_1)) x35_2) : Int) p37 q37; replace p37 := eq_true p37; replace q37 := eq_true q37; obtain ⟨hy43_, hz43_⟩ := Kd.R_celln 0 HO_3.out ((rd (rd_L1 l0_0 (rd x5_1 x6_1)) x35_2) : Int) (od zz2) (od zz2); have HP43 := Kd.R_putg HO_3.out ((rd (rd_L1 l0_0 (rd x5_1 x6_1)) x35_2) : Int) (wrap64 ((rd x3_2 (rd x5_2 x6_1)) + 1))) | ((with_reducible refine gate_store (t := 3) (p := 57) rfl ?_); (try (rw [drewN_self w40]; generalize hq_ : World.drewN w40 _ = w40; have n0_ := am (Kd.R_at hq_ HO_3.out); have n1_ := am (Kd.R_at hq_ HO_4.out); have n2_ := am (Kd.R_at hq_ HO_5.out); have n3_ := am (blk_at hq_ BK320.out); have n4_ := am (below_at hq_ HB.out); clear hq_ HO_3 HO_4 HO_5 BK320 HB; have HO_3 := n0_; have HO_4 := n1_; have HO_5 := n2_; have BK320 := n3_; have HB := n4_; clear n0_ n1_ n2_ n3_ n4_; (try (obtain ⟨hy43_, hz43_⟩ := Kd.R_celln 0 HO_3.out ((rd (rd_L1 l0_0 (rd x5_1 x6_1)) x35_2) : Int) (od zz2) (od zz2))); (try (have HP43 := Kd.R_putg HO_3.out ((rd (rd_L1 l0_0 (rd x5_1 x6_1)) x35_2) : Int) (wrap64 ((rd x3_2 (rd x5_2 x6_1)) + 1)))))); refine store_event (t := 3) (p := 57) (v := ?vo_w44) (w1 := (w40.setCell ⟨go37, ((rd (rd_L1 l0_0 (rd x5_1 x6_1)) x35_2) : Int).toNat, none⟩ (.int .i64 (wrap64 ((rd x3_2 (rd x5_2 x6_1)) + 1))))) ?hg ?ho ?hn ?hr ?_; (case ho => rfl); (case hg => rfl); (case hn => rfl); (case hr => first | (go_simp; done) | (go_simp; rfl)); intro w44 hw; have hg : w40.grownBy w44 (some go37) := (by rw [hw]; exact HP43.2); have hp_ : Kd.R (Kd.int .i64) 3 w44 w.heap.size (fun k_ => some k_ ≠ (.slice (some ad336) x5_2.length co41 : Value).ownBlock) (.slice (some ⟨go37, 0, none⟩) x3_2.length co42) y338 := (by rw [hw, Ny338.out]; exact HP43.1); clear HP43; replace HO_4 := am (Kd.R_over' (v := (.slice (some ⟨go37, 0, none⟩) x3_2.length co42)) (kR HO_4.out) (Kd.R_typed HO_3.out) (by decide) hg); replace HO_5 := am (Kd.R_after (v := (.slice (some ⟨go37, 0, none⟩) x3_2.length co42)) (v1 := (.slice (some ⟨go37, 0, none⟩) x3_2.length co42)) (ok := (fun _ => True)) (kR (Kd.R_mono HO_5.out (fun _ hk => ⟨trivial, hk⟩))) hg (.inl rfl)); replace BK320 := am (blk_grown (g := gb320) (o := .cells #[.slice (some ad332) l0_0.length c0_0] 24 (0, 0)) (kb BK320.out) hg (Kd.R_ne HO_3.out BK320.out (by decide))); replace HO_3 := am (hp_); replace HB := am ((by rw [hw]; exact below_set (HB.out) GB37.out : Below w.heap.size w w44)); clear hg hw hp_) | ((with_reducible refine gate_builtin (b := .append) (xs := #[.tmp 58, .tmp 60]) rfl ?_); at_builtin; refine Kd.R_append (Kd.int .i64) (w0 := w) w.heap.size rfl (.tmp 58) (.tmp 60) 28 3 (.int .i64 0) 8 rfl Try.underlying28 info3 rfl (by decide) (by omega) (.slice (some ad336) x5_2.length co41) x5_2 (rd (rd_L1 l0_0 (rd x5_1 x6_1)) x35_2) [.int .i64 (rd (rd_L1 l0_0 (rd x5_1 x6_1)) x35_2)] (fun k_ => some k_ ≠ (.slice (some ⟨go37, 0, none⟩) x3_2.length co42 : Value).ownBlock) (fun _ => False) rfl rfl ?aP (fun _ hk => hk.elim) ?aF ?aO ?aB ?aS ?aL ?_; (case aP => exact rfl); (case aB => exact (bs HB.out)); (case aF => exact (fun k_ hk => Kd.fresh' (Kd.R_lt (kR HO_3.out)) k_ hk)); (case aO => exact (kR (Kd.R_mono HO_5.out (fun _ hk => hk.2)))); (case aS => exact (below_size (bs HB.out))); (case aL => have := LMc38.out; omega); intro v340 w45 ho hb hg hat; rw [← Ny339.out] at ho; have n0_ := am (Kd.R_after (ok := (fun _ => True)) (kR (Kd.R_mono HO_3.out (fun _ hk => ⟨trivial, hk⟩))) hg hat); have n1_ := am (Kd.R_over' (kR HO_4.out) (Kd.R_typed (kR HO_5.out)) (by decide) hg); have n2_ := am (blk_grown (g := gb320) (o := .cells #[.slice (some ad332) l0_0.length c0_0] 24 (0, 0)) (kb BK320.out) hg (Kd.R_ne HO_5.out BK320.out (by decide))); have n3_ := am (hb); have n4_ := am (ho); clear HO_3; clear HO_4; clear BK320; clear HB; clear HO_5; have HO_3 := n0_; have HO_4 := n1_; have BK320 := n2_; have HB := n3_; have HO341 := n4_; clear n0_ n1_ n2_ n3_ n4_; clear ho hb hg hat)))
     (try simp only [← hl4_2])
     go_roundg k2
     case measure => have := HK1.out; have := HK2.out; omega
     case rel => exact ⟨(y338), (y335), (y339), (wrap64 (x35_2 + 1)), zz3, H', ⟨by have := HK1.out; have := HK2.out; omega⟩, ⟨by (try simp only [hl4_1]); (try simp only [hl4_2]); (with_reducible repeat (first | apply Kd.R_alloc | apply Kd.R_drewN | apply Kd.R_drew)); exact Kd.R_mono HO_3.out (fun _ hk => hk.2)⟩, ⟨by (try simp only [hl4_1]); (try simp only [hl4_2]); (with_reducible repeat (first | apply Kd.R_alloc | apply Kd.R_drewN | apply Kd.R_drew)); exact HO_4.out⟩, ⟨by (try simp only [hl4_1]); (try simp only [hl4_2]); (with_reducible repeat (first | apply Kd.R_alloc | apply Kd.R_drewN | apply Kd.R_drew)); exact HO341.out⟩, ⟨by (try simp only [hl4_1]); (try simp only [hl4_2]); (with_reducible repeat (first | refine blk_drewN ?_ _ | refine blk_drew ?_ | refine blk_alloc ?_ _)); exact BK320.out⟩, ⟨bs HB.out⟩⟩
end Go.Proofs.Ytjgdalhdiohclaa.Q
end
/-! Part QNetPeriod -/
section
namespace Go.Proofs.Ytjgdalhdiohclaa.Q
attribute [local go_sem] max2_int min2_int max_two min_two max_three min_three max_four min_four
set_option linter.unusedVariables false
set_option linter.unusedSimpArgs false
mutual
def net_period.l0 : Nat → List Int → Int → List (List Int) → Int → Int → Option (Int)
 | 0, _, _, _, _, _ => none
 | k + 1, x3, x4, x13, x14, x15 => if x15 < x14 then (if 0 ≤ x15 then (if x15 < (x13.length : Int) then (net_period.l1 k x3 x4 x15 x13 x14 x15 (rd_L1 x13 x15) ((rd_L1 x13 x15).length : Int) 0) else (none)) else (none)) else (some x4)
def net_period.l1 : Nat → List Int → Int → Int → List (List Int) → Int → Int → List Int → Int → Int → Option (Int)
 | 0, _, _, _, _, _, _, _, _, _ => none
 | k + 1, x3, x4, x5, x13, x14, x15, x20, x21, x22 => if x22 < x21 then (if 0 ≤ x22 then (if x22 < (x20.length : Int) then (if 0 ≤ x5 then (if x5 < (x3.length : Int) then (if 0 ≤ (rd x20 x22) then (if (rd x20 x22) < (x3.length : Int) then ((net_common.f k x4 (mx (wrap64 ((wrap64 ((rd x3 x5) + 1)) - (rd x3 (rd x20 x22)))) (wrap64 (-(wrap64 ((wrap64 ((rd x3 x5) + 1)) - (rd x3 (rd x20 x22)))))))).bind fun t350 => (net_period.l1 k x3 t350 x5 x13 x14 x15 x20 x21 (wrap64 (x22 + 1)))) else (none)) else (none)) else (none)) else (none)) else (none)) else (none)) else (net_period.l0 k x3 x4 x13 x14 (wrap64 (x15 + 1)))
end
def net_period.f (k : Nat) (l0_0 : List (List Int)) : Option (Int) := (net_lengths.f k l0_0).bind fun t343 => (net_period.l0 k t343 0 l0_0 (l0_0.length : Int) 0)
theorem net_period.mono_l : ∀ k, (∀ y0 y1 y2 y3 y4, LeO (net_period.l0 k y0 y1 y2 y3 y4) (net_period.l0 (k + 1) y0 y1 y2 y3 y4)) ∧ (∀ y0 y1 y2 y3 y4 y5 y6 y7 y8, LeO (net_period.l1 k y0 y1 y2 y3 y4 y5 y6 y7 y8) (net_period.l1 (k + 1) y0 y1 y2 y3 y4 y5 y6 y7 y8))
 | 0 => ⟨fun _ _ _ _ _ r h => by simp [net_period.l0] at h, fun _ _ _ _ _ _ _ _ _ r h => by simp [net_period.l1] at h⟩
 | k + 1 => by
  obtain ⟨ih0, ih1⟩ := net_period.mono_l k
  refine ⟨?_, ?_⟩
  ·intro y0 y1 y2 y3 y4
   unfold net_period.l0
   repeat' first
   | (with_reducible exact ih0 _ _ _ _ _)
   | (with_reducible exact ih1 _ _ _ _ _ _ _ _ _)
   | (with_reducible exact net_common.mono _ _ _)
   | (with_reducible exact net_lengths.mono _ _)
   | (with_reducible exact LeO.refl _)
   | (with_reducible exact LeO.none _)
   | (with_reducible refine LeO.ite ?_ ?_)
   | (with_reducible refine LeO.bind ?_ (fun _ => ?_))
   | exact ih0 _ _ _ _ _
   | exact ih1 _ _ _ _ _ _ _ _ _
   | exact net_common.mono _ _ _
   | exact net_lengths.mono _ _
   | exact LeO.none _
   | refine LeO.ite ?_ ?_
   | refine LeO.bind ?_ (fun _ => ?_)
  ·intro y0 y1 y2 y3 y4 y5 y6 y7 y8
   unfold net_period.l1
   repeat' first
   | (with_reducible exact ih0 _ _ _ _ _)
   | (with_reducible exact ih1 _ _ _ _ _ _ _ _ _)
   | (with_reducible exact net_common.mono _ _ _)
   | (with_reducible exact net_lengths.mono _ _)
   | (with_reducible exact LeO.refl _)
   | (with_reducible exact LeO.none _)
   | (with_reducible refine LeO.ite ?_ ?_)
   | (with_reducible refine LeO.bind ?_ (fun _ => ?_))
   | exact ih0 _ _ _ _ _
   | exact ih1 _ _ _ _ _ _ _ _ _
   | exact net_common.mono _ _ _
   | exact net_lengths.mono _ _
   | exact LeO.none _
   | refine LeO.ite ?_ ?_
   | refine LeO.bind ?_ (fun _ => ?_)
theorem net_period.mono : ∀ a0 k, LeO (net_period.f k a0) (net_period.f (k + 1) a0) := by
 intro a0 k
 obtain ⟨ih0, ih1⟩ := net_period.mono_l k
 unfold net_period.f
 repeat' first
   | (with_reducible exact ih0 _ _ _ _ _)
   | (with_reducible exact ih1 _ _ _ _ _ _ _ _ _)
   | (with_reducible exact net_common.mono _ _ _)
   | (with_reducible exact net_lengths.mono _ _)
   | (with_reducible exact LeO.refl _)
   | (with_reducible exact LeO.none _)
   | (with_reducible refine LeO.ite ?_ ?_)
   | (with_reducible refine LeO.bind ?_ (fun _ => ?_))
   | exact ih0 _ _ _ _ _
   | exact ih1 _ _ _ _ _ _ _ _ _
   | exact net_common.mono _ _ _
   | exact net_lengths.mono _ _
   | exact LeO.none _
   | refine LeO.ite ?_ ?_
   | refine LeO.bind ?_ (fun _ => ?_)
set_option maxHeartbeats 8000000 in
set_option maxRecDepth 100000 in
theorem net_period.calls (k : Nat) (A0_0 : Option Addr) (c0_0 : Nat) (l0_0 : List (List Int)) (r : Int) (w : World) (hr0_0 : Kd.C (Kd.slice 3 (Kd.int .i64)) w A0_0 l0_0.length l0_0) (hc0_0 : l0_0.length ≤ c0_0) (h : net_period.f k l0_0 = some r) :
    Calls Try.prog 70 #[.agg #[.slice A0_0 l0_0.length c0_0]] w fun e w' => e = .returned (.int .i64 r) ∧ Below w.heap.size w w' := by
 have hu24 := Try.underlying24
 have HR0_0 := am hr0_0
 have HC0_0 := am hc0_0
 clear hr0_0 hc0_0
 have HB := am (Below.refl w.heap.size w)
 have H : ((net_lengths.f k l0_0).bind fun t343 => (net_period.l0 k t343 0 l0_0 (l0_0.length : Int) 0)) = some r := h
 clear h
 replace H := Option.bind_eq_some_iff.mp H
 obtain ⟨t343, A20, H⟩ := H
 replace H : (net_period.l0 k t343 0 l0_0 (l0_0.length : Int) 0) = some r := H
 have A2 := am A20
 clear A20
 have H' := am H
 clear H
 go_enter Try.func70, Try.ntmps70
 go_wp2_with (first | ((with_reducible refine gate_dst (N := 1) rfl ?_); refine box_event ?hg (N := 1) ?hd (cs := #[.slice A0_0 l0_0.length c0_0]) (t := 24) ?hr ?_; (case hd => rfl); (case hg => rfl); (case hr => first | (go_simp; done) | (go_simp; rfl)); intro gb342 hg w3 hbox hb; have BK342 := am (hbox); have GW342 := am ((by rw [hg]; exact (below_size (bw HB.out)) : w.heap.size ≤ gb342)); have GE342 := am ((by rw [hg]; exact (below_size (bw HB.out)) : w.heap.size ≤ gb342)); replace HB := am (below_step (bw HB.out) hb); clear hb hbox hg; have hcz4_0 : w3.cell? ⟨gb342, 0, none⟩ = some (.slice A0_0 l0_0.length c0_0) := (blk_cell BK342.out 0).trans rfl; have hfz4_0 := blk_frozen BK342.out 0) | (go_at_call 71; (with_reducible refine (net_lengths.calls k _ _ l0_0 t343 _ ?side1 ?side2 A2.out).mono ?_); (case side1 => exact kc (Kd.C_below HR0_0.out HB.out)); (case side2 => exact HC0_0.out); rintro e w5 ⟨v344, rfl, ho0, hb⟩; have HO345 := am (Kd.R_lower ho0 (below_size (bs HB.out))); replace BK342 := am (blk_below (g := gb342) (o := .cells #[.slice A0_0 l0_0.length c0_0] 24 (0, 0)) (kb BK342.out) hb); replace HB := am (below_step (bs HB.out) hb); (try clear hb); (try clear hb2); (try clear hk); (try clear hi); (try clear ho0); have hcz6_0 : w5.cell? ⟨gb342, 0, none⟩ = some (.slice A0_0 l0_0.length c0_0) := (blk_cell BK342.out 0).trans rfl; have hfz6_0 := blk_frozen BK342.out 0))
 repeat (go_quiet (first | ((with_reducible refine gate_dst (N := 1) rfl ?_); refine box_event ?hg (N := 1) ?hd (cs := #[.slice A0_0 l0_0.length c0_0]) (t := 24) ?hr ?_; (case hd => rfl); (case hg => rfl); (case hr => first | (go_simp; done) | (go_simp; rfl)); intro gb342 hg w3 hbox hb; have BK342 := am (hbox); have GW342 := am ((by rw [hg]; exact (below_size (bw HB.out)) : w.heap.size ≤ gb342)); have GE342 := am ((by rw [hg]; exact (below_size (bw HB.out)) : w.heap.size ≤ gb342)); replace HB := am (below_step (bw HB.out) hb); clear hb hbox hg; have hcz4_0 : w3.cell? ⟨gb342, 0, none⟩ = some (.slice A0_0 l0_0.length c0_0) := (blk_cell BK342.out 0).trans rfl; have hfz4_0 := blk_frozen BK342.out 0) | (go_at_call 71; (with_reducible refine (net_lengths.calls k _ _ l0_0 t343 _ ?side1 ?side2 A2.out).mono ?_); (case side1 => exact kc (Kd.C_below HR0_0.out HB.out)); (case side2 => exact HC0_0.out); rintro e w5 ⟨v344, rfl, ho0, hb⟩; have HO345 := am (Kd.R_lower ho0 (below_size (bs HB.out))); replace BK342 := am (blk_below (g := gb342) (o := .cells #[.slice A0_0 l0_0.length c0_0] 24 (0, 0)) (kb BK342.out) hb); replace HB := am (below_step (bs HB.out) hb); (try clear hb); (try clear hb2); (try clear hk); (try clear hi); (try clear ho0); have hcz6_0 : w5.cell? ⟨gb342, 0, none⟩ = some (.slice A0_0 l0_0.length c0_0) := (blk_cell BK342.out 0).trans rfl; have hfz6_0 := blk_frozen BK342.out 0)); try go_wp2_with (first | ((with_reducible refine gate_dst (N := 1) rfl ?_); refine box_event ?hg (N := 1) ?hd (cs := #[.slice A0_0 l0_0.length c0_0]) (t := 24) ?hr ?_; (case hd => rfl); (case hg => rfl); (case hr => first | (go_simp; done) | (go_simp; rfl)); intro gb342 hg w3 hbox hb; have BK342 := am (hbox); have GW342 := am ((by rw [hg]; exact (below_size (bw HB.out)) : w.heap.size ≤ gb342)); have GE342 := am ((by rw [hg]; exact (below_size (bw HB.out)) : w.heap.size ≤ gb342)); replace HB := am (below_step (bw HB.out) hb); clear hb hbox hg; have hcz4_0 : w3.cell? ⟨gb342, 0, none⟩ = some (.slice A0_0 l0_0.length c0_0) := (blk_cell BK342.out 0).trans rfl; have hfz4_0 := blk_frozen BK342.out 0) | (go_at_call 71; (with_reducible refine (net_lengths.calls k _ _ l0_0 t343 _ ?side1 ?side2 A2.out).mono ?_); (case side1 => exact kc (Kd.C_below HR0_0.out HB.out)); (case side2 => exact HC0_0.out); rintro e w5 ⟨v344, rfl, ho0, hb⟩; have HO345 := am (Kd.R_lower ho0 (below_size (bs HB.out))); replace BK342 := am (blk_below (g := gb342) (o := .cells #[.slice A0_0 l0_0.length c0_0] 24 (0, 0)) (kb BK342.out) hb); replace HB := am (below_step (bs HB.out) hb); (try clear hb); (try clear hb2); (try clear hk); (try clear hi); (try clear ho0); have hcz6_0 : w5.cell? ⟨gb342, 0, none⟩ = some (.slice A0_0 l0_0.length c0_0) := (blk_cell BK342.out 0).trans rfl; have hfz6_0 := blk_frozen BK342.out 0)))
 go_loopg [4, 15] k (fun kq v4 v15 w' => ∃ (x4_1 : Int) (x15_1 : Int), v4 = .int .i64 x4_1 ∧ v15 = .int .i64 x15_1 ∧ Aside0 (net_period.l0 kq t343 x4_1 l0_0 (l0_0.length : Int) x15_1 = some r) ∧ Aside0 (kq ≤ k) ∧ Aside0 (Kd.R (Kd.int .i64) 3 w' w.heap.size (fun _ => True) v344 t343) ∧ Aside0 (w'.heap[gb342]? = some (.cells #[(.slice A0_0 l0_0.length c0_0)] 24 (0, 0))) ∧ Aside0 (Below w.heap.size w w'))
 case atStart => exact ⟨(0), (0), zz3, zz3, H', ⟨Nat.le_refl _⟩, ⟨kR HO345.out⟩, ⟨kb BK342.out⟩, ⟨bs HB.out⟩⟩
 case round =>
  clear H'
  (try clear p2); (try clear hcz4_0); (try clear hcz6_0); (try clear hfz4_0); (try clear hfz6_0)
  obtain ⟨x4_1, x15_1, rfl, rfl, HA, HK1, HO_3, BK342, HB⟩ := hrel
  cases gk with
  | zero => exact absurd HA.out (by simp [net_period.l0])
  | succ k1 =>
   have H := HA.out
   clear HA
   simp only [net_period.l0] at H
   by_cases c7 : x15_1 < (l0_0.length : Int)
   rotate_left
   ·rw [if_neg c7] at H
    have c7b0 : decide (x15_1 < (l0_0.length : Int)) = false := decide_eq_false c7
    clear c7
    obtain rfl := Option.some.inj H
    go_wp2
    repeat (go_quiet (fail); try go_wp2)
    go_ret
    exact ⟨by first | rfl | (simp [errW_none, errW_some] <;> rfl) | (simp [*, errW_none, errW_some] <;> rfl), bs HB.out⟩
   rw [if_pos c7] at H
   have c7b0 : decide (x15_1 < (l0_0.length : Int)) = true := decide_eq_true c7
   clear c7
   by_cases c8 : 0 ≤ x15_1
   rotate_left
   ·rw [if_neg c8] at H
    exact absurd H (by simp)
   rw [if_pos c8] at H
   have c8b0 : decide (0 ≤ x15_1) = true := decide_eq_true c8
   clear c8
   by_cases c9 : x15_1 < (l0_0.length : Int)
   rotate_left
   ·rw [if_neg c9] at H
    exact absurd H (by simp)
   rw [if_pos c9] at H
   have c9b0 : decide (x15_1 < (l0_0.length : Int)) = true := decide_eq_true c9
   clear c9
   have H' := am H
   clear H
   have p346 : 0 ≤ (x15_1 : Int) := od zz2
   have q346 : x15_1 < (l0_0.length : Int) := od zz2
   obtain ⟨ad346, A346_0, c346_0, e346, hx346_0, hl346_0, hi346_0⟩ := at_L1 HR0_0.out x15_1 p346 q346
   cases e346
   replace hx346_0 := (HB.out.cell (World.block_lt_of_cell? w _ hx346_0)).trans hx346_0
   have HR346_0 := am hi346_0
   have HC346_0 := am hl346_0
   clear hi346_0 hl346_0
   replace p346 := eq_true p346
   replace q346 := eq_true q346
   go_wp2
   repeat (go_quiet (fail); try go_wp2)
   go_loopg [4, 22] k1 (fun kq v4 v22 w' => ∃ (x4_2 : Int) (x22_2 : Int), v4 = .int .i64 x4_2 ∧ v22 = .int .i64 x22_2 ∧ Aside0 (net_period.l1 kq t343 x4_2 x15_1 l0_0 (l0_0.length : Int) x15_1 (rd_L1 l0_0 x15_1) ((rd_L1 l0_0 x15_1).length : Int) x22_2 = some r) ∧ Aside0 (kq ≤ k1) ∧ Aside0 (Kd.R (Kd.int .i64) 3 w' w.heap.size (fun _ => True) v344 t343) ∧ Aside0 (w'.heap[gb342]? = some (.cells #[(.slice (some ad346) l0_0.length c0_0)] 24 (0, 0))) ∧ Aside0 (Below w.heap.size w w'))
   case atStart => exact ⟨(x4_1), (0), zz3, zz3, H', ⟨Nat.le_refl _⟩, ⟨kR HO_3.out⟩, ⟨kb BK342.out⟩, ⟨bs HB.out⟩⟩
   case round =>
    clear H'
    (try clear p2); (try clear c3); (try clear p3); (try clear q3); (try clear hx3); (try clear c7); (try clear c7b0); (try clear c8); (try clear c8b0); (try clear c9); (try clear c9b0); (try clear hcz4_0); (try clear hcz6_0); (try clear hfz4_0); (try clear hfz6_0); (try clear hx346_0); (try clear p2); (try clear p346); (try clear q346)
    obtain ⟨x4_2, x22_2, rfl, rfl, HA, HK2, HO_3, BK342, HB⟩ := hrel
    cases gk with
    | zero => exact absurd HA.out (by simp [net_period.l1])
    | succ k2 =>
     have H := HA.out
     clear HA
     simp only [net_period.l1] at H
     by_cases c10 : x22_2 < ((rd_L1 l0_0 x15_1).length : Int)
     rotate_left
     ·rw [if_neg c10] at H
      have c10b0 : decide (x22_2 < ((rd_L1 l0_0 x15_1).length : Int)) = false := decide_eq_false c10
      clear c10
      have H' := am H
      clear H
      go_wp2
      repeat (go_quiet (fail); try go_wp2)
      go_roundg k2
      case measure => have := HK1.out; have := HK2.out; omega
      case rel => exact ⟨(x4_2), (wrap64 (x15_1 + 1)), zz3, zz3, H', ⟨by have := HK1.out; have := HK2.out; omega⟩, ⟨kR HO_3.out⟩, ⟨kb BK342.out⟩, ⟨bs HB.out⟩⟩
     rw [if_pos c10] at H
     have c10b0 : decide (x22_2 < ((rd_L1 l0_0 x15_1).length : Int)) = true := decide_eq_true c10
     clear c10
     by_cases c11 : 0 ≤ x22_2
     rotate_left
     ·rw [if_neg c11] at H
      exact absurd H (by simp)
     rw [if_pos c11] at H
     have c11b0 : decide (0 ≤ x22_2) = true := decide_eq_true c11
     clear c11
     by_cases c12 : x22_2 < ((rd_L1 l0_0 x15_1).length : Int)
     rotate_left
     ·rw [if_neg c12] at H
      exact absurd H (by simp)
     rw [if_pos c12] at H
     have c12b0 : decide (x22_2 < ((rd_L1 l0_0 x15_1).length : Int)) = true := decide_eq_true c12
     clear c12
     by_cases c13 : 0 ≤ x15_1
     rotate_left
     ·rw [if_neg c13] at H
      exact absurd H (by simp)
     rw [if_pos c13] at H
     have c13b0 : decide (0 ≤ x15_1) = true := decide_eq_true c13
     clear c13
     by_cases c14 : x15_1 < (t343.length : Int)
     rotate_left
     ·rw [if_neg c14] at H
      exact absurd H (by simp)
     rw [if_pos c14] at H
     have c14b0 : decide (x15_1 < (t343.length : Int)) = true := decide_eq_true c14
     clear c14
     by_cases c15 : 0 ≤ (rd (rd_L1 l0_0 x15_1) x22_2)
     rotate_left
     ·rw [if_neg c15] at H
      exact absurd H (by simp)
     rw [if_pos c15] at H
     have c15b0 : decide (0 ≤ (rd (rd_L1 l0_0 x15_1) x22_2)) = true := decide_eq_true c15
     clear c15
     by_cases c16 : (rd (rd_L1 l0_0 x15_1) x22_2) < (t343.length : Int)
     rotate_left
     ·rw [if_neg c16] at H
      exact absurd H (by simp)
     rw [if_pos c16] at H
     have c16b0 : decide ((rd (rd_L1 l0_0 x15_1) x22_2) < (t343.length : Int)) = true := decide_eq_true c16
     clear c16
     obtain ⟨ji17, hji17⟩ : ∃ j_ : Int, (mx (wrap64 ((wrap64 ((rd t343 x15_1) + 1)) - (rd t343 (rd (rd_L1 l0_0 x15_1) x22_2)))) (wrap64 (-(wrap64 ((wrap64 ((rd t343 x15_1) + 1)) - (rd t343 (rd (rd_L1 l0_0 x15_1) x22_2))))))) = j_ := ⟨_, rfl⟩
     replace H : ((net_common.f k2 x4_2 (ji17)).bind fun t350 => (net_period.l1 k2 t343 t350 x15_1 l0_0 (l0_0.length : Int) x15_1 (rd_L1 l0_0 x15_1) ((rd_L1 l0_0 x15_1).length : Int) (wrap64 (x22_2 + 1)))) = some r := by first | (rw [hji17] at H; exact H) | (simp only [hji17] at H ⊢; exact H)
     have hji17_ : (if (wrap64 ((wrap64 ((rd t343 x15_1) + 1)) - (rd t343 (rd (rd_L1 l0_0 x15_1) x22_2)))) < (wrap64 (-(wrap64 ((wrap64 ((rd t343 x15_1) + 1)) - (rd t343 (rd (rd_L1 l0_0 x15_1) x22_2)))))) then (wrap64 (-(wrap64 ((wrap64 ((rd t343 x15_1) + 1)) - (rd t343 (rd (rd_L1 l0_0 x15_1) x22_2)))))) else (wrap64 ((wrap64 ((rd t343 x15_1) + 1)) - (rd t343 (rd (rd_L1 l0_0 x15_1) x22_2))))) = ji17 := hji17
     replace H := Option.bind_eq_some_iff.mp H
     obtain ⟨t350, A180, H⟩ := H
     replace H : (net_period.l1 k2 t343 t350 x15_1 l0_0 (l0_0.length : Int) x15_1 (rd_L1 l0_0 x15_1) ((rd_L1 l0_0 x15_1).length : Int) (wrap64 (x22_2 + 1))) = some r := H
     have A18 := am A180
     clear A180
     have H' := am H
     clear H
     have p347 : 0 ≤ (x22_2 : Int) := od zz2
     have q347 : x22_2 < ((rd_L1 l0_0 x15_1).length : Int) := od zz2
     obtain ⟨ad347, e347, hx347_0⟩ := Kd.at_int HR346_0.out x22_2 p347 q347
     cases e347
     replace hx347_0 := (HB.out.cell (World.block_lt_of_cell? w _ hx347_0)).trans hx347_0
     replace p347 := eq_true p347
     replace q347 := eq_true q347
     obtain ⟨Ao19, co19, eo19⟩ := Kd.R_slice HO_3.out
     subst eo19
     have p348 : 0 ≤ (x15_1 : Int) := od zz2
     have q348 : x15_1 < (t343.length : Int) := od zz2
     obtain ⟨ad348, e348, hx348_0⟩ := Kd.at_int (Kd.R_reads' HO_3.out).2.2 x15_1 p348 q348
     cases e348
     replace p348 := eq_true p348
     replace q348 := eq_true q348
     have p349 : 0 ≤ ((rd (rd_L1 l0_0 x15_1) x22_2) : Int) := od zz2
     have q349 : (rd (rd_L1 l0_0 x15_1) x22_2) < (t343.length : Int) := od zz2
     obtain ⟨ad349, e349, hx349_0⟩ := Kd.at_int (Kd.R_reads' HO_3.out).2.2 (rd (rd_L1 l0_0 x15_1) x22_2) p349 q349
     obtain rfl : ad348 = ad349 := (by injection e349)
     replace p349 := eq_true p349
     replace q349 := eq_true q349
     go_wp2_with (first | (go_at_call 104; (with_reducible refine (net_common.calls k2 x4_2 ji17 t350 _ A18.out).mono ?_); rintro e w' ⟨rfl, ⟨nd, rfl⟩⟩; (try exact zz4)))
     repeat (go_quiet (first | (go_at_call 104; (with_reducible refine (net_common.calls k2 x4_2 ji17 t350 _ A18.out).mono ?_); rintro e w' ⟨rfl, ⟨nd, rfl⟩⟩; (try exact zz4))); try go_wp2_with (first | (go_at_call 104; (with_reducible refine (net_common.calls k2 x4_2 ji17 t350 _ A18.out).mono ?_); rintro e w' ⟨rfl, ⟨nd, rfl⟩⟩; (try exact zz4))))
     go_roundg k2
     case measure => have := HK1.out; have := HK2.out; omega
     case rel => exact ⟨(t350), (wrap64 (x22_2 + 1)), zz3, zz3, H', ⟨by have := HK1.out; have := HK2.out; omega⟩, ⟨kR HO_3.out⟩, ⟨kb BK342.out⟩, ⟨bs HB.out⟩⟩
end Go.Proofs.Ytjgdalhdiohclaa.Q
end
/-! Part QRef01Image -/
section
namespace Go.Proofs.Ytjgdalhdiohclaa.Q
attribute [local go_sem] max2_int min2_int max_two min_two max_three min_three max_four min_four
set_option linter.unusedVariables false
set_option linter.unusedSimpArgs false
mutual
def mizmazeref01_Image.l0 : Nat → List Int → List Int → List Int → Int → List (List Int) → Option (List Int)
 | 0, _, _, _, _, _ => none
 | k + 1, x1, x7, x8, x10, x415000 => if x10 < (x1.length : Int) then (if 0 ≤ x10 then (if 0 ≤ (rd x1 x10) then (if (rd x1 x10) < (x7.length : Int) then (if x8.length < 17592186044416 then (mizmazeref01_Image.l0 k x1 x7 (x8 ++ [rd x7 (rd x1 x10)]) (wrap64 (x10 + 1)) x415000) else (none)) else (none)) else (none)) else (none)) else (mizmazeref01_Image.l1 k x8 ([] : List Int) 0 x415000)
def mizmazeref01_Image.l1 : Nat → List Int → List Int → Int → List (List Int) → Option (List Int)
 | 0, _, _, _, _ => none
 | k + 1, x8, x9, x11, x415000 => if x11 < (x415000.length : Int) then ((mizmazeref01_Has.f k x8 x11).bind fun t423 => (if t423 = true then (if x9.length < 17592186044416 then (mizmazeref01_Image.l1 k x8 (x9 ++ [x11]) (wrap64 (x11 + 1)) x415000) else (none)) else (mizmazeref01_Image.l1 k x8 x9 (wrap64 (x11 + 1)) x415000))) else (some x9)
end
def mizmazeref01_Image.f (k : Nat) (l0_0 : List (List Int)) (l1 : List Int) (l2 : List Int) : Option (List Int) := (mizmazeref01_Ends.f k l0_0 l2).bind fun t415 => (mizmazeref01_Image.l0 k l1 t415 ([] : List Int) 0 l0_0)
theorem mizmazeref01_Image.mono_l : ∀ k, (∀ y0 y1 y2 y3 y4, LeO (mizmazeref01_Image.l0 k y0 y1 y2 y3 y4) (mizmazeref01_Image.l0 (k + 1) y0 y1 y2 y3 y4)) ∧ (∀ y0 y1 y2 y3, LeO (mizmazeref01_Image.l1 k y0 y1 y2 y3) (mizmazeref01_Image.l1 (k + 1) y0 y1 y2 y3))
 | 0 => ⟨fun _ _ _ _ _ r h => by simp [mizmazeref01_Image.l0] at h, fun _ _ _ _ r h => by simp [mizmazeref01_Image.l1] at h⟩
 | k + 1 => by
  obtain ⟨ih0, ih1⟩ := mizmazeref01_Image.mono_l k
  refine ⟨?_, ?_⟩
  ·intro y0 y1 y2 y3 y4
   unfold mizmazeref01_Image.l0
   repeat' first
   | (with_reducible exact ih0 _ _ _ _ _)
   | (with_reducible exact ih1 _ _ _ _)
   | (with_reducible exact mizmazeref01_Ends.mono _ _ _)
   | (with_reducible exact mizmazeref01_Has.mono _ _ _)
   | (with_reducible exact LeO.refl _)
   | (with_reducible exact LeO.none _)
   | (with_reducible refine LeO.ite ?_ ?_)
   | (with_reducible refine LeO.bind ?_ (fun _ => ?_))
   | exact ih0 _ _ _ _ _
   | exact ih1 _ _ _ _
   | exact mizmazeref01_Ends.mono _ _ _
   | exact mizmazeref01_Has.mono _ _ _
   | exact LeO.none _
   | refine LeO.ite ?_ ?_
   | refine LeO.bind ?_ (fun _ => ?_)
  ·intro y0 y1 y2 y3
   unfold mizmazeref01_Image.l1
   repeat' first
   | (with_reducible exact ih0 _ _ _ _ _)
   | (with_reducible exact ih1 _ _ _ _)
   | (with_reducible exact mizmazeref01_Ends.mono _ _ _)
   | (with_reducible exact mizmazeref01_Has.mono _ _ _)
   | (with_reducible exact LeO.refl _)
   | (with_reducible exact LeO.none _)
   | (with_reducible refine LeO.ite ?_ ?_)
   | (with_reducible refine LeO.bind ?_ (fun _ => ?_))
   | exact ih0 _ _ _ _ _
   | exact ih1 _ _ _ _
   | exact mizmazeref01_Ends.mono _ _ _
   | exact mizmazeref01_Has.mono _ _ _
   | exact LeO.none _
   | refine LeO.ite ?_ ?_
   | refine LeO.bind ?_ (fun _ => ?_)
theorem mizmazeref01_Image.mono : ∀ a0 a1 a2 k, LeO (mizmazeref01_Image.f k a0 a1 a2) (mizmazeref01_Image.f (k + 1) a0 a1 a2) := by
 intro a0 a1 a2 k
 obtain ⟨ih0, ih1⟩ := mizmazeref01_Image.mono_l k
 unfold mizmazeref01_Image.f
 repeat' first
   | (with_reducible exact ih0 _ _ _ _ _)
   | (with_reducible exact ih1 _ _ _ _)
   | (with_reducible exact mizmazeref01_Ends.mono _ _ _)
   | (with_reducible exact mizmazeref01_Has.mono _ _ _)
   | (with_reducible exact LeO.refl _)
   | (with_reducible exact LeO.none _)
   | (with_reducible refine LeO.ite ?_ ?_)
   | (with_reducible refine LeO.bind ?_ (fun _ => ?_))
   | exact ih0 _ _ _ _ _
   | exact ih1 _ _ _ _
   | exact mizmazeref01_Ends.mono _ _ _
   | exact mizmazeref01_Has.mono _ _ _
   | exact LeO.none _
   | refine LeO.ite ?_ ?_
   | refine LeO.bind ?_ (fun _ => ?_)
set_option maxHeartbeats 8000000 in
set_option maxRecDepth 100000 in
theorem mizmazeref01_Image.calls (k : Nat) (A0_0 : Option Addr) (c0_0 : Nat) (l0_0 : List (List Int)) (A1 : Option Addr) (c1 : Nat) (l1 : List Int) (A2 : Option Addr) (c2 : Nat) (l2 : List Int) (r : List Int) (w : World) (hr0_0 : Kd.C (Kd.slice 3 (Kd.int .i64)) w A0_0 l0_0.length l0_0) (hc0_0 : l0_0.length ≤ c0_0) (hr1 : Kd.C (Kd.int .i64) w A1 l1.length l1) (hc1 : l1.length ≤ c1) (hr2 : Kd.C (Kd.int .i64) w A2 l2.length l2) (hc2 : l2.length ≤ c2) (h : mizmazeref01_Image.f k l0_0 l1 l2 = some r) :
  Calls Try.prog 91 #[.agg #[.slice A0_0 l0_0.length c0_0], .slice A1 l1.length c1, .slice A2 l2.length c2] w fun e w' => ∃ v0_ : Value, e = .returned (v0_) ∧ Kd.R (Kd.int .i64) 3 w' w.heap.size (fun _ => True) v0_ r ∧ Below w.heap.size w w' := by
 have hu24 := Try.underlying24
 have HR0_0 := am hr0_0
 have HC0_0 := am hc0_0
 clear hr0_0 hc0_0
 have HR1 := am hr1
 have HC1 := am hc1
 clear hr1 hc1
 have HR2 := am hr2
 have HC2 := am hc2
 clear hr2 hc2
 have HB := am (Below.refl w.heap.size w)
 have H : ((mizmazeref01_Ends.f k l0_0 l2).bind fun t415 => (mizmazeref01_Image.l0 k l1 t415 ([] : List Int) 0 l0_0)) = some r := h
 clear h
 replace H := Option.bind_eq_some_iff.mp H
 obtain ⟨t415, A40, H⟩ := H
 replace H : (mizmazeref01_Image.l0 k l1 t415 ([] : List Int) 0 l0_0) = some r := H
 have A4 := am A40
 clear A40
 have H' := am H
 clear H
 go_enter Try.func91, Try.ntmps91
 go_wp2_with (first | ((with_reducible refine gate_dst (N := 3) rfl ?_); refine box_event ?hg (N := 3) ?hd (cs := #[.slice A0_0 l0_0.length c0_0]) (t := 24) ?hr ?_; (case hd => rfl); (case hg => rfl); (case hr => first | (go_simp; done) | (go_simp; rfl)); intro gb414 hg w5 hbox hb; have BK414 := am (hbox); have GW414 := am ((by rw [hg]; exact (below_size (bw HB.out)) : w.heap.size ≤ gb414)); have GE414 := am ((by rw [hg]; exact (below_size (bw HB.out)) : w.heap.size ≤ gb414)); replace HB := am (below_step (bw HB.out) hb); clear hb hbox hg; have hcz6_0 : w5.cell? ⟨gb414, 0, none⟩ = some (.slice A0_0 l0_0.length c0_0) := (blk_cell BK414.out 0).trans rfl; have hfz6_0 := blk_frozen BK414.out 0) | ((with_reducible refine gate_callee (f := 112) rfl ?_); refine goesL_ (some 14) rfl rfl Try.func112 (by kernel_rfl) rfl #[.agg #[.slice A0_0 l0_0.length c0_0], .slice A2 l2.length c2] rfl zz1 ?_; (with_reducible refine (mizmazeref01_Ends.calls k _ _ l0_0 _ _ l2 t415 _ ?side1 ?side2 ?side3 ?side4 A4.out).mono ?_); (case side1 => exact kc (Kd.C_below HR0_0.out HB.out)); (case side2 => exact HC0_0.out); (case side3 => exact kc (Kd.C_below HR2.out HB.out)); (case side4 => exact HC2.out); rintro e w7 ⟨v416, rfl, ho0, hb⟩; refine ⟨_, rfl, ?_⟩; have HO417 := am (Kd.R_lower ho0 (below_size (bs HB.out))); replace BK414 := am (blk_below (g := gb414) (o := .cells #[.slice A0_0 l0_0.length c0_0] 24 (0, 0)) (kb BK414.out) hb); replace HB := am (below_step (bs HB.out) hb); (try clear hb); (try clear hb2); (try clear hk); (try clear hi); (try clear ho0)))
 go_loopg [8, 10] k (fun kq v8 v10 w' => ∃ (x8_1 : List Int) (x10_1 : Int), v10 = .int .i64 x10_1 ∧ Aside0 (mizmazeref01_Image.l0 kq l1 t415 x8_1 x10_1 l0_0 = some r) ∧ Aside0 (kq ≤ k) ∧ Aside0 (Kd.R (Kd.int .i64) 3 w' w.heap.size (fun k_ => some k_ ≠ (v8 : Value).ownBlock) v416 t415) ∧ Aside0 (Kd.R (Kd.int .i64) 3 w' w.heap.size (fun k_ => some k_ ≠ (v416 : Value).ownBlock) v8 x8_1) ∧ Aside0 (w'.heap[gb414]? = some (.cells #[(.slice A0_0 l0_0.length c0_0)] 24 (0, 0))) ∧ Aside0 (Below w.heap.size w w'))
 case atStart => exact ⟨(([] : List Int)), (0), zz3, H', ⟨Nat.le_refl _⟩, ⟨kR (Kd.R_mono HO417.out (fun _ hk => (by simp [Value.ownBlock])))⟩, ⟨by first | exact Kd.R_nil _ _ _ _ _ | exact Kd.N_nil _ _ _ _ _ | exact Kd.V_nil _ _ _ _ _ | exact Kd.Q_nil _ _ _ _ _ | exact Kd.S_nil _ _ _ _ _⟩, ⟨kb BK414.out⟩, ⟨bs HB.out⟩⟩
 case round =>
  clear H'
  (try clear c1); (try clear c2); (try clear p2); (try clear hcz6_0); (try clear hfz6_0)
  obtain ⟨x8_1, x10_1, rfl, HA, HK1, HO_7, HO_8, BK414, HB⟩ := hrel
  cases gk with
  | zero => exact absurd HA.out (by simp [mizmazeref01_Image.l0])
  | succ k1 =>
   have H := HA.out
   clear HA
   simp only [mizmazeref01_Image.l0] at H
   by_cases c8 : x10_1 < (l1.length : Int)
   ·rw [if_pos c8] at H
    have c8b0 : decide (x10_1 < (l1.length : Int)) = true := decide_eq_true c8
    clear c8
    by_cases c9 : 0 ≤ x10_1
    ·rw [if_pos c9] at H
     have c9b0 : decide (0 ≤ x10_1) = true := decide_eq_true c9
     clear c9
     by_cases c10 : 0 ≤ (rd l1 x10_1)
     ·rw [if_pos c10] at H
      have c10b0 : decide (0 ≤ (rd l1 x10_1)) = true := decide_eq_true c10
      clear c10
      by_cases c11 : (rd l1 x10_1) < (t415.length : Int)
      ·rw [if_pos c11] at H
       have c11b0 : decide ((rd l1 x10_1) < (t415.length : Int)) = true := decide_eq_true c11
       clear c11
       by_cases c12 : x8_1.length < 17592186044416
       ·rw [if_pos c12] at H
        have LMc12 := am c12
        clear c12
        obtain ⟨y420, hy420⟩ : ∃ y_ : List Int, y_ = (x8_1 ++ [rd t415 (rd l1 x10_1)]) := ⟨_, rfl⟩
        replace H : (mizmazeref01_Image.l0 k1 l1 t415 y420 (wrap64 (x10_1 + 1)) l0_0) = some r := by first | (rw [hy420]; with_reducible exact H) | (have H2_ := (Option.bind_some _ _).symm.trans H; rw [hy420]; with_reducible exact H2_) | (have H2_ := (Option.bind_some _ _).symm.trans H; with_reducible exact H2_) | with_reducible exact H | (rw [hy420]; exact H) | exact H
        have Ny420 := am hy420
        clear hy420
        have H' := am H
        clear H
        have p418 : 0 ≤ (x10_1 : Int) := od zz2
        have q418 : x10_1 < (l1.length : Int) := od zz2
        obtain ⟨ad418, e418, hx418_0⟩ := Kd.at_int HR1.out x10_1 p418 q418
        cases e418
        replace hx418_0 := (HB.out.cell (World.block_lt_of_cell? w _ hx418_0)).trans hx418_0
        replace p418 := eq_true p418
        replace q418 := eq_true q418
        obtain ⟨Ao13, co13, eo13⟩ := Kd.R_slice HO_7.out
        subst eo13
        have p419 : 0 ≤ ((rd l1 x10_1) : Int) := od zz2
        have q419 : (rd l1 x10_1) < (t415.length : Int) := od zz2
        obtain ⟨ad419, e419, hx419_0⟩ := Kd.at_int (Kd.R_reads' HO_7.out).2.2 (rd l1 x10_1) p419 q419
        cases e419
        replace p419 := eq_true p419
        replace q419 := eq_true q419
        go_wp2_with (first | ((with_reducible refine gate_builtin (b := .append) (xs := #[.tmp 21, .tmp 29]) rfl ?_); at_builtin; refine Kd.R_append (Kd.int .i64) (w0 := w) w.heap.size rfl (.tmp 21) (.tmp 29) 28 3 (.int .i64 0) 8 rfl Try.underlying28 info3 rfl (by decide) (by omega) u8 x8_1 (rd t415 (rd l1 x10_1)) [.int .i64 (rd t415 (rd l1 x10_1))] (fun k_ => some k_ ≠ (.slice (some ad419) t415.length co13 : Value).ownBlock) (fun _ => False) rfl rfl ?aP (fun _ hk => hk.elim) ?aF ?aO ?aB ?aS ?aL ?_; (case aP => exact rfl); (case aB => exact (bs HB.out)); (case aF => exact (fun k_ hk => Kd.fresh' (Kd.R_lt (kR HO_7.out)) k_ hk)); (case aO => exact (kR HO_8.out)); (case aS => exact (below_size (bs HB.out))); (case aL => have := LMc12.out; omega); intro v421 w14 ho hb hg hat; rw [← Ny420.out] at ho; have n0_ := am (Kd.R_after (ok := (fun _ => True)) (kR (Kd.R_mono HO_7.out (fun _ hk => ⟨trivial, hk⟩))) hg hat); have n1_ := am (blk_grown (g := gb414) (o := .cells #[.slice A0_0 l0_0.length c0_0] 24 (0, 0)) (kb BK414.out) hg (Kd.R_ne HO_8.out BK414.out (by decide))); have n2_ := am (hb); have n3_ := am (ho); clear HO_7; clear BK414; clear HB; clear HO_8; have HO_7 := n0_; have BK414 := n1_; have HB := n2_; have HO422 := n3_; clear n0_ n1_ n2_ n3_; clear ho hb hg hat))
        go_roundg k1
        case measure => have := HK1.out; omega
        case rel => exact ⟨(y420), (wrap64 (x10_1 + 1)), zz3, H', ⟨by have := HK1.out; omega⟩, ⟨kR (Kd.R_mono HO_7.out (fun _ hk => hk.2))⟩, ⟨kR HO422.out⟩, ⟨kb BK414.out⟩, ⟨bs HB.out⟩⟩
       ·rw [if_neg c12] at H
        exact absurd H (by simp)
      ·rw [if_neg c11] at H
       exact absurd H (by simp)
     ·rw [if_neg c10] at H
      exact absurd H (by simp)
    ·rw [if_neg c9] at H
     exact absurd H (by simp)
   ·rw [if_neg c8] at H
    have c8b0 : decide (x10_1 < (l1.length : Int)) = false := decide_eq_false c8
    clear c8
    have H' := am H
    clear H
    go_wp2
    go_loopg [9, 11] k1 (fun kq v9 v11 w' => ∃ (x9_2 : List Int) (x11_2 : Int), v11 = .int .i64 x11_2 ∧ Aside0 (mizmazeref01_Image.l1 kq x8_1 x9_2 x11_2 l0_0 = some r) ∧ Aside0 (kq ≤ k1) ∧ Aside0 (Kd.R (Kd.int .i64) 3 w' w.heap.size (fun k_ => some k_ ≠ (v9 : Value).ownBlock) u8 x8_1) ∧ Aside0 (Kd.R (Kd.int .i64) 3 w' w.heap.size (fun k_ => some k_ ≠ (u8 : Value).ownBlock) v9 x9_2) ∧ Aside0 (w'.heap[gb414]? = some (.cells #[(.slice A0_0 l0_0.length c0_0)] 24 (0, 0))) ∧ Aside0 (Below w.heap.size w w'))
    case atStart => exact ⟨(([] : List Int)), (0), zz3, H', ⟨Nat.le_refl _⟩, ⟨kR (Kd.R_mono HO_8.out (fun _ hk => (by simp [Value.ownBlock])))⟩, ⟨by first | exact Kd.R_nil _ _ _ _ _ | exact Kd.N_nil _ _ _ _ _ | exact Kd.V_nil _ _ _ _ _ | exact Kd.Q_nil _ _ _ _ _ | exact Kd.S_nil _ _ _ _ _⟩, ⟨kb BK414.out⟩, ⟨bs HB.out⟩⟩
    case round =>
     clear H'
     (try clear c1); (try clear c2); (try clear p2); (try clear p4); (try clear q4); (try clear hx4); (try clear p6); (try clear c8); (try clear c8b0); (try clear c9); (try clear c9b0); (try clear c10); (try clear c10b0); (try clear c11); (try clear c11b0); (try clear c12); (try clear hcz6_0); (try clear hfz6_0); (try clear hx418_0); (try clear hx419_0); (try clear p2); (try clear p418); (try clear p419); (try clear q418); (try clear q419)
     obtain ⟨x9_2, x11_2, rfl, HA, HK2, HO_8, HO_9, BK414, HB⟩ := hrel
     cases gk with
     | zero => exact absurd HA.out (by simp [mizmazeref01_Image.l1])
     | succ k2 =>
      have H := HA.out
      clear HA
      simp only [mizmazeref01_Image.l1] at H
      by_cases c15 : x11_2 < (l0_0.length : Int)
      ·rw [if_pos c15] at H
       have c15b0 : decide (x11_2 < (l0_0.length : Int)) = true := decide_eq_true c15
       clear c15
       replace H := Option.bind_eq_some_iff.mp H
       obtain ⟨t423, A160, H⟩ := H
       replace H : (if t423 = true then (if x9_2.length < 17592186044416 then (mizmazeref01_Image.l1 k2 x8_1 (x9_2 ++ [x11_2]) (wrap64 (x11_2 + 1)) l0_0) else (none)) else (mizmazeref01_Image.l1 k2 x8_1 x9_2 (wrap64 (x11_2 + 1)) l0_0)) = some r := H
       have A16 := am A160
       clear A160
       by_cases c17 : t423 = true
       ·subst c17
        have H1 : (if x9_2.length < 17592186044416 then (mizmazeref01_Image.l1 k2 x8_1 (x9_2 ++ [x11_2]) (wrap64 (x11_2 + 1)) l0_0) else (none)) = some r := by rw [if_pos rfl] at H; exact H
        clear H
        have H := H1
        clear H1
        by_cases c18 : x9_2.length < 17592186044416
        ·rw [if_pos c18] at H
         have LMc18 := am c18
         clear c18
         obtain ⟨y424, hy424⟩ : ∃ y_ : List Int, y_ = (x9_2 ++ [x11_2]) := ⟨_, rfl⟩
         replace H : (mizmazeref01_Image.l1 k2 x8_1 y424 (wrap64 (x11_2 + 1)) l0_0) = some r := by first | (rw [hy424]; with_reducible exact H) | (have H2_ := (Option.bind_some _ _).symm.trans H; rw [hy424]; with_reducible exact H2_) | (have H2_ := (Option.bind_some _ _).symm.trans H; with_reducible exact H2_) | with_reducible exact H | (rw [hy424]; exact H) | exact H
         have Ny424 := am hy424
         clear hy424
         have H' := am H
         clear H
         have hcz19_0 : wr.cell? ⟨gb414, 0, none⟩ = some (.slice A0_0 l0_0.length c0_0) := (blk_cell BK414.out 0).trans rfl
         have hfz19_0 := blk_frozen BK414.out 0
         obtain ⟨Ao20, co20, eo20⟩ := Kd.R_slice HO_8.out
         subst eo20
         go_wp2_with (first | ((with_reducible refine gate_callee (f := 36) rfl ?_); refine goesL_ (some 40) rfl rfl Try.func36 (by kernel_rfl) rfl #[.slice Ao20 x8_1.length co20, .int .i64 x11_2] rfl zz1 ?_; (with_reducible refine (mizmazeref01_Has.calls k2 _ _ x8_1 x11_2 true _ ?side1 ?side2 A16.out).mono ?_); (case side1 => repeat (first | exact (Kd.R_reads' HO_8.out).2.2 | (with_reducible refine Kd.C_alloc ?_ _) | (with_reducible refine Kd.C_drewN ?_ _) | (with_reducible refine Kd.C_drew ?_))); (case side2 => exact (Kd.R_reads' HO_8.out).2.1); rintro e w' ⟨rfl, ⟨nd, rfl⟩⟩; refine ⟨_, rfl, ?_⟩) | ((with_reducible refine gate_builtin (b := .append) (xs := #[.tmp 41, .tmp 43]) rfl ?_); at_builtin; refine Kd.R_append (Kd.int .i64) (w0 := w) w.heap.size rfl (.tmp 41) (.tmp 43) 28 3 (.int .i64 0) 8 rfl Try.underlying28 info3 rfl (by decide) (by omega) u9 x9_2 x11_2 [.int .i64 x11_2] (fun k_ => some k_ ≠ (.slice Ao20 x8_1.length co20 : Value).ownBlock) (fun _ => False) rfl rfl ?aP (fun _ hk => hk.elim) ?aF ?aO ?aB ?aS ?aL ?_; (case aP => exact rfl); (case aB => exact (bs HB.out)); (case aF => exact (fun k_ hk => Kd.fresh' (Kd.R_lt (kR HO_8.out)) k_ hk)); (case aO => exact (kR HO_9.out)); (case aS => exact (below_size (bs HB.out))); (case aL => have := LMc18.out; omega); intro v425 w21 ho hb hg hat; rw [← Ny424.out] at ho; have n0_ := am (Kd.R_after (ok := (fun _ => True)) (kR (Kd.R_mono HO_8.out (fun _ hk => ⟨trivial, hk⟩))) hg hat); have n1_ := am (blk_grown (g := gb414) (o := .cells #[.slice A0_0 l0_0.length c0_0] 24 (0, 0)) (kb BK414.out) hg (Kd.R_ne HO_9.out BK414.out (by decide))); have n2_ := am (hb); have n3_ := am (ho); clear HO_8; clear BK414; clear HB; clear HO_9; have HO_8 := n0_; have BK414 := n1_; have HB := n2_; have HO426 := n3_; clear n0_ n1_ n2_ n3_; clear ho hb hg hat))
         go_roundg k2
         case measure => have := HK1.out; have := HK2.out; omega
         case rel => exact ⟨(y424), (wrap64 (x11_2 + 1)), zz3, H', ⟨by have := HK1.out; have := HK2.out; omega⟩, ⟨kR (Kd.R_mono HO_8.out (fun _ hk => hk.2))⟩, ⟨kR HO426.out⟩, ⟨kb BK414.out⟩, ⟨bs HB.out⟩⟩
        ·rw [if_neg c18] at H
         exact absurd H (by simp)
       ·replace c17 := Bool.eq_false_iff.mpr c17
        subst c17
        have H1 : (mizmazeref01_Image.l1 k2 x8_1 x9_2 (wrap64 (x11_2 + 1)) l0_0) = some r := by rw [if_neg (show ¬ (false = true) by decide)] at H; exact H
        clear H
        have H := H1
        clear H1
        have H' := am H
        clear H
        have hcz22_0 : wr.cell? ⟨gb414, 0, none⟩ = some (.slice A0_0 l0_0.length c0_0) := (blk_cell BK414.out 0).trans rfl
        have hfz22_0 := blk_frozen BK414.out 0
        obtain ⟨Ao23, co23, eo23⟩ := Kd.R_slice HO_8.out
        subst eo23
        go_wp2_with (first | ((with_reducible refine gate_callee (f := 36) rfl ?_); refine goesL_ (some 40) rfl rfl Try.func36 (by kernel_rfl) rfl #[.slice Ao23 x8_1.length co23, .int .i64 x11_2] rfl zz1 ?_; (with_reducible refine (mizmazeref01_Has.calls k2 _ _ x8_1 x11_2 false _ ?side1 ?side2 A16.out).mono ?_); (case side1 => repeat (first | exact (Kd.R_reads' HO_8.out).2.2 | (with_reducible refine Kd.C_alloc ?_ _) | (with_reducible refine Kd.C_drewN ?_ _) | (with_reducible refine Kd.C_drew ?_))); (case side2 => exact (Kd.R_reads' HO_8.out).2.1); rintro e w' ⟨rfl, ⟨nd, rfl⟩⟩; refine ⟨_, rfl, ?_⟩))
        go_roundg k2
        case measure => have := HK1.out; have := HK2.out; omega
        case rel => exact ⟨(x9_2), (wrap64 (x11_2 + 1)), zz3, H', ⟨by have := HK1.out; have := HK2.out; omega⟩, ⟨kR HO_8.out⟩, ⟨kR HO_9.out⟩, ⟨kb BK414.out⟩, ⟨bs HB.out⟩⟩
      ·rw [if_neg c15] at H
       have c15b0 : decide (x11_2 < (l0_0.length : Int)) = false := decide_eq_false c15
       clear c15
       obtain rfl := Option.some.inj H
       have hcz24_0 : wr.cell? ⟨gb414, 0, none⟩ = some (.slice A0_0 l0_0.length c0_0) := (blk_cell BK414.out 0).trans rfl
       have hfz24_0 := blk_frozen BK414.out 0
       go_wp2
       go_ret
       exact ⟨_, by first | rfl | (simp [errW_none, errW_some] <;> rfl) | (simp [*, errW_none, errW_some] <;> rfl), kR (Kd.R_mono HO_9.out (fun _ hk => trivial)), bs HB.out⟩
end Go.Proofs.Ytjgdalhdiohclaa.Q
end
/-! Part QRef03Resets -/
section
namespace Go.Proofs.Ytjgdalhdiohclaa.Q
attribute [local go_sem] max2_int min2_int max_two min_two max_three min_three max_four min_four
set_option linter.unusedVariables false
set_option linter.unusedSimpArgs false
def mizmazeref03_Resets.f (k : Nat) (l0_0 : List (List Int)) (l1 : List Int) : Option (Bool) := (mizmazeref01_Word.f k l0_0 l1).bind fun t428 => (if t428 = true then ((mizmazeref01_All.f k (l0_0.length : Int)).bind fun t429 => ((mizmazeref01_Image.f k l0_0 t429 l1).bind fun t432 => (some ((t432.length : Int) == 1)))) else (some false))
theorem mizmazeref03_Resets.mono : ∀ a0 a1 k, LeO (mizmazeref03_Resets.f k a0 a1) (mizmazeref03_Resets.f (k + 1) a0 a1) := by
 intro a0 a1 k
 unfold mizmazeref03_Resets.f
 repeat' first
   | (with_reducible exact mizmazeref01_All.mono _ _)
   | (with_reducible exact mizmazeref01_Image.mono _ _ _ _)
   | (with_reducible exact mizmazeref01_Word.mono _ _ _)
   | (with_reducible exact LeO.refl _)
   | (with_reducible exact LeO.none _)
   | (with_reducible refine LeO.ite ?_ ?_)
   | (with_reducible refine LeO.bind ?_ (fun _ => ?_))
   | exact mizmazeref01_All.mono _ _
   | exact mizmazeref01_Image.mono _ _ _ _
   | exact mizmazeref01_Word.mono _ _ _
   | exact LeO.none _
   | refine LeO.ite ?_ ?_
   | refine LeO.bind ?_ (fun _ => ?_)
def mizmazeref03_Resets.T1 : Bool × List (List Nat × List Nat) := (true, [([], []), ([], []), ([0, 1], [0, 1]), ([2, 2], [2]), ([3], [3]), ([3], [3]), ([5, 3], [3, 5]), ([6, 3], [3, 6]), ([7, 3, 3], [3, 7]), ([3], [3]), ([4, 8, 9, 8, 3], [3, 4, 8, 9]), ([10, 3], [3, 10]), ([11, 3], [3, 11]), ([3, 12], [3, 12]), ([13, 10, 0, 1, 2, 3, 4, 5, 6, 7, 8, 9, 10, 11, 12, 13], [13])])
def mizmazeref03_Resets.B1 : List Nat := [0, 0, 3, 7, 15, 15, 47, 111, 239, 15, 1023, 2047, 4095, 8191, 16383]
theorem mizmazeref03_Resets.tab1 : rtab .any (opsOf Try.f50 1) = mizmazeref03_Resets.T1 := by kernel_rfl
theorem mizmazeref03_Resets.bits1 : waitsOk mizmazeref03_Resets.T1.2 mizmazeref03_Resets.B1 = true := by kernel_rfl
def rr0 : Array Bool := #[false, true, false, false, false, false, false, false, false, false, false, false, false, false, false]
def rr1 : Array Bool := #[true, true, false, false, false, false, false, false, false, false, false, false, false, false, false]
def rr2 : Array Bool := #[true, true, true, false, false, false, false, false, false, false, false, false, false, false, false]
def rr3 : Array Bool := #[true, true, true, true, false, false, false, false, false, false, false, false, false, false, false]
def rr4 : Array Bool := #[true, true, true, true, false, true, false, false, false, false, false, false, false, false, false]
def rr5 : Array Bool := #[true, true, true, true, false, true, false, false, false, true, false, false, false, false, false]
def rr6 : Array Bool := #[true, true, true, true, true, true, false, false, false, true, false, false, false, false, false]
def rr7 : Array Bool := #[true, true, true, true, true, true, true, false, false, true, false, false, false, false, false]
def rr8 : Array Bool := #[true, true, true, true, true, true, true, true, false, true, false, false, false, false, false]
def rr9 : Array Bool := #[true, true, true, true, true, true, true, true, true, true, false, false, false, false, false]
def rr10 : Array Bool := #[true, true, true, true, true, true, true, true, true, true, true, false, false, false, false]
def rr11 : Array Bool := #[true, true, true, true, true, true, true, true, true, true, true, true, false, false, false]
def rr12 : Array Bool := #[true, true, true, true, true, true, true, true, true, true, true, true, true, false, false]
def rr13 : Array Bool := #[true, true, true, true, true, true, true, true, true, true, true, true, true, true, false]
def rr14 : Array Bool := #[true, true, true, true, true, true, true, true, true, true, true, true, true, true, true]
def rr15 : Array Bool := #[true, true, true, true, true, false, false, false, false, false, false, false, false, false, false]
def rr16 : Array Bool := #[true, true, true, true, true, true, false, false, false, false, false, false, false, false, false]
def rr17 : Array Bool := #[true, true, true, true, true, true, true, false, false, false, false, false, false, false, false]
def rr18 : Array Bool := #[true, true, true, true, true, true, true, true, false, false, false, false, false, false, false]
def rr19 : Array Bool := #[true, true, true, true, true, true, true, true, true, false, false, false, false, false, false]
set_option maxHeartbeats 8000000 in
set_option maxRecDepth 100000 in
theorem mizmazeref03_Resets.calls (k : Nat) (A0_0 : Option Addr) (c0_0 : Nat) (l0_0 : List (List Int)) (A1 : Option Addr) (c1 : Nat) (l1 : List Int) (r : Bool) (w : World) (hr0_0 : Kd.C (Kd.slice 3 (Kd.int .i64)) w A0_0 l0_0.length l0_0) (hc0_0 : l0_0.length ≤ c0_0) (hr1 : Kd.C (Kd.int .i64) w A1 l1.length l1) (hc1 : l1.length ≤ c1) (h : mizmazeref03_Resets.f k l0_0 l1 = some r) :
    Calls Try.prog 50 #[.agg #[.slice A0_0 l0_0.length c0_0], .slice A1 l1.length c1] w fun e w' => e = .returned (.bool r) ∧ Below w.heap.size w w' := by
 have hu24 := Try.underlying24
 have HR0_0 := am hr0_0
 have HC0_0 := am hc0_0
 clear hr0_0 hc0_0
 have HR1 := am hr1
 have HC1 := am hc1
 clear hr1 hc1
 have HB := am (Below.refl w.heap.size w)
 have H : ((mizmazeref01_Word.f k l0_0 l1).bind fun t428 => (if t428 = true then ((mizmazeref01_All.f k (l0_0.length : Int)).bind fun t429 => ((mizmazeref01_Image.f k l0_0 t429 l1).bind fun t432 => (some ((t432.length : Int) == 1)))) else (some false))) = some r := h
 clear h
 replace H := Option.bind_eq_some_iff.mp H
 obtain ⟨t428, A30, H⟩ := H
 replace H : (if t428 = true then ((mizmazeref01_All.f k (l0_0.length : Int)).bind fun t429 => ((mizmazeref01_Image.f k l0_0 t429 l1).bind fun t432 => (some ((t432.length : Int) == 1)))) else (some false)) = some r := H
 have A3 := am A30
 clear A30
 by_cases c4 : t428 = true
 rotate_left
 ·replace c4 := Bool.eq_false_iff.mpr c4
  subst c4
  have H1 : (some false) = some r := by rw [if_neg (show ¬ (false = true) by decide)] at H; exact H
  clear H
  have H := H1
  clear H1
  obtain rfl := Option.some.inj H
  go_enter Try.func50, Try.ntmps50
  try go_wp2_with (first | ((with_reducible refine gate_dst (N := 2) rfl ?_); (try (refine gate_guard (by rfl) ?_; dsimp only)); refine box_event ?hg (N := 2) ?hd (cs := #[.slice A0_0 l0_0.length c0_0]) (t := 24) ?hr ?_; (case hd => rfl); (case hg => rfl); (case hr => first | (go_simp; done) | (go_simp; rfl)); intro gb427 hg w14 hbox hb; have BK427 := am (hbox); have GW427 := am ((by rw [hg]; exact (below_size (bw HB.out)) : w.heap.size ≤ gb427)); have GE427 := am ((by rw [hg]; exact (below_size (bw HB.out)) : w.heap.size ≤ gb427)); replace HB := am (below_step (bw HB.out) hb); clear hb hbox hg))
  replace BK427 := am (blk_drew BK427.out)
  replace HB := am (bd HB.out)
  refine start_ (n := 15) (S := fun w' => w'.cell? ⟨gb427, 0, none⟩ = some (.slice A0_0 l0_0.length c0_0)) (ds := []) #[false, false, false, false, false, false, false, false, false, false, false, false, false, false, false] (by kernel_rfl) rfl rfl ((blk_cell BK427.out 0).trans rfl) (fun hHeld => ?_); refine with_tabW mizmazeref03_Resets.tab1 mizmazeref03_Resets.bits1 (fun HT_ HW_ => ?_)
  generalize w14.drew = w15 at BK427 HB hHeld ⊢
  refine pv_ 1 6 rr0 HT_ ?_
  refine take_ (i := 0) (N := some 5) (v := ?_) (a' := ?_) rr1 rfl rfl (take_ofW HT_.out HW_.out (by kernel_rfl)) (fun _ _ _ h => h) (Or.inl ⟨by rfl, ?_⟩) hHeld ?_ ?_
  rotate_left
  ·intro w' s0
   go_simp
   with_reducible rfl
  rotate_left
  ·simp only [Act.put, List.setIfInBounds_toArray, List.set_cons_zero, List.set_cons_succ, i64_w, i32_w]
   rfl
  refine one_ (i := 2) (N := some 7) rr2 rfl rfl (one_of HT_.out (by kernel_rfl)) (by decide) (fun K hK => ?_)
  refine goes_ Try.func34 (by kernel_rfl) rfl #[.agg #[.slice A0_0 l0_0.length c0_0], .slice A1 l1.length c1] (by rfl) rfl rfl zz1 ?_
  with_reducible refine (mizmazeref01_Word.calls k _ _ l0_0 _ _ l1 false _ ?side1 ?side2 ?side3 ?side4 A3.out).mono ?_
  (case side1 => exact kc (Kd.C_below HR0_0.out HB.out))
  (case side2 => exact HC0_0.out)
  (case side3 => exact kc (Kd.C_below HR1.out HB.out))
  (case side4 => exact HC1.out)
  rintro e w16 ⟨rfl, hb⟩
  refine ⟨_, rfl, ?_⟩
  replace BK427 := am (blk_below (g := gb427) (o := .cells #[.slice A0_0 l0_0.length c0_0] 24 (0, 0)) (kb BK427.out) hb)
  replace HB := am (below_step (bs HB.out) hb)
  (try clear hb)
  (try clear hb2)
  (try clear hk)
  (try clear hi)
  refine hK.out _ _ ((blk_cell BK427.out 0).trans rfl) (fun hHeld => ?_)
  clear hK K
  refine norm_ (a' := ?_) ?_ ?_
  rotate_left
  ·show Act.put _ (some 7) _ = _
   simp only [Act.put, List.setIfInBounds_toArray, List.set_cons_zero, List.set_cons_succ, i64_w, i32_w]
   rfl
  refine pv_ 3 8 rr3 HT_ ?_
  refine pu_ 4 9 rr15 HT_ ?_
  refine pu_ 5 10 rr16 HT_ ?_
  refine pu_ 6 11 rr17 HT_ ?_
  refine pu_ 7 12 rr18 HT_ ?_
  refine pu_ 8 13 rr19 HT_ ?_
  refine pu_ 9 14 rr9 HT_ ?_
  refine pu_ 10 15 rr10 HT_ ?_
  refine pu_ 11 16 rr11 HT_ ?_
  refine pu_ 12 17 rr12 HT_ ?_
  refine pv_ 13 18 rr13 HT_ ?_
  refine pv_ 14 4 rr14 HT_ ?_
  refine done_ (done_of HT_.out (by kernel_rfl)) ?_
  try go_wp2
  go_ret
  exact ⟨by first | rfl | (simp [errW_none, errW_some] <;> rfl) | (simp [*, errW_none, errW_some] <;> rfl), bs HB.out⟩
 subst c4
 have H1 : ((mizmazeref01_All.f k (l0_0.length : Int)).bind fun t429 => ((mizmazeref01_Image.f k l0_0 t429 l1).bind fun t432 => (some ((t432.length : Int) == 1)))) = some r := by rw [if_pos rfl] at H; exact H
 clear H
 have H := H1
 clear H1
 replace H := Option.bind_eq_some_iff.mp H
 obtain ⟨t429, A50, H⟩ := H
 replace H : ((mizmazeref01_Image.f k l0_0 t429 l1).bind fun t432 => (some ((t432.length : Int) == 1))) = some r := H
 have A5 := am A50
 clear A50
 replace H := Option.bind_eq_some_iff.mp H
 obtain ⟨t432, A60, H⟩ := H
 replace H : (some ((t432.length : Int) == 1)) = some r := H
 have A6 := am A60
 clear A60
 obtain rfl := Option.some.inj H
 go_enter Try.func50, Try.ntmps50
 try go_wp2_with (first | ((with_reducible refine gate_dst (N := 2) rfl ?_); (try (refine gate_guard (by rfl) ?_; dsimp only)); refine box_event ?hg (N := 2) ?hd (cs := #[.slice A0_0 l0_0.length c0_0]) (t := 24) ?hr ?_; (case hd => rfl); (case hg => rfl); (case hr => first | (go_simp; done) | (go_simp; rfl)); intro gb427 hg w7 hbox hb; have BK427 := am (hbox); have GW427 := am ((by rw [hg]; exact (below_size (bw HB.out)) : w.heap.size ≤ gb427)); have GE427 := am ((by rw [hg]; exact (below_size (bw HB.out)) : w.heap.size ≤ gb427)); replace HB := am (below_step (bw HB.out) hb); clear hb hbox hg))
 replace BK427 := am (blk_drew BK427.out)
 replace HB := am (bd HB.out)
 refine start_ (n := 15) (S := fun w' => w'.cell? ⟨gb427, 0, none⟩ = some (.slice A0_0 l0_0.length c0_0)) (ds := []) #[false, false, false, false, false, false, false, false, false, false, false, false, false, false, false] (by kernel_rfl) rfl rfl ((blk_cell BK427.out 0).trans rfl) (fun hHeld => ?_); refine with_tabW mizmazeref03_Resets.tab1 mizmazeref03_Resets.bits1 (fun HT_ HW_ => ?_)
 generalize w7.drew = w8 at BK427 HB hHeld ⊢
 refine pv_ 1 6 rr0 HT_ ?_
 refine take_ (i := 0) (N := some 5) (v := ?_) (a' := ?_) rr1 rfl rfl (take_ofW HT_.out HW_.out (by kernel_rfl)) (fun _ _ _ h => h) (Or.inl ⟨by rfl, ?_⟩) hHeld ?_ ?_
 rotate_left
 ·intro w' s0
  go_simp
  with_reducible rfl
 rotate_left
 ·simp only [Act.put, List.setIfInBounds_toArray, List.set_cons_zero, List.set_cons_succ, i64_w, i32_w]
  rfl
 refine one_ (i := 2) (N := some 7) rr2 rfl rfl (one_of HT_.out (by kernel_rfl)) (by decide) (fun K hK => ?_)
 refine goes_ Try.func34 (by kernel_rfl) rfl #[.agg #[.slice A0_0 l0_0.length c0_0], .slice A1 l1.length c1] (by rfl) rfl rfl zz1 ?_
 with_reducible refine (mizmazeref01_Word.calls k _ _ l0_0 _ _ l1 true _ ?side1 ?side2 ?side3 ?side4 A3.out).mono ?_
 (case side1 => exact kc (Kd.C_below HR0_0.out HB.out))
 (case side2 => exact HC0_0.out)
 (case side3 => exact kc (Kd.C_below HR1.out HB.out))
 (case side4 => exact HC1.out)
 rintro e w9 ⟨rfl, hb⟩
 refine ⟨_, rfl, ?_⟩
 replace BK427 := am (blk_below (g := gb427) (o := .cells #[.slice A0_0 l0_0.length c0_0] 24 (0, 0)) (kb BK427.out) hb)
 replace HB := am (below_step (bs HB.out) hb)
 (try clear hb)
 (try clear hb2)
 (try clear hk)
 (try clear hi)
 refine hK.out _ _ ((blk_cell BK427.out 0).trans rfl) (fun hHeld => ?_)
 clear hK K
 refine norm_ (a' := ?_) ?_ ?_
 rotate_left
 ·show Act.put _ (some 7) _ = _
  simp only [Act.put, List.setIfInBounds_toArray, List.set_cons_zero, List.set_cons_succ, i64_w, i32_w]
  rfl
 refine pv_ 3 8 rr3 HT_ ?_
 refine pv_ 5 10 rr4 HT_ ?_
 refine pv_ 9 14 rr5 HT_ ?_
 refine take_ (i := 4) (N := some 9) (v := ?_) (a' := ?_) rr6 rfl rfl (take_ofW HT_.out HW_.out (by kernel_rfl)) (fun _ _ _ h => h) (Or.inl ⟨by rfl, ?_⟩) hHeld ?_ ?_
 rotate_left
 ·intro w' s0
  go_simp
  with_reducible rfl
 rotate_left
 ·simp only [Act.put, List.setIfInBounds_toArray, List.set_cons_zero, List.set_cons_succ, i64_w, i32_w]
  rfl
 refine take_ (i := 6) (N := some 11) (v := ?_) (a' := ?_) rr7 rfl rfl (take_ofW HT_.out HW_.out (by kernel_rfl)) (fun _ _ _ h => h) (Or.inl ⟨by rfl, ?_⟩) hHeld ?_ ?_
 rotate_left
 ·intro w' s0
  go_simp
  with_reducible rfl
 rotate_left
 ·simp only [Act.put, List.setIfInBounds_toArray, List.set_cons_zero, List.set_cons_succ, i64_w, i32_w]
  rfl
 refine pv_ 7 12 rr8 HT_ ?_
 refine one_ (i := 8) (N := some 13) rr9 rfl rfl (one_of HT_.out (by kernel_rfl)) (by decide) (fun K hK => ?_)
 refine goes_ Try.func40 (by kernel_rfl) rfl #[.int .i64 (l0_0.length : Int)] (by rfl) rfl rfl zz1 ?_
 with_reducible refine (mizmazeref01_All.calls k (l0_0.length : Int) t429 _ A5.out).mono ?_
 rintro e w10 ⟨v430, rfl, ho0, hb⟩
 refine ⟨_, rfl, ?_⟩
 have HO431 := am (Kd.R_lower ho0 (below_size (bs HB.out)))
 replace BK427 := am (blk_below (g := gb427) (o := .cells #[.slice A0_0 l0_0.length c0_0] 24 (0, 0)) (kb BK427.out) hb)
 replace HB := am (below_step (bs HB.out) hb)
 (try clear hb)
 (try clear hb2)
 (try clear hk)
 (try clear hi)
 (try clear ho0)
 obtain ⟨Ao11, co11, eo11⟩ := Kd.R_slice HO431.out
 (first | subst eo11 | (injection eo11 with f1_ f2_ f3_; have f4_ := f1_.symm; have f5_ := f3_.symm; clear f1_ f2_ f3_; subst f4_; subst f5_))
 refine hK.out _ _ ((blk_cell BK427.out 0).trans rfl) (fun hHeld => ?_)
 clear hK K
 refine norm_ (a' := ?_) ?_ ?_
 rotate_left
 ·show Act.put _ (some 13) _ = _
  simp only [Act.put, List.setIfInBounds_toArray, List.set_cons_zero, List.set_cons_succ, i64_w, i32_w]
  rfl
 refine one_ (i := 10) (N := some 15) rr10 rfl rfl (one_of HT_.out (by kernel_rfl)) (by decide) (fun K hK => ?_)
 refine goes_ Try.func91 (by kernel_rfl) rfl #[.agg #[.slice A0_0 l0_0.length c0_0], .slice Ao11 t429.length co11, .slice A1 l1.length c1] (by rfl) rfl rfl zz1 ?_
 with_reducible refine (mizmazeref01_Image.calls k _ _ l0_0 _ _ t429 _ _ l1 t432 _ ?side1 ?side2 ?side3 ?side4 ?side5 ?side6 A6.out).mono ?_
 (case side1 => exact kc (Kd.C_below HR0_0.out HB.out))
 (case side2 => exact HC0_0.out)
 (case side3 => repeat (first | exact (Kd.R_reads' HO431.out).2.2 | (with_reducible refine Kd.C_alloc ?_ _) | (with_reducible refine Kd.C_drewN ?_ _) | (with_reducible refine Kd.C_drew ?_)))
 (case side4 => exact (Kd.R_reads' HO431.out).2.1)
 (case side5 => exact kc (Kd.C_below HR1.out HB.out))
 (case side6 => exact HC1.out)
 rintro e w12 ⟨v433, rfl, ho0, hb⟩
 refine ⟨_, rfl, ?_⟩
 have HO434 := am (Kd.R_lower (Kd.R_new' ho0 (Kd.R_lt (kR HO431.out))) (below_size (bs HB.out)))
 replace HO431 := am (Kd.R_elder' (kR HO431.out) (Kd.R_base ho0) hb)
 replace BK427 := am (blk_below (g := gb427) (o := .cells #[.slice A0_0 l0_0.length c0_0] 24 (0, 0)) (kb BK427.out) hb)
 replace HB := am (below_step (bs HB.out) hb)
 (try clear hb)
 (try clear hb2)
 (try clear hk)
 (try clear hi)
 (try clear ho0)
 obtain ⟨Ao13, co13, eo13⟩ := Kd.R_slice HO434.out
 (first | subst eo13 | (injection eo13 with f1_ f2_ f3_; have f4_ := f1_.symm; have f5_ := f3_.symm; clear f1_ f2_ f3_; subst f4_; subst f5_))
 refine hK.out _ _ ((blk_cell BK427.out 0).trans rfl) (fun hHeld => ?_)
 clear hK K
 refine norm_ (a' := ?_) ?_ ?_
 rotate_left
 ·show Act.put _ (some 15) _ = _
  simp only [Act.put, List.setIfInBounds_toArray, List.set_cons_zero, List.set_cons_succ, i64_w, i32_w]
  rfl
 refine pv_ 11 16 rr11 HT_ ?_
 refine pv_ 12 17 rr12 HT_ ?_
 refine pv_ 13 18 rr13 HT_ ?_
 refine pv_ 14 4 rr14 HT_ ?_
 refine done_ (done_of HT_.out (by kernel_rfl)) ?_
 try go_wp2
 go_ret
 exact ⟨by first | rfl | (simp [errW_none, errW_some] <;> rfl) | (simp [*, errW_none, errW_some] <;> rfl), bs HB.out⟩
end Go.Proofs.Ytjgdalhdiohclaa.Q
end
/-! Part QAutoLead -/
section
namespace Go.Proofs.Ytjgdalhdiohclaa.Q
attribute [local go_sem] max2_int min2_int max_two min_two max_three min_three max_four min_four
set_option linter.unusedVariables false
set_option linter.unusedSimpArgs false
def auto_Lead.l0 : Nat → Int → List Int → Int → Int → List (List Int) → Option (Int)
 | 0, _, _, _, _, _ => none
 | k + 1, x1, x9, x10, x11, x356000 => if x11 < x10 then (if 0 ≤ x11 then (if x11 < (x9.length : Int) then (if 0 ≤ x1 then (if x1 < (x356000.length : Int) then (if 0 ≤ (rd x9 x11) then (if (rd x9 x11) < ((rd_L1 x356000 x1).length : Int) then (auto_Lead.l0 k (rd (rd_L1 x356000 x1) (rd x9 x11)) x9 x10 (wrap64 (x11 + 1)) x356000) else (none)) else (none)) else (none)) else (none)) else (none)) else (none)) else (some x1)
def auto_Lead.f (k : Nat) (l0_0 : List (List Int)) (a1 : Int) (l2 : List Int) : Option (Int) := auto_Lead.l0 k a1 l2 (l2.length : Int) 0 l0_0
theorem auto_Lead.mono_l : ∀ k, (∀ y0 y1 y2 y3 y4, LeO (auto_Lead.l0 k y0 y1 y2 y3 y4) (auto_Lead.l0 (k + 1) y0 y1 y2 y3 y4))
 | 0 => fun _ _ _ _ _ r h => by simp [auto_Lead.l0] at h
 | k + 1 => by
  have ih0 := auto_Lead.mono_l k
  ·intro y0 y1 y2 y3 y4
   unfold auto_Lead.l0
   repeat' first
   | (with_reducible exact ih0 _ _ _ _ _)
   | (with_reducible exact LeO.refl _)
   | (with_reducible exact LeO.none _)
   | (with_reducible refine LeO.ite ?_ ?_)
   | (with_reducible refine LeO.bind ?_ (fun _ => ?_))
   | exact ih0 _ _ _ _ _
   | exact LeO.none _
   | refine LeO.ite ?_ ?_
   | refine LeO.bind ?_ (fun _ => ?_)
theorem auto_Lead.mono : ∀ a0 a1 a2 k, LeO (auto_Lead.f k a0 a1 a2) (auto_Lead.f (k + 1) a0 a1 a2) := by
 intro a0 a1 a2 k
 have ih0 := auto_Lead.mono_l k
 unfold auto_Lead.f
 repeat' first
   | (with_reducible exact ih0 _ _ _ _ _)
   | (with_reducible exact LeO.refl _)
   | (with_reducible exact LeO.none _)
   | (with_reducible refine LeO.ite ?_ ?_)
   | (with_reducible refine LeO.bind ?_ (fun _ => ?_))
   | exact ih0 _ _ _ _ _
   | exact LeO.none _
   | refine LeO.ite ?_ ?_
   | refine LeO.bind ?_ (fun _ => ?_)
set_option maxHeartbeats 8000000 in
set_option maxRecDepth 100000 in
theorem auto_Lead.calls (k : Nat) (A0_0 : Option Addr) (c0_0 : Nat) (l0_0 : List (List Int)) (a1 : Int) (A2 : Option Addr) (c2 : Nat) (l2 : List Int) (r : Int) (w : World) (hr0_0 : Kd.C (Kd.slice 3 (Kd.int .i64)) w A0_0 l0_0.length l0_0) (hc0_0 : l0_0.length ≤ c0_0) (hr2 : Kd.C (Kd.int .i64) w A2 l2.length l2) (hc2 : l2.length ≤ c2) (h : auto_Lead.f k l0_0 a1 l2 = some r) :
  Calls Try.prog 74 #[.agg #[.slice A0_0 l0_0.length c0_0], .int .i64 a1, .slice A2 l2.length c2] w fun e w' => e = .returned (.int .i64 r) ∧ Below w.heap.size w w' := by
 have hu24 := Try.underlying24
 have HR0_0 := am hr0_0
 have HC0_0 := am hc0_0
 clear hr0_0 hc0_0
 have HR2 := am hr2
 have HC2 := am hc2
 clear hr2 hc2
 have HB := am (Below.refl w.heap.size w)
 have H : (auto_Lead.l0 k a1 l2 (l2.length : Int) 0 l0_0) = some r := h
 clear h
 have H' := am H
 clear H
 go_enter Try.func74, Try.ntmps74
 go_wp2_with (first | ((with_reducible refine gate_dst (N := 3) rfl ?_); refine box_event ?hg (N := 3) ?hd (cs := #[.slice A0_0 l0_0.length c0_0]) (t := 24) ?hr ?_; (case hd => rfl); (case hg => rfl); (case hr => first | (go_simp; done) | (go_simp; rfl)); intro gb355 hg w4 hbox hb; have BK355 := am (hbox); have GW355 := am ((by rw [hg]; exact (below_size (bw HB.out)) : w.heap.size ≤ gb355)); have GE355 := am ((by rw [hg]; exact (below_size (bw HB.out)) : w.heap.size ≤ gb355)); replace HB := am (below_step (bw HB.out) hb); clear hb hbox hg))
 go_loopg [1, 11] k (fun kq v1 v11 w' => ∃ (x1_1 : Int) (x11_1 : Int), v1 = .int .i64 x1_1 ∧ v11 = .int .i64 x11_1 ∧ Aside0 (auto_Lead.l0 kq x1_1 l2 (l2.length : Int) x11_1 l0_0 = some r) ∧ Aside0 (kq ≤ k) ∧ Aside0 (w'.heap[gb355]? = some (.cells #[(.slice A0_0 l0_0.length c0_0)] 24 (0, 0))) ∧ Aside0 (Below w.heap.size w w'))
 case atStart => exact ⟨(a1), (0), zz3, zz3, H', ⟨Nat.le_refl _⟩, ⟨kb BK355.out⟩, ⟨bs HB.out⟩⟩
 case round =>
  clear H'
  (try clear c2); (try clear p2)
  obtain ⟨x1_1, x11_1, rfl, rfl, HA, HK1, BK355, HB⟩ := hrel
  cases gk with
  | zero => exact absurd HA.out (by simp [auto_Lead.l0])
  | succ k1 =>
   have H := HA.out
   clear HA
   simp only [auto_Lead.l0] at H
   by_cases c5 : x11_1 < (l2.length : Int)
   ·rw [if_pos c5] at H
    have c5b0 : decide (x11_1 < (l2.length : Int)) = true := decide_eq_true c5
    clear c5
    by_cases c6 : 0 ≤ x11_1
    ·rw [if_pos c6] at H
     have c6b0 : decide (0 ≤ x11_1) = true := decide_eq_true c6
     clear c6
     by_cases c7 : x11_1 < (l2.length : Int)
     ·rw [if_pos c7] at H
      have c7b0 : decide (x11_1 < (l2.length : Int)) = true := decide_eq_true c7
      clear c7
      by_cases c8 : 0 ≤ x1_1
      ·rw [if_pos c8] at H
       have c8b0 : decide (0 ≤ x1_1) = true := decide_eq_true c8
       clear c8
       by_cases c9 : x1_1 < (l0_0.length : Int)
       ·rw [if_pos c9] at H
        have c9b0 : decide (x1_1 < (l0_0.length : Int)) = true := decide_eq_true c9
        clear c9
        by_cases c10 : 0 ≤ (rd l2 x11_1)
        ·rw [if_pos c10] at H
         have c10b0 : decide (0 ≤ (rd l2 x11_1)) = true := decide_eq_true c10
         clear c10
         by_cases c11 : (rd l2 x11_1) < ((rd_L1 l0_0 x1_1).length : Int)
         ·rw [if_pos c11] at H
          have c11b0 : decide ((rd l2 x11_1) < ((rd_L1 l0_0 x1_1).length : Int)) = true := decide_eq_true c11
          clear c11
          have H' := am H
          clear H
          have p356 : 0 ≤ (x11_1 : Int) := od zz2
          have q356 : x11_1 < (l2.length : Int) := od zz2
          obtain ⟨ad356, e356, hx356_0⟩ := Kd.at_int HR2.out x11_1 p356 q356
          cases e356
          replace hx356_0 := (HB.out.cell (World.block_lt_of_cell? w _ hx356_0)).trans hx356_0
          replace p356 := eq_true p356
          replace q356 := eq_true q356
          have hcz12_0 : wr.cell? ⟨gb355, 0, none⟩ = some (.slice A0_0 l0_0.length c0_0) := (blk_cell BK355.out 0).trans rfl
          have hfz12_0 := blk_frozen BK355.out 0
          have p357 : 0 ≤ (x1_1 : Int) := od zz2
          have q357 : x1_1 < (l0_0.length : Int) := od zz2
          obtain ⟨ad357, A357_0, c357_0, e357, hx357_0, hl357_0, hi357_0⟩ := at_L1 HR0_0.out x1_1 p357 q357
          cases e357
          replace hx357_0 := (HB.out.cell (World.block_lt_of_cell? w _ hx357_0)).trans hx357_0
          have HR357_0 := am hi357_0
          have HC357_0 := am hl357_0
          clear hi357_0 hl357_0
          replace p357 := eq_true p357
          replace q357 := eq_true q357
          have p358 : 0 ≤ ((rd l2 x11_1) : Int) := od zz2
          have q358 : (rd l2 x11_1) < ((rd_L1 l0_0 x1_1).length : Int) := od zz2
          obtain ⟨ad358, e358, hx358_0⟩ := Kd.at_int HR357_0.out (rd l2 x11_1) p358 q358
          cases e358
          replace hx358_0 := (HB.out.cell (World.block_lt_of_cell? w _ hx358_0)).trans hx358_0
          replace p358 := eq_true p358
          replace q358 := eq_true q358
          go_wp2
          go_roundg k1
          case measure => have := HK1.out; omega
          case rel => exact ⟨(rd (rd_L1 l0_0 x1_1) (rd l2 x11_1)), (wrap64 (x11_1 + 1)), zz3, zz3, H', ⟨by have := HK1.out; omega⟩, ⟨kb BK355.out⟩, ⟨bs HB.out⟩⟩
         ·rw [if_neg c11] at H
          exact absurd H (by simp)
        ·rw [if_neg c10] at H
         exact absurd H (by simp)
       ·rw [if_neg c9] at H
        exact absurd H (by simp)
      ·rw [if_neg c8] at H
       exact absurd H (by simp)
     ·rw [if_neg c7] at H
      exact absurd H (by simp)
    ·rw [if_neg c6] at H
     exact absurd H (by simp)
   ·rw [if_neg c5] at H
    have c5b0 : decide (x11_1 < (l2.length : Int)) = false := decide_eq_false c5
    clear c5
    obtain rfl := Option.some.inj H
    go_wp2
    go_ret
    exact ⟨by first | rfl | (simp [errW_none, errW_some] <;> rfl) | (simp [*, errW_none, errW_some] <;> rfl), bs HB.out⟩
end Go.Proofs.Ytjgdalhdiohclaa.Q
end
/-! Part QRef02Step -/
section
namespace Go.Proofs.Ytjgdalhdiohclaa.Q
attribute [local go_sem] max2_int min2_int max_two min_two max_three min_three max_four min_four
set_option linter.unusedVariables false
set_option linter.unusedSimpArgs false
end Go.Proofs.Ytjgdalhdiohclaa.Q
end
/-! Part QRef02Reach -/
section
namespace Go.Proofs.Ytjgdalhdiohclaa.Q
attribute [local go_sem] max2_int min2_int max_two min_two max_three min_three max_four min_four
set_option linter.unusedVariables false
set_option linter.unusedSimpArgs false
end Go.Proofs.Ytjgdalhdiohclaa.Q
end
/-! Part QRef02Full -/
section
namespace Go.Proofs.Ytjgdalhdiohclaa.Q
attribute [local go_sem] max2_int min2_int max_two min_two max_three min_three max_four min_four
set_option linter.unusedVariables false
set_option linter.unusedSimpArgs false
end Go.Proofs.Ytjgdalhdiohclaa.Q
end
/-! Part QRef02Connected -/
section
namespace Go.Proofs.Ytjgdalhdiohclaa.Q
attribute [local go_sem] max2_int min2_int max_two min_two max_three min_three max_four min_four
set_option linter.unusedVariables false
set_option linter.unusedSimpArgs false
end Go.Proofs.Ytjgdalhdiohclaa.Q
end
/-! Part QRef02Common -/
section
namespace Go.Proofs.Ytjgdalhdiohclaa.Q
attribute [local go_sem] max2_int min2_int max_two min_two max_three min_three max_four min_four
set_option linter.unusedVariables false
set_option linter.unusedSimpArgs false
end Go.Proofs.Ytjgdalhdiohclaa.Q
end
/-! Part QRef02Period -/
section
namespace Go.Proofs.Ytjgdalhdiohclaa.Q
attribute [local go_sem] max2_int min2_int max_two min_two max_three min_three max_four min_four
set_option linter.unusedVariables false
set_option linter.unusedSimpArgs false
end Go.Proofs.Ytjgdalhdiohclaa.Q
end
/-! Part QRef05Times -/
section
namespace Go.Proofs.Ytjgdalhdiohclaa.Q
attribute [local go_sem] max2_int min2_int max_two min_two max_three min_three max_four min_four
set_option linter.unusedVariables false
set_option linter.unusedSimpArgs false
end Go.Proofs.Ytjgdalhdiohclaa.Q
end
/-! Part QRef05Same -/
section
namespace Go.Proofs.Ytjgdalhdiohclaa.Q
attribute [local go_sem] max2_int min2_int max_two min_two max_three min_three max_four min_four
set_option linter.unusedVariables false
set_option linter.unusedSimpArgs false
end Go.Proofs.Ytjgdalhdiohclaa.Q
end
/-! Part QRef05Product -/
section
namespace Go.Proofs.Ytjgdalhdiohclaa.Q
attribute [local go_sem] max2_int min2_int max_two min_two max_three min_three max_four min_four
set_option linter.unusedVariables false
set_option linter.unusedSimpArgs false
end Go.Proofs.Ytjgdalhdiohclaa.Q
end
/-! Part QRef05Colorings -/
section
namespace Go.Proofs.Ytjgdalhdiohclaa.Q
attribute [local go_sem] max2_int min2_int max_two min_two max_three min_three max_four min_four
set_option linter.unusedVariables false
set_option linter.unusedSimpArgs false
end Go.Proofs.Ytjgdalhdiohclaa.Q
end
