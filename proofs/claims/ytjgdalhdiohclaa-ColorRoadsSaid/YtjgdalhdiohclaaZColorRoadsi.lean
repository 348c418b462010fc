/- Part of the proof of ColorRoads (text 9 of 31) -/
import Derived.Test.YtjgdalhdiohclaaZColorRoadsh
set_option linter.unusedVariables false
set_option linter.unusedSimpArgs false
set_option linter.unusedSectionVars false
set_option maxRecDepth 100000
set_option maxHeartbeats 8000000
open Go.RowKit Go.Proofs.YtjgdalhdiohclaaW.PrintWords Go.Proofs.YtjgdalhdiohclaaW.PrintLast Go.Proofs.YtjgdalhdiohclaaW.PrintMore
section
namespace Go.Proofs.Ytjgdalhdiohclaa.Q
attribute [local go_sem] max2_int min2_int max_two min_two max_three min_three max_four min_four
def slices_Index_bool_bool.l0 : Nat → List Bool → Bool → Int → Int → Option (Int)
 | 0, _, _, _, _ => none
 | k + 1, x0, x1, x7, x8 => if x8 < x7 then (if 0 ≤ x8 then (if x8 < (x0.length : Int) then (if (x1 == (rdOf false x0 x8)) = true then (some x8) else (slices_Index_bool_bool.l0 k x0 x1 x7 (wrap64 (x8 + 1)))) else (none)) else (none)) else (some (-1))
def slices_Index_bool_bool.f (k : Nat) (l0 : List Bool) (a1 : Bool) : Option (Int) := slices_Index_bool_bool.l0 k l0 a1 (l0.length : Int) 0
theorem slices_Index_bool_bool.mono_l : ∀ k, (∀ y0 y1 y2 y3, LeO (slices_Index_bool_bool.l0 k y0 y1 y2 y3) (slices_Index_bool_bool.l0 (k + 1) y0 y1 y2 y3))
 | 0 => fun _ _ _ _ r h => by simp [slices_Index_bool_bool.l0] at h
 | k + 1 => by
  have ih0 := slices_Index_bool_bool.mono_l k
  ·intro y0 y1 y2 y3
   unfold slices_Index_bool_bool.l0
   with_reducible repeat' first | exact ih0 _ _ _ _ | exact LeO.refl _ | exact LeO.none _ | refine LeO.ite ?_ ?_ | refine LeO.bind ?_ (fun _ => ?_)
theorem slices_Index_bool_bool.mono : ∀ a0 a1 k, LeO (slices_Index_bool_bool.f k a0 a1) (slices_Index_bool_bool.f (k + 1) a0 a1) := by
 intro a0 a1 k
 have ih0 := slices_Index_bool_bool.mono_l k
 unfold slices_Index_bool_bool.f
 with_reducible repeat' first | exact ih0 _ _ _ _ | exact LeO.refl _ | exact LeO.none _ | refine LeO.ite ?_ ?_ | refine LeO.bind ?_ (fun _ => ?_)
theorem slices_Index_bool_bool.calls (k : Nat) (A0 : Option Addr) (c0 : Nat) (l0 : List Bool) (a1 : Bool) (r : Int) (w : World) (hr0 : Kd.C Kd.bool w A0 l0.length l0) (hc0 : l0.length ≤ c0) (h : slices_Index_bool_bool.f k l0 a1 = some r) :
  Calls Try.prog 117 #[.slice A0 l0.length c0, .bool a1] w fun e w' => e = .returned (.int .i64 r) ∧ Drawn0 w w' := by
 have HR0 := am hr0
 have HC0 := am hc0
 clear hr0 hc0
 have H : (slices_Index_bool_bool.l0 k l0 a1 (l0.length : Int) 0) = some r := h
 clear h
 have H' := am H
 clear H
 go_enter Try.func117, Try.ntmps117
 go_wp2
 go_loopg [8] k (fun kq v8 w' => ∃ (x8_1 : Int), v8 = .int .i64 x8_1 ∧ Aside0 (slices_Index_bool_bool.l0 kq l0 a1 (l0.length : Int) x8_1 = some r) ∧ Aside0 (kq ≤ k) ∧ Drawn0 w w')
 case atStart => exact ⟨(0), zz3, H', ⟨Nat.le_refl _⟩, by repeat (first | exact Drawn0.refl _ | apply Drawn0.step)⟩
 case round =>
  clear H'
  (try clear c1); (try clear p2)
  obtain ⟨x8_1, rfl, HA, HK1, ⟨m1, rfl⟩⟩ := hrel
  cases gk with
  | zero => exact absurd HA.out (by simp [slices_Index_bool_bool.l0])
  | succ k1 =>
   have H := HA.out
   clear HA
   simp only [slices_Index_bool_bool.l0] at H
   by_cases c3 : x8_1 < (l0.length : Int)
   ·rw [if_pos c3] at H
    have c3b0 : decide (x8_1 < (l0.length : Int)) = true := decide_eq_true c3
    clear c3
    by_cases c4 : 0 ≤ x8_1
    ·rw [if_pos c4] at H
     have c4b0 : decide (0 ≤ x8_1) = true := decide_eq_true c4
     clear c4
     by_cases c5 : x8_1 < (l0.length : Int)
     ·rw [if_pos c5] at H
      have c5b0 : decide (x8_1 < (l0.length : Int)) = true := decide_eq_true c5
      clear c5
      by_cases c6 : (a1 == (rdOf false l0 x8_1)) = true
      ·rw [if_pos c6] at H
       have c6b0 : (a1 == (rdOf false l0 x8_1)) = true := c6
       (try (have c6b1 : decide (a1 = (rdOf false l0 x8_1)) = true := by simpa using c6))
       (try (have c6b2 : (a1 == (rdOf false l0 x8_1)) = true := by simpa using c6))
       clear c6
       obtain rfl := Option.some.inj H
       have p313 : 0 ≤ (x8_1 : Int) := od zz2
       have q313 : x8_1 < (l0.length : Int) := od zz2
       obtain ⟨ad313, e313, hx313_0⟩ := Kd.at_bool HR0.out x8_1 p313 q313
       cases e313
       replace p313 := eq_true p313
       replace q313 := eq_true q313
       go_wp2
       go_ret
       exact ⟨by first | rfl | (simp; done) | (simp [*]; done), by repeat (first | exact Drawn0.refl _ | apply Drawn0.step)⟩
      ·rw [if_neg c6] at H
       have c6b0 : (a1 == (rdOf false l0 x8_1)) = false := by simpa using c6
       (try (have c6b1 : decide (a1 = (rdOf false l0 x8_1)) = false := by simpa using c6))
       (try (have c6b2 : (a1 == (rdOf false l0 x8_1)) = false := by simpa using c6))
       (try (have c6b3 : ¬ (a1 = (rdOf false l0 x8_1)) := by simpa using c6))
       clear c6
       have H' := am H
       clear H
       have p313 : 0 ≤ (x8_1 : Int) := od zz2
       have q313 : x8_1 < (l0.length : Int) := od zz2
       obtain ⟨ad313, e313, hx313_0⟩ := Kd.at_bool HR0.out x8_1 p313 q313
       cases e313
       replace p313 := eq_true p313
       replace q313 := eq_true q313
       go_wp2
       go_roundg k1
       case measure => have := HK1.out; omega
       case rel => exact ⟨(wrap64 (x8_1 + 1)), zz3, H', ⟨by have := HK1.out; omega⟩, by repeat (first | exact Drawn0.refl _ | apply Drawn0.step)⟩
     ·rw [if_neg c5] at H
      exact absurd H (by simp)
    ·rw [if_neg c4] at H
     exact absurd H (by simp)
   ·rw [if_neg c3] at H
    have c3b0 : decide (x8_1 < (l0.length : Int)) = false := decide_eq_false c3
    clear c3
    obtain rfl := Option.some.inj H
    go_wp2
    go_ret
    exact ⟨by first | rfl | (simp; done) | (simp [*]; done), by repeat (first | exact Drawn0.refl _ | apply Drawn0.step)⟩
end Go.Proofs.Ytjgdalhdiohclaa.Q
end
section
namespace Go.Proofs.Ytjgdalhdiohclaa.Q
attribute [local go_sem] max2_int min2_int max_two min_two max_three min_three max_four min_four
def slices_Contains_bool_bool.f (k : Nat) (l0 : List Bool) (a1 : Bool) : Option (Bool) := (slices_Index_bool_bool.f k l0 a1).bind fun t314 => (some (decide (t314 ≥ 0)))
theorem slices_Contains_bool_bool.mono : ∀ a0 a1 k, LeO (slices_Contains_bool_bool.f k a0 a1) (slices_Contains_bool_bool.f (k + 1) a0 a1) := by
 intro a0 a1 k
 unfold slices_Contains_bool_bool.f
 with_reducible repeat' first | exact slices_Index_bool_bool.mono _ _ _ | exact LeO.refl _ | exact LeO.none _ | refine LeO.ite ?_ ?_ | refine LeO.bind ?_ (fun _ => ?_)
theorem slices_Contains_bool_bool.calls (k : Nat) (A0 : Option Addr) (c0 : Nat) (l0 : List Bool) (a1 : Bool) (r : Bool) (w : World) (hr0 : Kd.C Kd.bool w A0 l0.length l0) (hc0 : l0.length ≤ c0) (h : slices_Contains_bool_bool.f k l0 a1 = some r) :
  Calls Try.prog 102 #[.slice A0 l0.length c0, .bool a1] w fun e w' => e = .returned (.bool r) ∧ Drawn0 w w' := by
 have HR0 := am hr0
 have HC0 := am hc0
 clear hr0 hc0
 have H : ((slices_Index_bool_bool.f k l0 a1).bind fun t314 => (some (decide (t314 ≥ 0)))) = some r := h
 clear h
 replace H := Option.bind_eq_some_iff.mp H
 obtain ⟨t314, A30, H⟩ := H
 replace H : (some (decide (t314 ≥ 0))) = some r := H
 have A3 := am A30
 clear A30
 obtain rfl := Option.some.inj H
 go_enter Try.func102, Try.ntmps102
 go_wp2_with (first | ((with_reducible refine gate_callee (f := 117) rfl ?_); refine goesL_ (some 7) rfl rfl Try.func117 (by kernel_rfl) rfl #[.slice A0 l0.length c0, .bool a1] rfl zz1 ?_; (with_reducible refine (slices_Index_bool_bool.calls k _ _ l0 a1 t314 _ ?side1 ?side2 A3.out).mono ?_); (case side1 => exact kc HR0.out); (case side2 => exact HC0.out); rintro e w' ⟨rfl, ⟨nd, rfl⟩⟩; refine ⟨_, rfl, ?_⟩))
 go_ret
 exact ⟨by first | rfl | (simp; done) | (simp [*]; done), by repeat (first | exact Drawn0.refl _ | apply Drawn0.step)⟩
end Go.Proofs.Ytjgdalhdiohclaa.Q
end
section
namespace Go.Proofs.Ytjgdalhdiohclaa.Q
attribute [local go_sem] max2_int min2_int max_two min_two max_three min_three max_four min_four
mutual
def net_lengths.l0 : Nat → List Int → List Bool → List Int → Int → List (List Int) → Option (List Int)
 | 0, _, _, _, _, _ => none
 | k + 1, x3, x4, x5, x6, x321000 => if x6 < (x5.length : Int) then (if 0 ≤ x6 then (if 0 ≤ (rd x5 x6) then (if (rd x5 x6) < (x321000.length : Int) then (net_lengths.l1 k x3 x4 x5 x6 (rd_L1 x321000 (rd x5 x6)) ((rd_L1 x321000 (rd x5 x6)).length : Int) 0 x321000) else (none)) else (none)) else (none)) else (some x3)
def net_lengths.l1 : Nat → List Int → List Bool → List Int → Int → List Int → Int → Int → List (List Int) → Option (List Int)
 | 0, _, _, _, _, _, _, _, _ => none
 | k + 1, x3, x4, x5, x6, x33, x34, x35, x321000 => if x35 < x34 then (if 0 ≤ x35 then (if x35 < (x33.length : Int) then (if 0 ≤ (rd x33 x35) then (if (rd x33 x35) < (x4.length : Int) then (if (rdOf false x4 (rd x33 x35) = true) then (net_lengths.l1 k x3 x4 x5 x6 x33 x34 (wrap64 (x35 + 1)) x321000) else (if 0 ≤ x6 then (if x6 < (x5.length : Int) then (if 0 ≤ (rd x5 x6) then (if (rd x5 x6) < (x3.length : Int) then (if (rd x33 x35) < (x3.length : Int) then (if x5.length < 17592186044416 then (net_lengths.l1 k (x3.set ((rd x33 x35) : Int).toNat (wrap64 ((rd x3 (rd x5 x6)) + 1))) (x4.set ((rd x33 x35) : Int).toNat true) (x5 ++ [rd x33 x35]) x6 x33 x34 (wrap64 (x35 + 1)) x321000) else (none)) else (none)) else (none)) else (none)) else (none)) else (none))) else (none)) else (none)) else (none)) else (none)) else (net_lengths.l0 k x3 x4 x5 (wrap64 (x6 + 1)) x321000)
end
def net_lengths.f (k : Nat) (l0_0 : List (List Int)) : Option (List Int) := if 0 ≤ (l0_0.length : Int) then (if ((l0_0.length : Int) : Int).toNat ≤ 35184372088832 then (if ((l0_0.length : Int) : Int).toNat ≤ 281474976710656 then ((some (List.replicate ((l0_0.length : Int) : Int).toNat false : List Bool)).bind fun y324 => (if 0 < (y324.length : Int) then (net_lengths.l0 k (List.replicate ((l0_0.length : Int) : Int).toNat 0) (y324.set (0 : Int).toNat true) (([0] : List Int)) 0 l0_0) else (none))) else (none)) else (none)) else (none)
theorem net_lengths.mono_l : ∀ k, (∀ y0 y1 y2 y3 y4, LeO (net_lengths.l0 k y0 y1 y2 y3 y4) (net_lengths.l0 (k + 1) y0 y1 y2 y3 y4)) ∧ (∀ y0 y1 y2 y3 y4 y5 y6 y7, LeO (net_lengths.l1 k y0 y1 y2 y3 y4 y5 y6 y7) (net_lengths.l1 (k + 1) y0 y1 y2 y3 y4 y5 y6 y7))
 | 0 => ⟨fun _ _ _ _ _ r h => by simp [net_lengths.l0] at h, fun _ _ _ _ _ _ _ _ r h => by simp [net_lengths.l1] at h⟩
 | k + 1 => by
  obtain ⟨ih0, ih1⟩ := net_lengths.mono_l k
  refine ⟨?_, ?_⟩
  ·intro y0 y1 y2 y3 y4
   unfold net_lengths.l0
   with_reducible repeat' first | exact ih0 _ _ _ _ _ | exact ih1 _ _ _ _ _ _ _ _ | exact LeO.refl _ | exact LeO.none _ | refine LeO.ite ?_ ?_ | refine LeO.bind ?_ (fun _ => ?_)
  ·intro y0 y1 y2 y3 y4 y5 y6 y7
   unfold net_lengths.l1
   with_reducible repeat' first | exact ih0 _ _ _ _ _ | exact ih1 _ _ _ _ _ _ _ _ | exact LeO.refl _ | exact LeO.none _ | refine LeO.ite ?_ ?_ | refine LeO.bind ?_ (fun _ => ?_)
theorem net_lengths.mono : ∀ a0 k, LeO (net_lengths.f k a0) (net_lengths.f (k + 1) a0) := by
 intro a0 k
 obtain ⟨ih0, ih1⟩ := net_lengths.mono_l k
 unfold net_lengths.f
 with_reducible repeat' first | exact ih0 _ _ _ _ _ | exact ih1 _ _ _ _ _ _ _ _ | exact LeO.refl _ | exact LeO.none _ | refine LeO.ite ?_ ?_ | refine LeO.bind ?_ (fun _ => ?_)
theorem net_lengths.calls (k : Nat) (A0_0 : Option Addr) (c0_0 : Nat) (l0_0 : List (List Int)) (r : List Int) (w : World) (hr0_0 : Kd.C (Kd.slice 3 (Kd.int .i64)) w A0_0 l0_0.length l0_0) (hc0_0 : l0_0.length ≤ c0_0) (h : net_lengths.f k l0_0 = some r) :
    Calls Try.prog 71 #[.agg #[.slice A0_0 l0_0.length c0_0]] w fun e w' => ∃ v0_ : Value, e = .returned (v0_) ∧ Kd.R (Kd.int .i64) 3 w' w.heap.size (fun _ => True) v0_ r ∧ Below w.heap.size w w' := by
 have hu24 := Try.underlying24
 have HR0_0 := am hr0_0
 have HC0_0 := am hc0_0
 clear hr0_0 hc0_0
 have HB := am (Below.refl w.heap.size w)
 have H : (if 0 ≤ (l0_0.length : Int) then (if ((l0_0.length : Int) : Int).toNat ≤ 35184372088832 then (if ((l0_0.length : Int) : Int).toNat ≤ 281474976710656 then ((some (List.replicate ((l0_0.length : Int) : Int).toNat false : List Bool)).bind fun y324 => (if 0 < (y324.length : Int) then (net_lengths.l0 k (List.replicate ((l0_0.length : Int) : Int).toNat 0) (y324.set (0 : Int).toNat true) (([0] : List Int)) 0 l0_0) else (none))) else (none)) else (none)) else (none)) = some r := h
 clear h
 by_cases c2 : 0 ≤ (l0_0.length : Int)
 rotate_left
 ·rw [if_neg c2] at H
  exact absurd H (by simp)
 rw [if_pos c2] at H
 have c2b0 := eq_true c2
 have c2b1 : decide (0 ≤ (l0_0.length : Int)) = true := decide_eq_true c2
 clear c2
 by_cases c3 : ((l0_0.length : Int) : Int).toNat ≤ 35184372088832
 rotate_left
 ·rw [if_neg c3] at H
  exact absurd H (by simp)
 rw [if_pos c3] at H
 have c3b0 := eq_true c3
 have c3b1 : decide (((l0_0.length : Int) : Int).toNat ≤ 35184372088832) = true := decide_eq_true c3
 clear c3
 obtain ⟨y321, hy321⟩ : ∃ y_ : List Int, y_ = (List.replicate ((l0_0.length : Int) : Int).toNat 0) := ⟨_, rfl⟩
 replace H : (if ((l0_0.length : Int) : Int).toNat ≤ 281474976710656 then ((some (List.replicate ((l0_0.length : Int) : Int).toNat false : List Bool)).bind fun y324 => (if 0 < (y324.length : Int) then (net_lengths.l0 k y321 (y324.set (0 : Int).toNat true) (([0] : List Int)) 0 l0_0) else (none))) else (none)) = some r := by first | (rw [hy321]; with_reducible exact H) | (have H2_ := (Option.bind_some _ _).symm.trans H; rw [hy321]; with_reducible exact H2_) | (have H2_ := (Option.bind_some _ _).symm.trans H; with_reducible exact H2_) | with_reducible exact H | (rw [hy321]; exact H) | exact H
 have Ny321 := am hy321
 clear hy321
 by_cases c4 : ((l0_0.length : Int) : Int).toNat ≤ 281474976710656
 rotate_left
 ·rw [if_neg c4] at H
  exact absurd H (by simp)
 rw [if_pos c4] at H
 have c4b0 := eq_true c4
 have c4b1 : decide (((l0_0.length : Int) : Int).toNat ≤ 281474976710656) = true := decide_eq_true c4
 clear c4
 obtain ⟨y324, hy324⟩ : ∃ y_ : List Bool, y_ = (List.replicate ((l0_0.length : Int) : Int).toNat false) := ⟨_, rfl⟩
 replace H : (if 0 < (y324.length : Int) then (net_lengths.l0 k y321 (y324.set (0 : Int).toNat true) (([0] : List Int)) 0 l0_0) else (none)) = some r := by first | (rw [hy324]; with_reducible exact H) | (have H2_ := (Option.bind_some _ _).symm.trans H; rw [hy324]; with_reducible exact H2_) | (have H2_ := (Option.bind_some _ _).symm.trans H; with_reducible exact H2_) | with_reducible exact H | (rw [hy324]; exact H) | exact H
 have Ny324 := am hy324
 clear hy324
 by_cases c5 : 0 < (y324.length : Int)
 rotate_left
 ·rw [if_neg c5] at H
  exact absurd H (by simp)
 rw [if_pos c5] at H
 have c5b0 : decide (0 < (y324.length : Int)) = true := decide_eq_true c5
 have c5b1 : decide (0 < y324.length) = true := decide_eq_true (by omega)
 clear c5
 obtain ⟨y327, hy327⟩ : ∃ y_ : List Bool, y_ = (y324.set (0 : Int).toNat true) := ⟨_, rfl⟩
 replace H : (net_lengths.l0 k y321 y327 (([0] : List Int)) 0 l0_0) = some r := by first | (rw [hy327]; with_reducible exact H) | (have H2_ := (Option.bind_some _ _).symm.trans H; rw [hy327]; with_reducible exact H2_) | (have H2_ := (Option.bind_some _ _).symm.trans H; with_reducible exact H2_) | with_reducible exact H | (rw [hy327]; exact H) | exact H
 have Ny327 := am hy327
 clear hy327
 obtain ⟨y328, hy328⟩ : ∃ y_ : List Int, y_ = (([0] : List Int)) := ⟨_, rfl⟩
 replace H : (net_lengths.l0 k y321 y327 y328 0 l0_0) = some r := by first | (rw [hy328]; with_reducible exact H) | (have H2_ := (Option.bind_some _ _).symm.trans H; rw [hy328]; with_reducible exact H2_) | (have H2_ := (Option.bind_some _ _).symm.trans H; with_reducible exact H2_) | with_reducible exact H | (rw [hy328]; exact H) | exact H
 have Ny328 := am hy328
 clear hy328
 have H' := am H
 clear H
 go_enter Try.func71, Try.ntmps71
 go_wp2_with (first | ((with_reducible refine gate_dst (N := 1) rfl ?_); refine box_event zz5 (N := 1) zz5 (cs := #[.slice A0_0 l0_0.length c0_0]) (t := 24) zz6 ?_; intro gb320 hg w7 hbox hb; have BK320 := am (hbox); have GW320 := am ((by rw [hg]; exact (below_size (bw HB.out)) : w.heap.size ≤ gb320)); have GE320 := am ((by rw [hg]; exact (below_size (bw HB.out)) : w.heap.size ≤ gb320)); replace HB := am (below_step (bw HB.out) hb); clear hb hbox hg; have hcz8_0 : w7.cell? ⟨gb320, 0, none⟩ = some (.slice A0_0 l0_0.length c0_0) := (blk_cell BK320.out 0).trans rfl; have hfz8_0 := blk_frozen BK320.out 0) | ((with_reducible refine gate_dst (N := 12) rfl ?_); refine Kd.R_make (Kd.int .i64) _ 3 rfl (N := 12) rfl 28 _ _ rfl (l0_0.length : Int) rfl rfl Try.underlying28 (.int .i64 0) 8 info3 rfl (by decide) (by omega) 0 (ok := fun _ => True) (okp := fun _ => True) rfl (fun _ hk => hk) trivial (od zz2) (Nat.le_trans (Nat.mul_le_mul_right _ (od zz2 : (l0_0.length : Int).toNat ≤ 35184372088832)) (by omega)) (Below.refl _ _) (Nat.le_refl _) ?_; intro v322 w9 ho10 hb hg_ hnew_; clear hg_ hnew_; (first | rw [← Ny321.out] at ho10 | (simp only [Int.reduceToNat] at ho10; rw [← Ny321.out] at ho10)); have HO323 := am (Kd.R_lower ho10 (below_size (bs HB.out))); replace BK320 := am (blk_below (g := gb320) (o := .cells #[.slice A0_0 l0_0.length c0_0] 24 (0, 0)) (kb BK320.out) hb); replace HB := am (below_step (bs HB.out) hb); clear hb ho10; have hcz11_0 : w9.cell? ⟨gb320, 0, none⟩ = some (.slice A0_0 l0_0.length c0_0) := (blk_cell BK320.out 0).trans rfl; have hfz11_0 := blk_frozen BK320.out 0) | ((with_reducible refine gate_dst (N := 16) rfl ?_); refine Kd.R_make Kd.bool _ 4 rfl (N := 16) rfl 47 _ _ rfl (l0_0.length : Int) rfl rfl Try.underlying47 (.bool false) 1 info4 rfl (by decide) (by omega) false (ok := fun _ => True) (okp := fun _ => True) rfl (fun _ hk => hk) trivial (od zz2) (Nat.le_trans (Nat.mul_le_mul_right _ (od zz2 : (l0_0.length : Int).toNat ≤ 281474976710656)) (by omega)) (Below.refl _ _) (Nat.le_refl _) ?_; intro v325 w12 ho13 hb hg_ hnew_; clear hg_ hnew_; (first | rw [← Ny324.out] at ho13 | (simp only [Int.reduceToNat] at ho13; rw [← Ny324.out] at ho13)); replace HO323 := am (Kd.R_below (kR HO323.out) hb); have HO326 := am (Kd.R_lower ho13 (below_size (bs HB.out))); replace BK320 := am (blk_below (g := gb320) (o := .cells #[.slice A0_0 l0_0.length c0_0] 24 (0, 0)) (kb BK320.out) hb); replace HB := am (below_step (bs HB.out) hb); clear hb ho13; have p6 : 0 ≤ (0 : Int) := (by omega); have q6 : (0 : Int) < ((y324.length : Int) : Int) := od zz2; have qi6 : (0 < y324.length) = True := eq_true (by omega); obtain ⟨go6, co6, eo6, gb6, gl6, cl6, HG6⟩ := Kd.R_form HO326.out (by omega); (first | cases eo6 | (injection eo6 with ea_ en_ ec_; (first | subst ea_ | (injection ea_ with ea_; subst ea_)); subst ec_; clear en_)); have GB6 := am gb6; have GG6 := am HG6; clear gb6 gl6 HG6; obtain ⟨hx6_0, hf6_0⟩ := Kd.R_celln false HO326.out (0 : Int) p6 q6; (try rw [show ((0 : Int)).toNat = 0 from rfl] at hx6_0); (try simp only [Nat.reduceMul, Nat.zero_mul, Nat.zero_add, Nat.reduceAdd] at hx6_0); (try rw [show ((0 : Int)).toNat = 0 from rfl] at hf6_0); (try simp only [Nat.reduceMul, Nat.zero_mul, Nat.zero_add, Nat.reduceAdd] at hf6_0); replace p6 := eq_true p6; replace q6 := eq_true q6; obtain ⟨hy14_, hz14_⟩ := Kd.R_celln false HO326.out (0 : Int) (by omega) (od zz2); (try simp only [Int.reduceToNat, Int.toNat_zero, Int.toNat_ofNat, Nat.reduceMul, Nat.zero_mul, Nat.zero_add] at hy14_ hz14_); (try rw [show ((0 : Int)).toNat = 0 from rfl] at hy14_); (try rw [show ((0 : Int)).toNat = 0 from rfl] at hz14_); have HP14 := Kd.R_putg HO326.out (0 : Int) true) | ((with_reducible refine gate_store (t := 4) (p := 18) rfl ?_); (try (rw [drewN_self w12]; generalize hq_ : World.drewN w12 _ = w12; have n0_ := am (Kd.R_at hq_ HO323.out); have n1_ := am (Kd.R_at hq_ HO326.out); have n2_ := am (blk_at hq_ BK320.out); have n3_ := am (below_at hq_ HB.out); clear hq_ HO323 HO326 BK320 HB; have HO323 := n0_; have HO326 := n1_; have BK320 := n2_; have HB := n3_; clear n0_ n1_ n2_ n3_; (try (obtain ⟨hy14_, hz14_⟩ := Kd.R_celln false HO326.out (0 : Int) (by omega) (od zz2))); (try (try simp only [Int.reduceToNat, Int.toNat_zero, Int.toNat_ofNat, Nat.reduceMul, Nat.zero_mul, Nat.zero_add] at hy14_ hz14_)); (try (try rw [show ((0 : Int)).toNat = 0 from rfl] at hy14_)); (try (try rw [show ((0 : Int)).toNat = 0 from rfl] at hz14_)); (try (have HP14 := Kd.R_putg HO326.out (0 : Int) true)))); refine store_event (t := 4) (p := 18) (v := ?vo_w15) (w1 := (w12.setCell ⟨go6, (0 : Int).toNat, none⟩ (.bool true))) zz5 zz5 zz5 zz6 ?_; intro w15 hw; have hg : w12.grownBy w15 (some go6) := (by rw [hw]; exact HP14.2); have hp_ : Kd.R Kd.bool 4 w15 w.heap.size (fun _ => True) (.slice (some ⟨go6, 0, none⟩) y324.length co6) y327 := (by rw [hw, Ny327.out]; exact HP14.1); clear HP14; replace BK320 := am (blk_grown (g := gb320) (o := .cells #[.slice A0_0 l0_0.length c0_0] 24 (0, 0)) (kb BK320.out) hg (Kd.R_ne HO326.out BK320.out (by decide))); replace HO323 := am (Kd.R_over' (v := (.slice (some ⟨go6, 0, none⟩) y324.length co6)) (kR HO323.out) (Kd.R_typed HO326.out) (by decide) hg); replace HO326 := am (hp_); replace HB := am ((by rw [hw]; exact below_set (HB.out) GB6.out : Below w.heap.size w w15)); clear hg hw hp_) | ((with_reducible refine gate_dst (N := 19) rfl ?_); refine Kd.R_lit (Kd.int .i64) _ 3 zz5 (N := 19) zz5 (xs := ([0] : List Int)) (inner := [.int .i64 0]) (ok := fun _ => True) (okp := fun _ => True) zz6 ?hp (fun _ hk => hk) trivial (Below.refl _ _) (Nat.le_refl _) (by simp) ?_; (case hp => exact (Reps.one (show Kd.M (Kd.int .i64) _ _ _ 0 [.int .i64 0] from rfl) (Reps.none _ _))); intro v329 w16 ho17 hb hg_ hnew_; clear hg_ hnew_; (first | rw [← Ny328.out] at ho17 | (simp only [Int.reduceToNat] at ho17; rw [← Ny328.out] at ho17)); replace HO326 := am (Kd.R_below (kR HO326.out) hb); have HO330 := am (Kd.R_lower (Kd.R_new' ho17 (Kd.R_lt (kR HO323.out))) (below_size (bs HB.out))); replace HO323 := am (Kd.R_elder' (kR HO323.out) (Kd.R_base ho17) hb); replace BK320 := am (blk_below (g := gb320) (o := .cells #[.slice A0_0 l0_0.length c0_0] 24 (0, 0)) (kb BK320.out) hb); replace HB := am (below_step (bs HB.out) hb); clear hb ho17))
 go_loopg [5, 6] k (fun kq v5 v6 w' => ∃ (x3_1 : List Int) (x4_1 : List Bool) (x5_1 : List Int) (x6_1 : Int), v6 = .int .i64 x6_1 ∧ Aside0 (net_lengths.l0 kq x3_1 x4_1 x5_1 x6_1 l0_0 = some r) ∧ Aside0 (kq ≤ k) ∧ Aside0 (Kd.R (Kd.int .i64) 3 w' w.heap.size (fun k_ => some k_ ≠ (v5 : Value).ownBlock) v322 x3_1) ∧ Aside0 (Kd.R Kd.bool 4 w' w.heap.size (fun _ => True) (.slice (some ⟨go6, 0, none⟩) y324.length co6) x4_1) ∧ Aside0 (Kd.R (Kd.int .i64) 3 w' w.heap.size (fun k_ => some k_ ≠ (v322 : Value).ownBlock) v5 x5_1) ∧ Aside0 (w'.heap[gb320]? = some (.cells #[(.slice A0_0 l0_0.length c0_0)] 24 (0, 0))) ∧ Aside0 (Below w.heap.size w w'))
 case atStart => exact ⟨(y321), (y327), (y328), (0), zz3, H', ⟨Nat.le_refl _⟩, ⟨kR (Kd.R_mono HO323.out (fun _ hk => hk.2))⟩, ⟨kR HO326.out⟩, ⟨kR (Kd.R_mono HO330.out (fun _ hk => hk.2))⟩, ⟨kb BK320.out⟩, ⟨bs HB.out⟩⟩
 case round =>
  clear H'
  (try clear c2); (try clear c2b0); (try clear c2b1); (try clear p2); (try clear c3); (try clear c3b0); (try clear c3b1); (try clear c4); (try clear c4b0); (try clear c4b1); (try clear c5); (try clear c5b0); (try clear c5b1); (try clear p6); (try clear q6); (try clear hx6); (try clear qi6); (try clear hf6); (try clear c7); (try clear hcz11_0); (try clear hcz8_0); (try clear hfz11_0); (try clear hfz8_0); (try clear hx6_0); (try clear p6); (try clear q6)
  obtain ⟨x3_1, x4_1, x5_1, x6_1, rfl, HA, HK1, HO_3, HO_4, HO_5, BK320, HB⟩ := hrel
  have hl4_1 := (Kd.R_reads' HO_4.out).1
  rw [hl4_1] at HO_4
  (try simp only [hl4_1])
  (try simp only [hl4_1] at BK320)
  (try simp only [hl4_1] at HO_3)
  (try simp only [hl4_1] at HO_5)
  cases gk with
  | zero => exact absurd HA.out (by simp [net_lengths.l0])
  | succ k1 =>
   have H := HA.out
   clear HA
   simp only [net_lengths.l0] at H
   by_cases c18 : x6_1 < (x5_1.length : Int)
   rotate_left
   ·rw [if_neg c18] at H
    have c18b0 : decide (x6_1 < (x5_1.length : Int)) = false := decide_eq_false c18
    clear c18
    obtain rfl := Option.some.inj H
    obtain ⟨Ao46, co46, eo46⟩ := Kd.R_slice HO_5.out
    subst eo46
    go_wp2
    repeat (go_quiet (fail); try go_wp2)
    go_ret
    exact ⟨_, by first | rfl | (simp [errW_none, errW_some] <;> rfl) | (simp [*, errW_none, errW_some] <;> rfl), kR (Kd.R_mono HO_3.out (fun _ hk => trivial)), bs HB.out⟩
   rw [if_pos c18] at H
   have c18b0 : decide (x6_1 < (x5_1.length : Int)) = true := decide_eq_true c18
   clear c18
   by_cases c19 : 0 ≤ x6_1
   rotate_left
   ·rw [if_neg c19] at H
    exact absurd H (by simp)
   rw [if_pos c19] at H
   have c19b0 : decide (0 ≤ x6_1) = true := decide_eq_true c19
   clear c19
   by_cases c20 : 0 ≤ (rd x5_1 x6_1)
   rotate_left
   ·rw [if_neg c20] at H
    exact absurd H (by simp)
   rw [if_pos c20] at H
   have c20b0 : decide (0 ≤ (rd x5_1 x6_1)) = true := decide_eq_true c20
   clear c20
   by_cases c21 : (rd x5_1 x6_1) < (l0_0.length : Int)
   rotate_left
   ·rw [if_neg c21] at H
    exact absurd H (by simp)
   rw [if_pos c21] at H
   have c21b0 : decide ((rd x5_1 x6_1) < (l0_0.length : Int)) = true := decide_eq_true c21
   clear c21
   have H' := am H
   clear H
   obtain ⟨Ao22, co22, eo22⟩ := Kd.R_slice HO_5.out
   subst eo22
   have hcz23_0 : wr.cell? ⟨gb320, 0, none⟩ = some (.slice A0_0 l0_0.length c0_0) := (blk_cell BK320.out 0).trans rfl
   have hfz23_0 := blk_frozen BK320.out 0
   have p331 : 0 ≤ (x6_1 : Int) := od zz2
   have q331 : x6_1 < (x5_1.length : Int) := od zz2
   obtain ⟨ad331, e331, hx331_0⟩ := Kd.at_int (Kd.R_reads' HO_5.out).2.2 x6_1 p331 q331
   cases e331
   replace p331 := eq_true p331
   replace q331 := eq_true q331
   have p332 : 0 ≤ ((rd x5_1 x6_1) : Int) := od zz2
   have q332 : (rd x5_1 x6_1) < (l0_0.length : Int) := od zz2
   obtain ⟨ad332, A332_0, c332_0, e332, hx332_0, hl332_0, hi332_0⟩ := at_L1 HR0_0.out (rd x5_1 x6_1) p332 q332
   cases e332
   replace hx332_0 := (HB.out.cell (World.block_lt_of_cell? w _ hx332_0)).trans hx332_0
   have HR332_0 := am hi332_0
   have HC332_0 := am hl332_0
   clear hi332_0 hl332_0
   replace p332 := eq_true p332
   replace q332 := eq_true q332
   go_wp2
   repeat (go_quiet (fail); try go_wp2)
   go_loopg [5, 35] k1 (fun kq v5 v35 w' => ∃ (x3_2 : List Int) (x4_2 : List Bool) (x5_2 : List Int) (x35_2 : Int), v35 = .int .i64 x35_2 ∧ Aside0 (net_lengths.l1 kq x3_2 x4_2 x5_2 x6_1 (rd_L1 l0_0 (rd x5_1 x6_1)) ((rd_L1 l0_0 (rd x5_1 x6_1)).length : Int) x35_2 l0_0 = some r) ∧ Aside0 (kq ≤ k1) ∧ Aside0 (Kd.R (Kd.int .i64) 3 w' w.heap.size (fun k_ => some k_ ≠ (v5 : Value).ownBlock) v322 x3_2) ∧ Aside0 (Kd.R Kd.bool 4 w' w.heap.size (fun _ => True) (.slice (some ⟨go6, 0, none⟩) x4_1.length co6) x4_2) ∧ Aside0 (Kd.R (Kd.int .i64) 3 w' w.heap.size (fun k_ => some k_ ≠ (v322 : Value).ownBlock) v5 x5_2) ∧ Aside0 (w'.heap[gb320]? = some (.cells #[(.slice (some ad332) l0_0.length c0_0)] 24 (0, 0))) ∧ Aside0 (Below w.heap.size w w'))
   case atStart => exact ⟨(x3_1), (x4_1), (x5_1), (0), zz3, H', ⟨Nat.le_refl _⟩, ⟨by (try simp only [hl4_1]); (with_reducible repeat (first | apply Kd.R_alloc | apply Kd.R_drewN | apply Kd.R_drew)); exact HO_3.out⟩, ⟨by (try simp only [hl4_1]); (with_reducible repeat (first | apply Kd.R_alloc | apply Kd.R_drewN | apply Kd.R_drew)); exact HO_4.out⟩, ⟨by (try simp only [hl4_1]); (with_reducible repeat (first | apply Kd.R_alloc | apply Kd.R_drewN | apply Kd.R_drew)); exact HO_5.out⟩, ⟨by (try simp only [hl4_1]); (with_reducible repeat (first | refine blk_drewN ?_ _ | refine blk_drew ?_ | refine blk_alloc ?_ _)); exact BK320.out⟩, ⟨bs HB.out⟩⟩
   case round =>
    clear H'
    (try clear c1); (try clear c2); (try clear c2b0); (try clear c2b1); (try clear p2); (try clear c3); (try clear c3b0); (try clear c3b1); (try clear p3); (try clear q3); (try clear hx3); (try clear c4); (try clear c4b0); (try clear c4b1); (try clear c5); (try clear c5b0); (try clear c5b1); (try clear p6); (try clear q6); (try clear hx6); (try clear qi6); (try clear hf6); (try clear c7); (try clear c18); (try clear c18b0); (try clear c19); (try clear c19b0); (try clear c20); (try clear c20b0); (try clear c21); (try clear c21b0); (try clear hcz11_0); (try clear hcz23_0); (try clear hcz8_0); (try clear hfz11_0); (try clear hfz23_0); (try clear hfz8_0); (try clear hx331_0); (try clear hx332_0); (try clear hx6_0); (try clear p2); (try clear p331); (try clear p332); (try clear p6); (try clear q331); (try clear q332); (try clear q6)
    obtain ⟨x3_2, x4_2, x5_2, x35_2, rfl, HA, HK2, HO_3, HO_4, HO_5, BK320, HB⟩ := hrel
    have hl4_2 := (Kd.R_reads' HO_4.out).1
    rw [hl4_2] at HO_4
    (try simp only [hl4_2])
    (try simp only [hl4_2] at BK320)
    (try simp only [hl4_2] at HO_3)
    (try simp only [hl4_2] at HO_5)
    cases gk with
    | zero => exact absurd HA.out (by simp [net_lengths.l1])
    | succ k2 =>
     have H := HA.out
     clear HA
     simp only [net_lengths.l1] at H
     by_cases c24 : x35_2 < ((rd_L1 l0_0 (rd x5_1 x6_1)).length : Int)
     rotate_left
     ·rw [if_neg c24] at H
      have c24b0 : decide (x35_2 < ((rd_L1 l0_0 (rd x5_1 x6_1)).length : Int)) = false := decide_eq_false c24
      clear c24
      have H' := am H
      clear H
      go_wp2
      repeat (go_quiet (fail); try go_wp2)
      (try simp only [← hl4_1, ← hl4_2])
      go_roundg k2
      case measure => have := HK1.out; have := HK2.out; omega
      case rel => exact ⟨(x3_2), (x4_2), (x5_2), (wrap64 (x6_1 + 1)), zz3, H', ⟨by have := HK1.out; have := HK2.out; omega⟩, ⟨by (try simp only [hl4_1]); (try simp only [hl4_2]); (with_reducible repeat (first | apply Kd.R_alloc | apply Kd.R_drewN | apply Kd.R_drew)); exact HO_3.out⟩, ⟨by (try simp only [hl4_1]); (try simp only [hl4_2]); (with_reducible repeat (first | apply Kd.R_alloc | apply Kd.R_drewN | apply Kd.R_drew)); exact HO_4.out⟩, ⟨by (try simp only [hl4_1]); (try simp only [hl4_2]); (with_reducible repeat (first | apply Kd.R_alloc | apply Kd.R_drewN | apply Kd.R_drew)); exact HO_5.out⟩, ⟨by (try simp only [hl4_1]); (try simp only [hl4_2]); (with_reducible repeat (first | refine blk_drewN ?_ _ | refine blk_drew ?_ | refine blk_alloc ?_ _)); exact BK320.out⟩, ⟨bs HB.out⟩⟩
     rw [if_pos c24] at H
     have c24b0 : decide (x35_2 < ((rd_L1 l0_0 (rd x5_1 x6_1)).length : Int)) = true := decide_eq_true c24
     clear c24
     by_cases c25 : 0 ≤ x35_2
     rotate_left
     ·rw [if_neg c25] at H
      exact absurd H (by simp)
     rw [if_pos c25] at H
     have c25b0 : decide (0 ≤ x35_2) = true := decide_eq_true c25
     clear c25
     by_cases c26 : x35_2 < ((rd_L1 l0_0 (rd x5_1 x6_1)).length : Int)
     rotate_left
     ·rw [if_neg c26] at H
      exact absurd H (by simp)
     rw [if_pos c26] at H
     have c26b0 : decide (x35_2 < ((rd_L1 l0_0 (rd x5_1 x6_1)).length : Int)) = true := decide_eq_true c26
     clear c26
     by_cases c27 : 0 ≤ (rd (rd_L1 l0_0 (rd x5_1 x6_1)) x35_2)
     rotate_left
     ·rw [if_neg c27] at H
      exact absurd H (by simp)
     rw [if_pos c27] at H
     have c27b0 : decide (0 ≤ (rd (rd_L1 l0_0 (rd x5_1 x6_1)) x35_2)) = true := decide_eq_true c27
     clear c27
     by_cases c28 : (rd (rd_L1 l0_0 (rd x5_1 x6_1)) x35_2) < (x4_2.length : Int)
     rotate_left
     ·rw [if_neg c28] at H
      exact absurd H (by simp)
     rw [if_pos c28] at H
     have c28b0 : decide ((rd (rd_L1 l0_0 (rd x5_1 x6_1)) x35_2) < (x4_2.length : Int)) = true := decide_eq_true c28
     clear c28
     obtain ⟨bq29, hbq29⟩ : ∃ b_ : Bool, b_ = (rdOf false x4_2 (rd (rd_L1 l0_0 (rd x5_1 x6_1)) x35_2)) := ⟨_, rfl⟩
     replace H : (if (bq29 = true) then (net_lengths.l1 k2 x3_2 x4_2 x5_2 x6_1 (rd_L1 l0_0 (rd x5_1 x6_1)) ((rd_L1 l0_0 (rd x5_1 x6_1)).length : Int) (wrap64 (x35_2 + 1)) l0_0) else (if 0 ≤ x6_1 then (if x6_1 < (x5_2.length : Int) then (if 0 ≤ (rd x5_2 x6_1) then (if (rd x5_2 x6_1) < (x3_2.length : Int) then (if (rd (rd_L1 l0_0 (rd x5_1 x6_1)) x35_2) < (x3_2.length : Int) then (if x5_2.length < 17592186044416 then (net_lengths.l1 k2 (x3_2.set ((rd (rd_L1 l0_0 (rd x5_1 x6_1)) x35_2) : Int).toNat (wrap64 ((rd x3_2 (rd x5_2 x6_1)) + 1))) (x4_2.set ((rd (rd_L1 l0_0 (rd x5_1 x6_1)) x35_2) : Int).toNat true) (x5_2 ++ [rd (rd_L1 l0_0 (rd x5_1 x6_1)) x35_2]) x6_1 (rd_L1 l0_0 (rd x5_1 x6_1)) ((rd_L1 l0_0 (rd x5_1 x6_1)).length : Int) (wrap64 (x35_2 + 1)) l0_0) else (none)) else (none)) else (none)) else (none)) else (none)) else (none))) = some r := by rw [← hbq29] at H; exact H
     have Nbq29 := am hbq29
     clear hbq29
     by_cases c30 : (bq29 = true)
     ·subst c30
      have H1 : (net_lengths.l1 k2 x3_2 x4_2 x5_2 x6_1 (rd_L1 l0_0 (rd x5_1 x6_1)) ((rd_L1 l0_0 (rd x5_1 x6_1)).length : Int) (wrap64 (x35_2 + 1)) l0_0) = some r := by rw [if_pos rfl] at H; exact H
      clear H
      have H := H1
      clear H1
      have H' := am H
      clear H
      have p333 : 0 ≤ (x35_2 : Int) := od zz2
      have q333 : x35_2 < ((rd_L1 l0_0 (rd x5_1 x6_1)).length : Int) := od zz2
      obtain ⟨ad333, e333, hx333_0⟩ := Kd.at_int HR332_0.out x35_2 p333 q333
      cases e333
      replace hx333_0 := (HB.out.cell (World.block_lt_of_cell? w _ hx333_0)).trans hx333_0
      replace p333 := eq_true p333
      replace q333 := eq_true q333
      have p334 : 0 ≤ ((rd (rd_L1 l0_0 (rd x5_1 x6_1)) x35_2) : Int) := od zz2
      have q334 : (rd (rd_L1 l0_0 (rd x5_1 x6_1)) x35_2) < (x4_2.length : Int) := od zz2
      obtain ⟨ad334, e334, hx334_0⟩ := Kd.at_bool (Kd.R_reads' HO_4.out).2.2 (rd (rd_L1 l0_0 (rd x5_1 x6_1)) x35_2) p334 q334
      (try rw [← Nbq29.out] at hx334_0)
      obtain rfl : (⟨go6, 0, none⟩ : Addr) = ad334 := (by injection e334)
      (first | simp only [add_plain] at hx334_0 | simp only [add_at] at hx334_0 | simp only [Addr.add, Nat.zero_add] at hx334_0 | skip)
      replace p334 := eq_true p334
      replace q334 := eq_true q334
      go_wp2
      repeat (go_quiet (fail); try go_wp2)
      (try simp only [← hl4_2])
      go_roundg k2
      case measure => have := HK1.out; have := HK2.out; omega
      case rel => exact ⟨(x3_2), (x4_2), (x5_2), (wrap64 (x35_2 + 1)), zz3, H', ⟨by have := HK1.out; have := HK2.out; omega⟩, ⟨by (try simp only [hl4_1]); (try simp only [hl4_2]); (with_reducible repeat (first | apply Kd.R_alloc | apply Kd.R_drewN | apply Kd.R_drew)); exact HO_3.out⟩, ⟨by (try simp only [hl4_1]); (try simp only [hl4_2]); (with_reducible repeat (first | apply Kd.R_alloc | apply Kd.R_drewN | apply Kd.R_drew)); exact HO_4.out⟩, ⟨by (try simp only [hl4_1]); (try simp only [hl4_2]); (with_reducible repeat (first | apply Kd.R_alloc | apply Kd.R_drewN | apply Kd.R_drew)); exact HO_5.out⟩, ⟨by (try simp only [hl4_1]); (try simp only [hl4_2]); (with_reducible repeat (first | refine blk_drewN ?_ _ | refine blk_drew ?_ | refine blk_alloc ?_ _)); exact BK320.out⟩, ⟨bs HB.out⟩⟩
     replace c30 := Bool.eq_false_iff.mpr c30
     subst c30
     have H1 : (if 0 ≤ x6_1 then (if x6_1 < (x5_2.length : Int) then (if 0 ≤ (rd x5_2 x6_1) then (if (rd x5_2 x6_1) < (x3_2.length : Int) then (if (rd (rd_L1 l0_0 (rd x5_1 x6_1)) x35_2) < (x3_2.length : Int) then (if x5_2.length < 17592186044416 then (net_lengths.l1 k2 (x3_2.set ((rd (rd_L1 l0_0 (rd x5_1 x6_1)) x35_2) : Int).toNat (wrap64 ((rd x3_2 (rd x5_2 x6_1)) + 1))) (x4_2.set ((rd (rd_L1 l0_0 (rd x5_1 x6_1)) x35_2) : Int).toNat true) (x5_2 ++ [rd (rd_L1 l0_0 (rd x5_1 x6_1)) x35_2]) x6_1 (rd_L1 l0_0 (rd x5_1 x6_1)) ((rd_L1 l0_0 (rd x5_1 x6_1)).length : Int) (wrap64 (x35_2 + 1)) l0_0) else (none)) else (none)) else (none)) else (none)) else (none)) else (none)) = some r := by rw [if_neg (show ¬ (false = true) by decide)] at H; exact H
     clear H
     have H := H1
     clear H1
     obtain ⟨y335, hy335⟩ : ∃ y_ : List Bool, y_ = (x4_2.set ((rd (rd_L1 l0_0 (rd x5_1 x6_1)) x35_2) : Int).toNat true) := ⟨_, rfl⟩
     replace H : (if 0 ≤ x6_1 then (if x6_1 < (x5_2.length : Int) then (if 0 ≤ (rd x5_2 x6_1) then (if (rd x5_2 x6_1) < (x3_2.length : Int) then (if (rd (rd_L1 l0_0 (rd x5_1 x6_1)) x35_2) < (x3_2.length : Int) then (if x5_2.length < 17592186044416 then (net_lengths.l1 k2 (x3_2.set ((rd (rd_L1 l0_0 (rd x5_1 x6_1)) x35_2) : Int).toNat (wrap64 ((rd x3_2 (rd x5_2 x6_1)) + 1))) y335 (x5_2 ++ [rd (rd_L1 l0_0 (rd x5_1 x6_1)) x35_2]) x6_1 (rd_L1 l0_0 (rd x5_1 x6_1)) ((rd_L1 l0_0 (rd x5_1 x6_1)).length : Int) (wrap64 (x35_2 + 1)) l0_0) else (none)) else (none)) else (none)) else (none)) else (none)) else (none)) = some r := by first | (rw [hy335]; with_reducible exact H) | (have H2_ := (Option.bind_some _ _).symm.trans H; rw [hy335]; with_reducible exact H2_) | (have H2_ := (Option.bind_some _ _).symm.trans H; with_reducible exact H2_) | with_reducible exact H | (rw [hy335]; exact H) | exact H
     have Ny335 := am hy335
     clear hy335
     by_cases c32 : 0 ≤ x6_1
     rotate_left
     ·rw [if_neg c32] at H
      exact absurd H (by simp)
     rw [if_pos c32] at H
     have c32b0 : decide (0 ≤ x6_1) = true := decide_eq_true c32
     clear c32
     by_cases c33 : x6_1 < (x5_2.length : Int)
     rotate_left
     ·rw [if_neg c33] at H
      exact absurd H (by simp)
     rw [if_pos c33] at H
     have c33b0 : decide (x6_1 < (x5_2.length : Int)) = true := decide_eq_true c33
     clear c33
     by_cases c34 : 0 ≤ (rd x5_2 x6_1)
     rotate_left
     ·rw [if_neg c34] at H
      exact absurd H (by simp)
     rw [if_pos c34] at H
     have c34b0 : decide (0 ≤ (rd x5_2 x6_1)) = true := decide_eq_true c34
     clear c34
     by_cases c35 : (rd x5_2 x6_1) < (x3_2.length : Int)
     rotate_left
     ·rw [if_neg c35] at H
      exact absurd H (by simp)
     rw [if_pos c35] at H
     have c35b0 : decide ((rd x5_2 x6_1) < (x3_2.length : Int)) = true := decide_eq_true c35
     clear c35
     by_cases c36 : (rd (rd_L1 l0_0 (rd x5_1 x6_1)) x35_2) < (x3_2.length : Int)
     rotate_left
     ·rw [if_neg c36] at H
      exact absurd H (by simp)
     rw [if_pos c36] at H
     have c36b0 : decide ((rd (rd_L1 l0_0 (rd x5_1 x6_1)) x35_2) < (x3_2.length : Int)) = true := decide_eq_true c36
     clear c36
     obtain ⟨y338, hy338⟩ : ∃ y_ : List Int, y_ = (x3_2.set ((rd (rd_L1 l0_0 (rd x5_1 x6_1)) x35_2) : Int).toNat (wrap64 ((rd x3_2 (rd x5_2 x6_1)) + 1))) := ⟨_, rfl⟩
     replace H : (if x5_2.length < 17592186044416 then (net_lengths.l1 k2 y338 y335 (x5_2 ++ [rd (rd_L1 l0_0 (rd x5_1 x6_1)) x35_2]) x6_1 (rd_L1 l0_0 (rd x5_1 x6_1)) ((rd_L1 l0_0 (rd x5_1 x6_1)).length : Int) (wrap64 (x35_2 + 1)) l0_0) else (none)) = some r := by first | (rw [hy338]; with_reducible exact H) | (have H2_ := (Option.bind_some _ _).symm.trans H; rw [hy338]; with_reducible exact H2_) | (have H2_ := (Option.bind_some _ _).symm.trans H; with_reducible exact H2_) | with_reducible exact H | (rw [hy338]; exact H) | exact H
     have Ny338 := am hy338
     clear hy338
     by_cases c38 : x5_2.length < 17592186044416
     rotate_left
     ·rw [if_neg c38] at H
      exact absurd H (by simp)
     rw [if_pos c38] at H
     have LMc38 := am c38
     clear c38
     obtain ⟨y339, hy339⟩ : ∃ y_ : List Int, y_ = (x5_2 ++ [rd (rd_L1 l0_0 (rd x5_1 x6_1)) x35_2]) := ⟨_, rfl⟩
     replace H : (net_lengths.l1 k2 y338 y335 y339 x6_1 (rd_L1 l0_0 (rd x5_1 x6_1)) ((rd_L1 l0_0 (rd x5_1 x6_1)).length : Int) (wrap64 (x35_2 + 1)) l0_0) = some r := by first | (rw [hy339]; with_reducible exact H) | (have H2_ := (Option.bind_some _ _).symm.trans H; rw [hy339]; with_reducible exact H2_) | (have H2_ := (Option.bind_some _ _).symm.trans H; with_reducible exact H2_) | with_reducible exact H | (rw [hy339]; exact H) | exact H
     have Ny339 := am hy339
     clear hy339
     have H' := am H
     clear H
     have p333 : 0 ≤ (x35_2 : Int) := od zz2
     have q333 : x35_2 < ((rd_L1 l0_0 (rd x5_1 x6_1)).length : Int) := od zz2
     obtain ⟨ad333, e333, hx333_0⟩ := Kd.at_int HR332_0.out x35_2 p333 q333
     cases e333
     replace hx333_0 := (HB.out.cell (World.block_lt_of_cell? w _ hx333_0)).trans hx333_0
     replace p333 := eq_true p333
     replace q333 := eq_true q333
     have p334 : 0 ≤ ((rd (rd_L1 l0_0 (rd x5_1 x6_1)) x35_2) : Int) := od zz2
     have q334 : (rd (rd_L1 l0_0 (rd x5_1 x6_1)) x35_2) < (x4_2.length : Int) := od zz2
     obtain ⟨ad334, e334, hx334_0⟩ := Kd.at_bool (Kd.R_reads' HO_4.out).2.2 (rd (rd_L1 l0_0 (rd x5_1 x6_1)) x35_2) p334 q334
     (try rw [← Nbq29.out] at hx334_0)
     obtain rfl : (⟨go6, 0, none⟩ : Addr) = ad334 := (by injection e334)
     (first | simp only [add_plain] at hx334_0 | simp only [add_at] at hx334_0 | simp only [Addr.add, Nat.zero_add] at hx334_0 | skip)
     replace p334 := eq_true p334
     replace q334 := eq_true q334
     have p31 : 0 ≤ ((rd (rd_L1 l0_0 (rd x5_1 x6_1)) x35_2) : Int) := od zz2
     have q31 : ((rd (rd_L1 l0_0 (rd x5_1 x6_1)) x35_2) : Int) < ((x4_2.length : Int) : Int) := od zz2
     obtain ⟨hx31_0, hf31_0⟩ := Kd.R_celln false HO_4.out ((rd (rd_L1 l0_0 (rd x5_1 x6_1)) x35_2) : Int) p31 q31
     replace p31 := eq_true p31
     replace q31 := eq_true q31
     have HP39 := Kd.R_putg HO_4.out ((rd (rd_L1 l0_0 (rd x5_1 x6_1)) x35_2) : Int) true
     go_wp2_with (first | ((with_reducible refine gate_store (t := 4) (p := 46) rfl ?_); (try (rw [drewN_self wr]; generalize hq_ : World.drewN wr _ = wr; have n0_ := am (Kd.R_at hq_ HO_3.out); have n1_ := am (Kd.R_at hq_ HO_4.out); have n2_ := am (Kd.R_at hq_ HO_5.out); have n3_ := am (blk_at hq_ BK320.out); have n4_ := am (below_at hq_ HB.out); clear hq_ HO_3 HO_4 HO_5 BK320 HB; have HO_3 := n0_; have HO_4 := n1_; have HO_5 := n2_; have BK320 := n3_; have HB := n4_; clear n0_ n1_ n2_ n3_ n4_; (try (have HP39 := Kd.R_putg HO_4.out ((rd (rd_L1 l0_0 (rd x5_1 x6_1)) x35_2) : Int) true)))); refine store_event (t := 4) (p := 46) (v := ?vo_w40) (w1 := (wr.setCell ⟨go6, ((rd (rd_L1 l0_0 (rd x5_1 x6_1)) x35_2) : Int).toNat, none⟩ (.bool true))) zz5 zz5 zz5 zz6 ?_; intro w40 hw; have hg : wr.grownBy w40 (some go6) := (by rw [hw]; exact HP39.2); have hp_ : Kd.R Kd.bool 4 w40 w.heap.size (fun _ => True) (.slice (some ⟨go6, 0, none⟩) x4_2.length co6) y335 := (by rw [hw, Ny335.out]; exact HP39.1); clear HP39; replace HO_3 := am (Kd.R_over' (v := (.slice (some ⟨go6, 0, none⟩) x4_2.length co6)) (kR HO_3.out) (Kd.R_typed HO_4.out) (by decide) hg); replace HO_5 := am (Kd.R_over' (v := (.slice (some ⟨go6, 0, none⟩) x4_2.length co6)) (kR HO_5.out) (Kd.R_typed HO_4.out) (by decide) hg); replace BK320 := am (blk_grown (g := gb320) (o := .cells #[.slice (some ad332) l0_0.length c0_0] 24 (0, 0)) (kb BK320.out) hg (Kd.R_ne HO_4.out BK320.out (by decide))); replace HO_4 := am (hp_); replace HB := am ((by rw [hw]; exact below_set (HB.out) GB6.out : Below w.heap.size w w40)); clear hg hw hp_; obtain ⟨Ao41, co41, eo41⟩ := Kd.R_slice HO_5.out; subst eo41; have p336 : 0 ≤ (x6_1 : Int) := od zz2; have q336 : x6_1 < (x5_2.length : Int) := od zz2; obtain ⟨ad336, e336, hx336_0⟩ := Kd.at_int (Kd.R_reads' HO_5.out).2.2 x6_1 p336 q336; cases e336; replace p336 := eq_true p336; replace q336 := eq_true q336; obtain ⟨Ao42, co42, eo42⟩ := Kd.R_slice HO_3.out; subst eo42; have p337 : 0 ≤ ((rd x5_2 x6_1) : Int) := od zz2; have q337 : (rd x5_2 x6_1) < (x3_2.length : Int) := od zz2; obtain ⟨ad337, e337, hx337_0⟩ := Kd.at_int (Kd.R_reads' HO_3.out).2.2 (rd x5_2 x6_1) p337 q337; cases e337; replace p337 := eq_true p337; replace q337 := eq_true q337; have p37 : 0 ≤ ((rd (rd_L1 l0_0 (rd x5_1 x6_1)) x35_2) : Int) := od zz2; have q37 : ((rd (rd_L1 l0_0 (rd x5_1 x6_1)) x35_2) : Int) < ((x3_2.length : Int) : Int) := od zz2; obtain ⟨go37, co37, eo37, gb37, gl37, cl37, HG37⟩ := Kd.R_form HO_3.out (by omega); (first | cases eo37 | (injection eo37 with ea_ en_ ec_; (first | subst ea_ | (injection ea_ with ea_; subst ea_)); subst ec_; clear en_)); have GB37 := am gb37; have GG37 := am HG37; clear gb37 gl37 HG37; (first | simp only [add_plain] at hx337_0 | skip); obtain ⟨hx37_0, hf37_0⟩ := Kd.R_celln 0 HO_3.out ((rd (rd_L1 l0_0 (rd x5_1 x6_1)) x35_2) : Int) p37 q37; replace p37 := eq_true p37; replace q37 := eq_true q37; obtain ⟨hy43_, hz43_⟩ := Kd.R_celln 0 HO_3.out ((rd (rd_L1 l0_0 (rd x5_1 x6_1)) x35_2) : Int) (od zz2) (od zz2); have HP43 := Kd.R_putg HO_3.out ((rd (rd_L1 l0_0 (rd x5_1 x6_1)) x35_2) : Int) (wrap64 ((rd x3_2 (rd x5_2 x6_1)) + 1))) | ((with_reducible refine gate_store (t := 3) (p := 57) rfl ?_); (try (rw [drewN_self w40]; generalize hq_ : World.drewN w40 _ = w40; have n0_ := am (Kd.R_at hq_ HO_3.out); have n1_ := am (Kd.R_at hq_ HO_4.out); have n2_ := am (Kd.R_at hq_ HO_5.out); have n3_ := am (blk_at hq_ BK320.out); have n4_ := am (below_at hq_ HB.out); clear hq_ HO_3 HO_4 HO_5 BK320 HB; have HO_3 := n0_; have HO_4 := n1_; have HO_5 := n2_; have BK320 := n3_; have HB := n4_; clear n0_ n1_ n2_ n3_ n4_; (try (obtain ⟨hy43_, hz43_⟩ := Kd.R_celln 0 HO_3.out ((rd (rd_L1 l0_0 (rd x5_1 x6_1)) x35_2) : Int) (od zz2) (od zz2))); (try (have HP43 := Kd.R_putg HO_3.out ((rd (rd_L1 l0_0 (rd x5_1 x6_1)) x35_2) : Int) (wrap64 ((rd x3_2 (rd x5_2 x6_1)) + 1)))))); refine store_event (t := 3) (p := 57) (v := ?vo_w44) (w1 := (w40.setCell ⟨go37, ((rd (rd_L1 l0_0 (rd x5_1 x6_1)) x35_2) : Int).toNat, none⟩ (.int .i64 (wrap64 ((rd x3_2 (rd x5_2 x6_1)) + 1))))) zz5 zz5 zz5 zz6 ?_; intro w44 hw; have hg : w40.grownBy w44 (some go37) := (by rw [hw]; exact HP43.2); have hp_ : Kd.R (Kd.int .i64) 3 w44 w.heap.size (fun k_ => some k_ ≠ (.slice (some ad336) x5_2.length co41 : Value).ownBlock) (.slice (some ⟨go37, 0, none⟩) x3_2.length co42) y338 := (by rw [hw, Ny338.out]; exact HP43.1); clear HP43; replace HO_4 := am (Kd.R_over' (v := (.slice (some ⟨go37, 0, none⟩) x3_2.length co42)) (kR HO_4.out) (Kd.R_typed HO_3.out) (by decide) hg); replace HO_5 := am (Kd.R_after (v := (.slice (some ⟨go37, 0, none⟩) x3_2.length co42)) (v1 := (.slice (some ⟨go37, 0, none⟩) x3_2.length co42)) (ok := (fun _ => True)) (kR (Kd.R_mono HO_5.out (fun _ hk => ⟨trivial, hk⟩))) hg (.inl rfl)); replace BK320 := am (blk_grown (g := gb320) (o := .cells #[.slice (some ad332) l0_0.length c0_0] 24 (0, 0)) (kb BK320.out) hg (Kd.R_ne HO_3.out BK320.out (by decide))); replace HO_3 := am (hp_); replace HB := am ((by rw [hw]; exact below_set (HB.out) GB37.out : Below w.heap.size w w44)); clear hg hw hp_) | ((with_reducible refine gate_builtin (b := .append) (xs := #[.tmp 58, .tmp 60]) rfl ?_); at_builtin; refine Kd.R_append (Kd.int .i64) (w0 := w) w.heap.size rfl (.tmp 58) (.tmp 60) 28 3 (.int .i64 0) 8 rfl Try.underlying28 info3 rfl (by decide) (by omega) (.slice (some ad336) x5_2.length co41) x5_2 (rd (rd_L1 l0_0 (rd x5_1 x6_1)) x35_2) [.int .i64 (rd (rd_L1 l0_0 (rd x5_1 x6_1)) x35_2)] (fun k_ => some k_ ≠ (.slice (some ⟨go37, 0, none⟩) x3_2.length co42 : Value).ownBlock) (fun _ => False) rfl rfl ?aP (fun _ hk => hk.elim) ?aF ?aO ?aB ?aS ?aL ?_; (case aP => exact rfl); (case aB => exact (bs HB.out)); (case aF => exact (fun k_ hk => Kd.fresh' (Kd.R_lt (kR HO_3.out)) k_ hk)); (case aO => exact (kR (Kd.R_mono HO_5.out (fun _ hk => hk.2)))); (case aS => exact (below_size (bs HB.out))); (case aL => have := LMc38.out; omega); intro v340 w45 ho hb hg hat; rw [← Ny339.out] at ho; have n0_ := am (Kd.R_after (ok := (fun _ => True)) (kR (Kd.R_mono HO_3.out (fun _ hk => ⟨trivial, hk⟩))) hg hat); have n1_ := am (Kd.R_over' (kR HO_4.out) (Kd.R_typed (kR HO_5.out)) (by decide) hg); have n2_ := am (blk_grown (g := gb320) (o := .cells #[.slice (some ad332) l0_0.length c0_0] 24 (0, 0)) (kb BK320.out) hg (Kd.R_ne HO_5.out BK320.out (by decide))); have n3_ := am (hb); have n4_ := am (ho); clear HO_3; clear HO_4; clear BK320; clear HB; clear HO_5; have HO_3 := n0_; have HO_4 := n1_; have BK320 := n2_; have HB := n3_; have HO341 := n4_; clear n0_ n1_ n2_ n3_ n4_; clear ho hb hg hat))
     (try simp only [← hl4_2])
     go_roundg k2
     case measure => have := HK1.out; have := HK2.out; omega
     case rel => exact ⟨(y338), (y335), (y339), (wrap64 (x35_2 + 1)), zz3, H', ⟨by have := HK1.out; have := HK2.out; omega⟩, ⟨by (try simp only [hl4_1]); (try simp only [hl4_2]); (with_reducible repeat (first | apply Kd.R_alloc | apply Kd.R_drewN | apply Kd.R_drew)); exact Kd.R_mono HO_3.out (fun _ hk => hk.2)⟩, ⟨by (try simp only [hl4_1]); (try simp only [hl4_2]); (with_reducible repeat (first | apply Kd.R_alloc | apply Kd.R_drewN | apply Kd.R_drew)); exact HO_4.out⟩, ⟨by (try simp only [hl4_1]); (try simp only [hl4_2]); (with_reducible repeat (first | apply Kd.R_alloc | apply Kd.R_drewN | apply Kd.R_drew)); exact HO341.out⟩, ⟨by (try simp only [hl4_1]); (try simp only [hl4_2]); (with_reducible repeat (first | refine blk_drewN ?_ _ | refine blk_drew ?_ | refine blk_alloc ?_ _)); exact BK320.out⟩, ⟨bs HB.out⟩⟩
end Go.Proofs.Ytjgdalhdiohclaa.Q
end
section
namespace Go.Proofs.Ytjgdalhdiohclaa.Q
attribute [local go_sem] max2_int min2_int max_two min_two max_three min_three max_four min_four
mutual
def net_period.l0 : Nat → List Int → Int → List (List Int) → Int → Int → Option (Int)
 | 0, _, _, _, _, _ => none
 | k + 1, x3, x4, x13, x14, x15 => if x15 < x14 then (if 0 ≤ x15 then (if x15 < (x13.length : Int) then (net_period.l1 k x3 x4 x15 x13 x14 x15 (rd_L1 x13 x15) ((rd_L1 x13 x15).length : Int) 0) else (none)) else (none)) else (some x4)
def net_period.l1 : Nat → List Int → Int → Int → List (List Int) → Int → Int → List Int → Int → Int → Option (Int)
 | 0, _, _, _, _, _, _, _, _, _ => none
 | k + 1, x3, x4, x5, x13, x14, x15, x20, x21, x22 => if x22 < x21 then (if 0 ≤ x22 then (if x22 < (x20.length : Int) then (if 0 ≤ x5 then (if x5 < (x3.length : Int) then (if 0 ≤ (rd x20 x22) then (if (rd x20 x22) < (x3.length : Int) then ((net_common.f k x4 (mx (wrap64 ((wrap64 ((rd x3 x5) + 1)) - (rd x3 (rd x20 x22)))) (wrap64 (-(wrap64 ((wrap64 ((rd x3 x5) + 1)) - (rd x3 (rd x20 x22)))))))).bind fun t350 => (net_period.l1 k x3 t350 x5 x13 x14 x15 x20 x21 (wrap64 (x22 + 1)))) else (none)) else (none)) else (none)) else (none)) else (none)) else (none)) else (net_period.l0 k x3 x4 x13 x14 (wrap64 (x15 + 1)))
end
def net_period.f (k : Nat) (l0_0 : List (List Int)) : Option (Int) := (net_lengths.f k l0_0).bind fun t343 => (net_period.l0 k t343 0 l0_0 (l0_0.length : Int) 0)
theorem net_period.mono_l : ∀ k, (∀ y0 y1 y2 y3 y4, LeO (net_period.l0 k y0 y1 y2 y3 y4) (net_period.l0 (k + 1) y0 y1 y2 y3 y4)) ∧ (∀ y0 y1 y2 y3 y4 y5 y6 y7 y8, LeO (net_period.l1 k y0 y1 y2 y3 y4 y5 y6 y7 y8) (net_period.l1 (k + 1) y0 y1 y2 y3 y4 y5 y6 y7 y8))
 | 0 => ⟨fun _ _ _ _ _ r h => by simp [net_period.l0] at h, fun _ _ _ _ _ _ _ _ _ r h => by simp [net_period.l1] at h⟩
 | k + 1 => by
  obtain ⟨ih0, ih1⟩ := net_period.mono_l k
  refine ⟨?_, ?_⟩
  ·intro y0 y1 y2 y3 y4
   unfold net_period.l0
   with_reducible repeat' first | exact ih0 _ _ _ _ _ | exact ih1 _ _ _ _ _ _ _ _ _ | exact net_common.mono _ _ _ | exact net_lengths.mono _ _ | exact LeO.refl _ | exact LeO.none _ | refine LeO.ite ?_ ?_ | refine LeO.bind ?_ (fun _ => ?_)
  ·intro y0 y1 y2 y3 y4 y5 y6 y7 y8
   unfold net_period.l1
   with_reducible repeat' first | exact ih0 _ _ _ _ _ | exact ih1 _ _ _ _ _ _ _ _ _ | exact net_common.mono _ _ _ | exact net_lengths.mono _ _ | exact LeO.refl _ | exact LeO.none _ | refine LeO.ite ?_ ?_ | refine LeO.bind ?_ (fun _ => ?_)
theorem net_period.mono : ∀ a0 k, LeO (net_period.f k a0) (net_period.f (k + 1) a0) := by
 intro a0 k
 obtain ⟨ih0, ih1⟩ := net_period.mono_l k
 unfold net_period.f
 with_reducible repeat' first | exact ih0 _ _ _ _ _ | exact ih1 _ _ _ _ _ _ _ _ _ | exact net_common.mono _ _ _ | exact net_lengths.mono _ _ | exact LeO.refl _ | exact LeO.none _ | refine LeO.ite ?_ ?_ | refine LeO.bind ?_ (fun _ => ?_)
theorem net_period.calls (k : Nat) (A0_0 : Option Addr) (c0_0 : Nat) (l0_0 : List (List Int)) (r : Int) (w : World) (hr0_0 : Kd.C (Kd.slice 3 (Kd.int .i64)) w A0_0 l0_0.length l0_0) (hc0_0 : l0_0.length ≤ c0_0) (h : net_period.f k l0_0 = some r) :
    Calls Try.prog 70 #[.agg #[.slice A0_0 l0_0.length c0_0]] w fun e w' => e = .returned (.int .i64 r) ∧ Below w.heap.size w w' := by
 have hu24 := Try.underlying24
 have HR0_0 := am hr0_0
 have HC0_0 := am hc0_0
 clear hr0_0 hc0_0
 have HB := am (Below.refl w.heap.size w)
 have H : ((net_lengths.f k l0_0).bind fun t343 => (net_period.l0 k t343 0 l0_0 (l0_0.length : Int) 0)) = some r := h
 clear h
 replace H := Option.bind_eq_some_iff.mp H
 obtain ⟨t343, A20, H⟩ := H
 replace H : (net_period.l0 k t343 0 l0_0 (l0_0.length : Int) 0) = some r := H
 have A2 := am A20
 clear A20
 have H' := am H
 clear H
 go_enter Try.func70, Try.ntmps70
 go_wp2_with (first | ((with_reducible refine gate_dst (N := 1) rfl ?_); refine box_event zz5 (N := 1) zz5 (cs := #[.slice A0_0 l0_0.length c0_0]) (t := 24) zz6 ?_; intro gb342 hg w3 hbox hb; have BK342 := am (hbox); have GW342 := am ((by rw [hg]; exact (below_size (bw HB.out)) : w.heap.size ≤ gb342)); have GE342 := am ((by rw [hg]; exact (below_size (bw HB.out)) : w.heap.size ≤ gb342)); replace HB := am (below_step (bw HB.out) hb); clear hb hbox hg; have hcz4_0 : w3.cell? ⟨gb342, 0, none⟩ = some (.slice A0_0 l0_0.length c0_0) := (blk_cell BK342.out 0).trans rfl; have hfz4_0 := blk_frozen BK342.out 0) | (go_at_call 71; (with_reducible refine (net_lengths.calls k _ _ l0_0 t343 _ ?side1 ?side2 A2.out).mono ?_); (case side1 => exact kc (Kd.C_below HR0_0.out HB.out)); (case side2 => exact HC0_0.out); rintro e w5 ⟨v344, rfl, ho0, hb⟩; have HO345 := am (Kd.R_lower ho0 (below_size (bs HB.out))); replace BK342 := am (blk_below (g := gb342) (o := .cells #[.slice A0_0 l0_0.length c0_0] 24 (0, 0)) (kb BK342.out) hb); replace HB := am (below_step (bs HB.out) hb); (try clear hb); (try clear hb2); (try clear hk); (try clear hi); (try clear ho0); have hcz6_0 : w5.cell? ⟨gb342, 0, none⟩ = some (.slice A0_0 l0_0.length c0_0) := (blk_cell BK342.out 0).trans rfl; have hfz6_0 := blk_frozen BK342.out 0))
 repeat (go_quiet (first | ((with_reducible refine gate_dst (N := 1) rfl ?_); refine box_event zz5 (N := 1) zz5 (cs := #[.slice A0_0 l0_0.length c0_0]) (t := 24) zz6 ?_; intro gb342 hg w3 hbox hb; have BK342 := am (hbox); have GW342 := am ((by rw [hg]; exact (below_size (bw HB.out)) : w.heap.size ≤ gb342)); have GE342 := am ((by rw [hg]; exact (below_size (bw HB.out)) : w.heap.size ≤ gb342)); replace HB := am (below_step (bw HB.out) hb); clear hb hbox hg; have hcz4_0 : w3.cell? ⟨gb342, 0, none⟩ = some (.slice A0_0 l0_0.length c0_0) := (blk_cell BK342.out 0).trans rfl; have hfz4_0 := blk_frozen BK342.out 0) | (go_at_call 71; (with_reducible refine (net_lengths.calls k _ _ l0_0 t343 _ ?side1 ?side2 A2.out).mono ?_); (case side1 => exact kc (Kd.C_below HR0_0.out HB.out)); (case side2 => exact HC0_0.out); rintro e w5 ⟨v344, rfl, ho0, hb⟩; have HO345 := am (Kd.R_lower ho0 (below_size (bs HB.out))); replace BK342 := am (blk_below (g := gb342) (o := .cells #[.slice A0_0 l0_0.length c0_0] 24 (0, 0)) (kb BK342.out) hb); replace HB := am (below_step (bs HB.out) hb); (try clear hb); (try clear hb2); (try clear hk); (try clear hi); (try clear ho0); have hcz6_0 : w5.cell? ⟨gb342, 0, none⟩ = some (.slice A0_0 l0_0.length c0_0) := (blk_cell BK342.out 0).trans rfl; have hfz6_0 := blk_frozen BK342.out 0)); try go_wp2_with (first | ((with_reducible refine gate_dst (N := 1) rfl ?_); refine box_event zz5 (N := 1) zz5 (cs := #[.slice A0_0 l0_0.length c0_0]) (t := 24) zz6 ?_; intro gb342 hg w3 hbox hb; have BK342 := am (hbox); have GW342 := am ((by rw [hg]; exact (below_size (bw HB.out)) : w.heap.size ≤ gb342)); have GE342 := am ((by rw [hg]; exact (below_size (bw HB.out)) : w.heap.size ≤ gb342)); replace HB := am (below_step (bw HB.out) hb); clear hb hbox hg; have hcz4_0 : w3.cell? ⟨gb342, 0, none⟩ = some (.slice A0_0 l0_0.length c0_0) := (blk_cell BK342.out 0).trans rfl; have hfz4_0 := blk_frozen BK342.out 0) | (go_at_call 71; (with_reducible refine (net_lengths.calls k _ _ l0_0 t343 _ ?side1 ?side2 A2.out).mono ?_); (case side1 => exact kc (Kd.C_below HR0_0.out HB.out)); (case side2 => exact HC0_0.out); rintro e w5 ⟨v344, rfl, ho0, hb⟩; have HO345 := am (Kd.R_lower ho0 (below_size (bs HB.out))); replace BK342 := am (blk_below (g := gb342) (o := .cells #[.slice A0_0 l0_0.length c0_0] 24 (0, 0)) (kb BK342.out) hb); replace HB := am (below_step (bs HB.out) hb); (try clear hb); (try clear hb2); (try clear hk); (try clear hi); (try clear ho0); have hcz6_0 : w5.cell? ⟨gb342, 0, none⟩ = some (.slice A0_0 l0_0.length c0_0) := (blk_cell BK342.out 0).trans rfl; have hfz6_0 := blk_frozen BK342.out 0)))
 go_loopg [4, 15] k (fun kq v4 v15 w' => ∃ (x4_1 : Int) (x15_1 : Int), v4 = .int .i64 x4_1 ∧ v15 = .int .i64 x15_1 ∧ Aside0 (net_period.l0 kq t343 x4_1 l0_0 (l0_0.length : Int) x15_1 = some r) ∧ Aside0 (kq ≤ k) ∧ Aside0 (Kd.R (Kd.int .i64) 3 w' w.heap.size (fun _ => True) v344 t343) ∧ Aside0 (w'.heap[gb342]? = some (.cells #[(.slice A0_0 l0_0.length c0_0)] 24 (0, 0))) ∧ Aside0 (Below w.heap.size w w'))
 case atStart => exact ⟨(0), (0), zz3, zz3, H', ⟨Nat.le_refl _⟩, ⟨kR HO345.out⟩, ⟨kb BK342.out⟩, ⟨bs HB.out⟩⟩
 case round =>
  clear H'
  (try clear p2); (try clear hcz4_0); (try clear hcz6_0); (try clear hfz4_0); (try clear hfz6_0)
  obtain ⟨x4_1, x15_1, rfl, rfl, HA, HK1, HO_3, BK342, HB⟩ := hrel
  cases gk with
  | zero => exact absurd HA.out (by simp [net_period.l0])
  | succ k1 =>
   have H := HA.out
   clear HA
   simp only [net_period.l0] at H
   by_cases c7 : x15_1 < (l0_0.length : Int)
   rotate_left
   ·rw [if_neg c7] at H
    have c7b0 : decide (x15_1 < (l0_0.length : Int)) = false := decide_eq_false c7
    clear c7
    obtain rfl := Option.some.inj H
    go_wp2
    repeat (go_quiet (fail); try go_wp2)
    go_ret
    exact ⟨by first | rfl | (simp [errW_none, errW_some] <;> rfl) | (simp [*, errW_none, errW_some] <;> rfl), bs HB.out⟩
   rw [if_pos c7] at H
   have c7b0 : decide (x15_1 < (l0_0.length : Int)) = true := decide_eq_true c7
   clear c7
   by_cases c8 : 0 ≤ x15_1
   rotate_left
   ·rw [if_neg c8] at H
    exact absurd H (by simp)
   rw [if_pos c8] at H
   have c8b0 : decide (0 ≤ x15_1) = true := decide_eq_true c8
   clear c8
   by_cases c9 : x15_1 < (l0_0.length : Int)
   rotate_left
   ·rw [if_neg c9] at H
    exact absurd H (by simp)
   rw [if_pos c9] at H
   have c9b0 : decide (x15_1 < (l0_0.length : Int)) = true := decide_eq_true c9
   clear c9
   have H' := am H
   clear H
   have p346 : 0 ≤ (x15_1 : Int) := od zz2
   have q346 : x15_1 < (l0_0.length : Int) := od zz2
   obtain ⟨ad346, A346_0, c346_0, e346, hx346_0, hl346_0, hi346_0⟩ := at_L1 HR0_0.out x15_1 p346 q346
   cases e346
   replace hx346_0 := (HB.out.cell (World.block_lt_of_cell? w _ hx346_0)).trans hx346_0
   have HR346_0 := am hi346_0
   have HC346_0 := am hl346_0
   clear hi346_0 hl346_0
   replace p346 := eq_true p346
   replace q346 := eq_true q346
   go_wp2
   repeat (go_quiet (fail); try go_wp2)
   go_loopg [4, 22] k1 (fun kq v4 v22 w' => ∃ (x4_2 : Int) (x22_2 : Int), v4 = .int .i64 x4_2 ∧ v22 = .int .i64 x22_2 ∧ Aside0 (net_period.l1 kq t343 x4_2 x15_1 l0_0 (l0_0.length : Int) x15_1 (rd_L1 l0_0 x15_1) ((rd_L1 l0_0 x15_1).length : Int) x22_2 = some r) ∧ Aside0 (kq ≤ k1) ∧ Aside0 (Kd.R (Kd.int .i64) 3 w' w.heap.size (fun _ => True) v344 t343) ∧ Aside0 (w'.heap[gb342]? = some (.cells #[(.slice (some ad346) l0_0.length c0_0)] 24 (0, 0))) ∧ Aside0 (Below w.heap.size w w'))
   case atStart => exact ⟨(x4_1), (0), zz3, zz3, H', ⟨Nat.le_refl _⟩, ⟨kR HO_3.out⟩, ⟨kb BK342.out⟩, ⟨bs HB.out⟩⟩
   case round =>
    clear H'
    (try clear p2); (try clear c3); (try clear p3); (try clear q3); (try clear hx3); (try clear c7); (try clear c7b0); (try clear c8); (try clear c8b0); (try clear c9); (try clear c9b0); (try clear hcz4_0); (try clear hcz6_0); (try clear hfz4_0); (try clear hfz6_0); (try clear hx346_0); (try clear p2); (try clear p346); (try clear q346)
    obtain ⟨x4_2, x22_2, rfl, rfl, HA, HK2, HO_3, BK342, HB⟩ := hrel
    cases gk with
    | zero => exact absurd HA.out (by simp [net_period.l1])
    | succ k2 =>
     have H := HA.out
     clear HA
     simp only [net_period.l1] at H
     by_cases c10 : x22_2 < ((rd_L1 l0_0 x15_1).length : Int)
     rotate_left
     ·rw [if_neg c10] at H
      have c10b0 : decide (x22_2 < ((rd_L1 l0_0 x15_1).length : Int)) = false := decide_eq_false c10
      clear c10
      have H' := am H
      clear H
      go_wp2
      repeat (go_quiet (fail); try go_wp2)
      go_roundg k2
      case measure => have := HK1.out; have := HK2.out; omega
      case rel => exact ⟨(x4_2), (wrap64 (x15_1 + 1)), zz3, zz3, H', ⟨by have := HK1.out; have := HK2.out; omega⟩, ⟨kR HO_3.out⟩, ⟨kb BK342.out⟩, ⟨bs HB.out⟩⟩
     rw [if_pos c10] at H
     have c10b0 : decide (x22_2 < ((rd_L1 l0_0 x15_1).length : Int)) = true := decide_eq_true c10
     clear c10
     by_cases c11 : 0 ≤ x22_2
     rotate_left
     ·rw [if_neg c11] at H
      exact absurd H (by simp)
     rw [if_pos c11] at H
     have c11b0 : decide (0 ≤ x22_2) = true := decide_eq_true c11
     clear c11
     by_cases c12 : x22_2 < ((rd_L1 l0_0 x15_1).length : Int)
     rotate_left
     ·rw [if_neg c12] at H
      exact absurd H (by simp)
     rw [if_pos c12] at H
     have c12b0 : decide (x22_2 < ((rd_L1 l0_0 x15_1).length : Int)) = true := decide_eq_true c12
     clear c12
     by_cases c13 : 0 ≤ x15_1
     rotate_left
     ·rw [if_neg c13] at H
      exact absurd H (by simp)
     rw [if_pos c13] at H
     have c13b0 : decide (0 ≤ x15_1) = true := decide_eq_true c13
     clear c13
     by_cases c14 : x15_1 < (t343.length : Int)
     rotate_left
     ·rw [if_neg c14] at H
      exact absurd H (by simp)
     rw [if_pos c14] at H
     have c14b0 : decide (x15_1 < (t343.length : Int)) = true := decide_eq_true c14
     clear c14
     by_cases c15 : 0 ≤ (rd (rd_L1 l0_0 x15_1) x22_2)
     rotate_left
     ·rw [if_neg c15] at H
      exact absurd H (by simp)
     rw [if_pos c15] at H
     have c15b0 : decide (0 ≤ (rd (rd_L1 l0_0 x15_1) x22_2)) = true := decide_eq_true c15
     clear c15
     by_cases c16 : (rd (rd_L1 l0_0 x15_1) x22_2) < (t343.length : Int)
     rotate_left
     ·rw [if_neg c16] at H
      exact absurd H (by simp)
     rw [if_pos c16] at H
     have c16b0 : decide ((rd (rd_L1 l0_0 x15_1) x22_2) < (t343.length : Int)) = true := decide_eq_true c16
     clear c16
     obtain ⟨ji17, hji17⟩ : ∃ j_ : Int, (mx (wrap64 ((wrap64 ((rd t343 x15_1) + 1)) - (rd t343 (rd (rd_L1 l0_0 x15_1) x22_2)))) (wrap64 (-(wrap64 ((wrap64 ((rd t343 x15_1) + 1)) - (rd t343 (rd (rd_L1 l0_0 x15_1) x22_2))))))) = j_ := ⟨_, rfl⟩
     replace H : ((net_common.f k2 x4_2 (ji17)).bind fun t350 => (net_period.l1 k2 t343 t350 x15_1 l0_0 (l0_0.length : Int) x15_1 (rd_L1 l0_0 x15_1) ((rd_L1 l0_0 x15_1).length : Int) (wrap64 (x22_2 + 1)))) = some r := by first | (rw [hji17] at H; exact H) | (simp only [hji17] at H ⊢; exact H)
     have hji17_ : (if (wrap64 ((wrap64 ((rd t343 x15_1) + 1)) - (rd t343 (rd (rd_L1 l0_0 x15_1) x22_2)))) < (wrap64 (-(wrap64 ((wrap64 ((rd t343 x15_1) + 1)) - (rd t343 (rd (rd_L1 l0_0 x15_1) x22_2)))))) then (wrap64 (-(wrap64 ((wrap64 ((rd t343 x15_1) + 1)) - (rd t343 (rd (rd_L1 l0_0 x15_1) x22_2)))))) else (wrap64 ((wrap64 ((rd t343 x15_1) + 1)) - (rd t343 (rd (rd_L1 l0_0 x15_1) x22_2))))) = ji17 := hji17
     replace H := Option.bind_eq_some_iff.mp H
     obtain ⟨t350, A180, H⟩ := H
     replace H : (net_period.l1 k2 t343 t350 x15_1 l0_0 (l0_0.length : Int) x15_1 (rd_L1 l0_0 x15_1) ((rd_L1 l0_0 x15_1).length : Int) (wrap64 (x22_2 + 1))) = some r := H
     have A18 := am A180
     clear A180
     have H' := am H
     clear H
     have p347 : 0 ≤ (x22_2 : Int) := od zz2
     have q347 : x22_2 < ((rd_L1 l0_0 x15_1).length : Int) := od zz2
     obtain ⟨ad347, e347, hx347_0⟩ := Kd.at_int HR346_0.out x22_2 p347 q347
     cases e347
     replace hx347_0 := (HB.out.cell (World.block_lt_of_cell? w _ hx347_0)).trans hx347_0
     replace p347 := eq_true p347
     replace q347 := eq_true q347
     obtain ⟨Ao19, co19, eo19⟩ := Kd.R_slice HO_3.out
     subst eo19
     have p348 : 0 ≤ (x15_1 : Int) := od zz2
     have q348 : x15_1 < (t343.length : Int) := od zz2
     obtain ⟨ad348, e348, hx348_0⟩ := Kd.at_int (Kd.R_reads' HO_3.out).2.2 x15_1 p348 q348
     cases e348
     replace p348 := eq_true p348
     replace q348 := eq_true q348
     have p349 : 0 ≤ ((rd (rd_L1 l0_0 x15_1) x22_2) : Int) := od zz2
     have q349 : (rd (rd_L1 l0_0 x15_1) x22_2) < (t343.length : Int) := od zz2
     obtain ⟨ad349, e349, hx349_0⟩ := Kd.at_int (Kd.R_reads' HO_3.out).2.2 (rd (rd_L1 l0_0 x15_1) x22_2) p349 q349
     obtain rfl : ad348 = ad349 := (by injection e349)
     replace p349 := eq_true p349
     replace q349 := eq_true q349
     go_wp2_with (first | (go_at_call 104; (with_reducible refine (net_common.calls k2 x4_2 ji17 t350 _ A18.out).mono ?_); rintro e w' ⟨rfl, ⟨nd, rfl⟩⟩; (try exact zz4)))
     repeat (go_quiet (first | (go_at_call 104; (with_reducible refine (net_common.calls k2 x4_2 ji17 t350 _ A18.out).mono ?_); rintro e w' ⟨rfl, ⟨nd, rfl⟩⟩; (try exact zz4))); try go_wp2_with (first | (go_at_call 104; (with_reducible refine (net_common.calls k2 x4_2 ji17 t350 _ A18.out).mono ?_); rintro e w' ⟨rfl, ⟨nd, rfl⟩⟩; (try exact zz4))))
     go_roundg k2
     case measure => have := HK1.out; have := HK2.out; omega
     case rel => exact ⟨(t350), (wrap64 (x22_2 + 1)), zz3, zz3, H', ⟨by have := HK1.out; have := HK2.out; omega⟩, ⟨kR HO_3.out⟩, ⟨kb BK342.out⟩, ⟨bs HB.out⟩⟩
end Go.Proofs.Ytjgdalhdiohclaa.Q
end
section
namespace Go.Proofs.Ytjgdalhdiohclaa.Q
attribute [local go_sem] max2_int min2_int max_two min_two max_three min_three max_four min_four
def mizmazeref05_Times.l0 : Nat → List Int → Int → Int → Int → Option (Int)
 | 0, _, _, _, _ => none
 | k + 1, x0, x1, x5, x6 => if x6 < (x0.length : Int) then (if 0 ≤ x6 then (if (rd x0 x6) = x1 then (mizmazeref05_Times.l0 k x0 x1 (wrap64 (x5 + 1)) (wrap64 (x6 + 1))) else (mizmazeref05_Times.l0 k x0 x1 x5 (wrap64 (x6 + 1)))) else (none)) else (some x5)
def mizmazeref05_Times.f (k : Nat) (l0 : List Int) (a1 : Int) : Option (Int) := mizmazeref05_Times.l0 k l0 a1 0 0
theorem mizmazeref05_Times.calls (k : Nat) (A0 : Option Addr) (c0 : Nat) (l0 : List Int) (a1 : Int) (r : Int) (w : World) (hr0 : Kd.C (Kd.int .i64) w A0 l0.length l0) (hc0 : l0.length ≤ c0) (h : mizmazeref05_Times.f k l0 a1 = some r) :
  Calls Try.prog 84 #[.slice A0 l0.length c0, .int .i64 a1] w fun e w' => e = .returned (.int .i64 r) ∧ Drawn0 w w' := by
 have HR0 := am hr0
 have HC0 := am hc0
 clear hr0 hc0
 have H : (mizmazeref05_Times.l0 k l0 a1 0 0) = some r := h
 clear h
 have H' := am H
 clear H
 go_enter Try.func84, Try.ntmps84
 go_wp2
 go_loopg [5, 6] k (fun kq v5 v6 w' => ∃ (x5_1 : Int) (x6_1 : Int), v5 = .int .i64 x5_1 ∧ v6 = .int .i64 x6_1 ∧ Aside0 (mizmazeref05_Times.l0 kq l0 a1 x5_1 x6_1 = some r) ∧ Aside0 (kq ≤ k) ∧ Drawn0 w w')
 case atStart => exact ⟨(0), (0), zz3, zz3, H', ⟨Nat.le_refl _⟩, by repeat (first | exact Drawn0.refl _ | apply Drawn0.step)⟩
 case round =>
  clear H'
  (try clear p2)
  obtain ⟨x5_1, x6_1, rfl, rfl, HA, HK1, ⟨m1, rfl⟩⟩ := hrel
  cases gk with
  | zero => exact absurd HA.out (by simp [mizmazeref05_Times.l0])
  | succ k1 =>
   have H := HA.out
   clear HA
   simp only [mizmazeref05_Times.l0] at H
   by_cases c3 : x6_1 < (l0.length : Int)
   ·rw [if_pos c3] at H
    have c3b0 : decide (x6_1 < (l0.length : Int)) = true := decide_eq_true c3
    clear c3
    by_cases c4 : 0 ≤ x6_1
    ·rw [if_pos c4] at H
     have c4b0 : decide (0 ≤ x6_1) = true := decide_eq_true c4
     clear c4
     by_cases c5 : (rd l0 x6_1) = a1
     ·rw [if_pos c5] at H
      have c5b0 : ((rd l0 x6_1) == a1) = true := beq_iff_eq.mpr c5
      have c5b1 : ((rd l0 x6_1) != a1) = false := bne_eq_false_iff_eq.mpr c5
      clear c5
      have H' := am H
      clear H
      have p503 : 0 ≤ (x6_1 : Int) := od zz2
      have q503 : x6_1 < (l0.length : Int) := od zz2
      obtain ⟨ad503, e503, hx503_0⟩ := Kd.at_int HR0.out x6_1 p503 q503
      cases e503
      replace p503 := eq_true p503
      replace q503 := eq_true q503
      go_wp2
      go_roundg k1
      case measure => have := HK1.out; omega
      case rel => exact ⟨(wrap64 (x5_1 + 1)), (wrap64 (x6_1 + 1)), zz3, zz3, H', ⟨by have := HK1.out; omega⟩, by repeat (first | exact Drawn0.refl _ | apply Drawn0.step)⟩
     ·rw [if_neg c5] at H
      have c5b0 : ((rd l0 x6_1) == a1) = false := beq_eq_false_iff_ne.mpr c5
      have c5b1 : ((rd l0 x6_1) != a1) = true := bne_iff_ne.mpr c5
      have H' := am H
      clear H
      have p503 : 0 ≤ (x6_1 : Int) := od zz2
      have q503 : x6_1 < (l0.length : Int) := od zz2
      obtain ⟨ad503, e503, hx503_0⟩ := Kd.at_int HR0.out x6_1 p503 q503
      cases e503
      replace p503 := eq_true p503
      replace q503 := eq_true q503
      go_wp2
      go_roundg k1
      case measure => have := HK1.out; omega
      case rel => exact ⟨(x5_1), (wrap64 (x6_1 + 1)), zz3, zz3, H', ⟨by have := HK1.out; omega⟩, by repeat (first | exact Drawn0.refl _ | apply Drawn0.step)⟩
    ·rw [if_neg c4] at H
     exact absurd H (by simp)
   ·rw [if_neg c3] at H
    have c3b0 : decide (x6_1 < (l0.length : Int)) = false := decide_eq_false c3
    clear c3
    obtain rfl := Option.some.inj H
    go_wp2
    go_ret
    exact ⟨by first | rfl | (simp; done) | (simp [*]; done), by repeat (first | exact Drawn0.refl _ | apply Drawn0.step)⟩
end Go.Proofs.Ytjgdalhdiohclaa.Q
end
section
namespace Go.Proofs.Ytjgdalhdiohclaa.Q
attribute [local go_sem] max2_int min2_int max_two min_two max_three min_three max_four min_four
mutual
def mizmazeref05_Same.j0 : Nat → Bool → List (List Int) → List (List Int) → Option (Bool)
 | 0, _, _, _ => none
 | k + 1, x20, x505000, x506000 => if x20 = true then (some false) else (mizmazeref05_Same.l0 k 0 x505000 x506000)
def mizmazeref05_Same.l0 : Nat → Int → List (List Int) → List (List Int) → Option (Bool)
 | 0, _, _, _ => none
 | k + 1, x5, x505000, x506000 => if x5 < (x505000.length : Int) then (mizmazeref05_Same.l1 k x5 0 x505000 x506000) else (some true)
def mizmazeref05_Same.l1 : Nat → Int → Int → List (List Int) → List (List Int) → Option (Bool)
 | 0, _, _, _, _ => none
 | k + 1, x5, x6, x505000, x506000 => if x6 < (x505000.length : Int) then (if 0 ≤ x5 then (if x5 < (x505000.length : Int) then ((mizmazeref05_Times.f k (rd_L1 x505000 x5) x6).bind fun t509 => (if x5 < (x506000.length : Int) then ((mizmazeref05_Times.f k (rd_L1 x506000 x5) x6).bind fun t511 => (if t509 = t511 then (mizmazeref05_Same.l1 k x5 (wrap64 (x6 + 1)) x505000 x506000) else (some false))) else (none))) else (none)) else (none)) else (mizmazeref05_Same.l0 k (wrap64 (x5 + 1)) x505000 x506000)
end
def mizmazeref05_Same.f (k : Nat) (l0_0 : List (List Int)) (l1_0 : List (List Int)) : Option (Bool) := if (l0_0.length : Int) = (l1_0.length : Int) then ((mizmazeref01_Letters.f l0_0).bind fun t506 => ((mizmazeref01_Letters.f l1_0).bind fun t507 => (mizmazeref05_Same.j0 k (t506 != t507) l0_0 l1_0))) else (mizmazeref05_Same.j0 k true l0_0 l1_0)
def mizmazeref05_Same.T1 : Bool × List (List Nat × List Nat) := (true, [([], []), ([0], [0]), ([1], [1]), ([], []), ([3], [3]), ([4], [4]), ([2, 5], [2, 5]), ([6], [6]), ([7], [7]), ([8, 7, 7], [7, 8]), ([7], [7]), ([10, 9, 7], [7, 10]), ([9, 11, 7], [7, 9, 11]), ([7, 12], [7, 12])])
def mizmazeref05_Same.B1 : List Nat := [0, 1, 3, 0, 8, 24, 63, 127, 255, 511, 255, 2047, 4095, 8191]
theorem mizmazeref05_Same.tab1 : rtab .any (opsOf Try.f46 1) = mizmazeref05_Same.T1 := by kernel_rfl
theorem mizmazeref05_Same.bits1 : waitsOk mizmazeref05_Same.T1.2 mizmazeref05_Same.B1 = true := by kernel_rfl
def mizmazeref05_Same.T9 : Bool × List (List Nat × List Nat) := (true, [([], []), ([0], [0]), ([], []), ([1, 2], [1, 2]), ([3], [3]), ([], []), ([4, 5], [4, 5]), ([], []), ([7], [7]), ([], []), ([8, 9], [8, 9]), ([10], [10]), ([], []), ([11, 12, 6], [11, 12]), ([6, 13], [6, 13])])
def mizmazeref05_Same.B9 : List Nat := [0, 1, 0, 7, 15, 0, 63, 0, 128, 0, 896, 1920, 0, 8191, 16383]
theorem mizmazeref05_Same.tab9 : rtab .any (opsOf Try.f46 9) = mizmazeref05_Same.T9 := by kernel_rfl
theorem mizmazeref05_Same.bits9 : waitsOk mizmazeref05_Same.T9.2 mizmazeref05_Same.B9 = true := by kernel_rfl
def rs0 : Array Bool := #[true, false, false, false, false, false, false, false, false, false, false, false, false, false]
def rs1 : Array Bool := #[true, false, false, true, false, false, false, false, false, false, false, false, false, false]
def rs2 : Array Bool := #[true, true, false, true, false, false, false, false, false, false, false, false, false, false]
def rs3 : Array Bool := #[true, true, true, true, false, false, false, false, false, false, false, false, false, false]
def rs4 : Array Bool := #[true, true, true, true, true, false, false, false, false, false, false, false, false, false]
def rs5 : Array Bool := #[true, true, true, true, true, true, false, false, false, false, false, false, false, false]
def rs6 : Array Bool := #[true, true, true, true, true, true, true, false, false, false, false, false, false, false]
def rs7 : Array Bool := #[true, true, true, true, true, true, true, true, false, false, false, false, false, false]
def rs8 : Array Bool := #[true, true, true, true, true, true, true, true, true, false, false, false, false, false]
def rs9 : Array Bool := #[true, true, true, true, true, true, true, true, true, false, true, false, false, false]
def rs10 : Array Bool := #[true, true, true, true, true, true, true, true, true, true, true, false, false, false]
def rs11 : Array Bool := #[true, true, true, true, true, true, true, true, true, true, true, true, false, false]
def rs12 : Array Bool := #[true, true, true, true, true, true, true, true, true, true, true, true, true, false]
def rs13 : Array Bool := #[true, true, true, true, true, true, true, true, true, true, true, true, true, true]
def rs14 : Array Bool := #[true, true, true, true, true, true, true, true, true, true, false, false, false, false]
def rs15 : Array Bool := #[true, false, false, false, false, false, false, false, false, false, false, false, false, false, false]
def rs16 : Array Bool := #[true, false, true, false, false, false, false, false, false, false, false, false, false, false, false]
def rs17 : Array Bool := #[true, false, true, false, false, true, false, false, false, false, false, false, false, false, false]
def rs18 : Array Bool := #[true, false, true, false, false, true, false, true, false, false, false, false, false, false, false]
def rs19 : Array Bool := #[true, false, true, false, false, true, false, true, false, true, false, false, false, false, false]
def rs20 : Array Bool := #[true, false, true, false, false, true, false, true, false, true, false, false, true, false, false]
def rs21 : Array Bool := #[true, true, true, false, false, true, false, true, false, true, false, false, true, false, false]
def rs22 : Array Bool := #[true, true, true, true, false, true, false, true, false, true, false, false, true, false, false]
def rs23 : Array Bool := #[true, true, true, true, true, true, false, true, false, true, false, false, true, false, false]
def rs24 : Array Bool := #[true, true, true, true, true, true, false, true, true, true, false, false, true, false, false]
def rs25 : Array Bool := #[true, true, true, true, true, true, false, true, true, true, true, false, true, false, false]
def rs26 : Array Bool := #[true, true, true, true, true, true, false, true, true, true, true, true, true, false, false]
def rs27 : Array Bool := #[true, true, true, true, true, true, true, true, true, true, true, true, true, false, false]
def rs28 : Array Bool := #[true, true, true, true, true, true, true, true, true, true, true, true, true, true, false]
def rs29 : Array Bool := #[true, true, true, true, true, true, true, true, true, true, true, true, true, true, true]
theorem mizmazeref05_Same.calls (k : Nat) (A0_0 : Option Addr) (c0_0 : Nat) (l0_0 : List (List Int)) (A1_0 : Option Addr) (c1_0 : Nat) (l1_0 : List (List Int)) (r : Bool) (w : World) (hr0_0 : Kd.C (Kd.slice 3 (Kd.int .i64)) w A0_0 l0_0.length l0_0) (hc0_0 : l0_0.length ≤ c0_0) (hr1_0 : Kd.C (Kd.slice 3 (Kd.int .i64)) w A1_0 l1_0.length l1_0) (hc1_0 : l1_0.length ≤ c1_0) (h : mizmazeref05_Same.f k l0_0 l1_0 = some r) :
    Calls Try.prog 46 #[.agg #[.slice A0_0 l0_0.length c0_0], .agg #[.slice A1_0 l1_0.length c1_0]] w fun e w' => e = .returned (.bool r) ∧ Below w.heap.size w w' := by
 have hu24 := Try.underlying24
 have HR0_0 := am hr0_0
 have HC0_0 := am hc0_0
 clear hr0_0 hc0_0
 have HR1_0 := am hr1_0
 have HC1_0 := am hc1_0
 clear hr1_0 hc1_0
 have HB := am (Below.refl w.heap.size w)
 have H : (if (l0_0.length : Int) = (l1_0.length : Int) then ((mizmazeref01_Letters.f l0_0).bind fun t506 => ((mizmazeref01_Letters.f l1_0).bind fun t507 => (mizmazeref05_Same.j0 k (t506 != t507) l0_0 l1_0))) else (mizmazeref05_Same.j0 k true l0_0 l1_0)) = some r := h
 clear h
 have HC3 := am H
 clear H
 go_enter Try.func46, Try.ntmps46
 go_upto_region 1 with (first | ((with_reducible refine gate_dst (N := 2) rfl ?_); refine box_event zz5 (N := 2) zz5 (cs := #[.slice A0_0 l0_0.length c0_0]) (t := 24) zz6 ?_; intro gb504 hg w4 hbox hb; have BK504 := am (hbox); have GW504 := am ((by rw [hg]; exact (below_size (bw HB.out)) : w.heap.size ≤ gb504)); have GE504 := am ((by rw [hg]; exact (below_size (bw HB.out)) : w.heap.size ≤ gb504)); replace HB := am (below_step (bw HB.out) hb); clear hb hbox hg) | ((with_reducible refine gate_dst (N := 3) rfl ?_); refine box_event zz5 (N := 3) zz5 (cs := #[.slice A1_0 l1_0.length c1_0]) (t := 24) zz6 ?_; intro gb505 hg w5 hbox hb; have BK505 := am (hbox); have GW505 := am ((by rw [hg]; exact (below_size (bs HB.out)) : w.heap.size ≤ gb505)); have GE505 := am ((by rw [hg]; exact (below_size (bs HB.out)) : w.heap.size ≤ gb505)); replace HB := am (below_step (bs HB.out) hb); have NB504_505 := am ((by rw [hg]; exact Nat.ne_of_lt (blk_lt (g := gb504) (o := .cells #[.slice A0_0 l0_0.length c0_0] 24 (0, 0)) (kb BK504.out)) : gb504 ≠ gb505)); have NB505_504 := am ((by rw [hg]; exact Nat.ne_of_gt (blk_lt (g := gb504) (o := .cells #[.slice A0_0 l0_0.length c0_0] 24 (0, 0)) (kb BK504.out)) : gb505 ≠ gb504)); replace BK504 := am (blk_below (g := gb504) (o := .cells #[.slice A0_0 l0_0.length c0_0] 24 (0, 0)) (kb BK504.out) hb); clear hb hbox hg))
 (try simp only [Act.put, List.setIfInBounds_toArray, List.set_cons_zero, List.set_cons_succ])
 go_cut [20] (fun v20 wc => ∃ (kq : Nat) (x20_2 : Bool), v20 = .bool x20_2 ∧ Aside0 (mizmazeref05_Same.j0 kq x20_2 l0_0 l1_0 = some r) ∧ Aside0 (kq ≤ k) ∧ Aside0 (wc.heap[gb504]? = some (.cells #[(.slice A0_0 l0_0.length c0_0)] 24 (0, 0))) ∧ Aside0 (wc.heap[gb505]? = some (.cells #[(.slice A1_0 l1_0.length c1_0)] 24 (0, 0))) ∧ Aside0 (Below w.heap.size w wc))
 case first =>
  have H := HC3.out
  clear HC3
  by_cases c6 : (l0_0.length : Int) = (l1_0.length : Int)
  rotate_left
  ·rw [if_neg c6] at H
   have c6b0 : ((l0_0.length : Int) == (l1_0.length : Int)) = false := beq_eq_false_iff_ne.mpr c6
   have c6b1 : ((l0_0.length : Int) != (l1_0.length : Int)) = true := bne_iff_ne.mpr c6
   have c6b2 : (l0_0.length == l1_0.length) = false := by first | simpa using c6 | (simp at c6 ⊢; omega)
   (first | rw [c6b0] | (simp only [i64_w, i32_w]; rw [c6b0]) | skip)
   have H' := am H
   clear H
   try go_wp2
   replace BK504 := am (blk_drew BK504.out)
   replace BK505 := am (blk_drew BK505.out)
   replace HB := am (bd HB.out)
   refine start_ (n := 14) (S := fun w' => w'.cell? ⟨gb504, 0, none⟩ = some (.slice A0_0 l0_0.length c0_0) ∧ w'.cell? ⟨gb505, 0, none⟩ = some (.slice A1_0 l1_0.length c1_0)) (ds := []) #[false, false, false, false, false, false, false, false, false, false, false, false, false, false] (by kernel_rfl) rfl rfl ⟨(blk_cell BK504.out 0).trans rfl, (blk_cell BK505.out 0).trans rfl⟩ (fun hHeld => ?_); refine with_tabW mizmazeref05_Same.tab1 mizmazeref05_Same.bits1 (fun HT_ HW_ => ?_)
   generalize w5.drew = w12 at BK504 BK505 HB hHeld ⊢
   refine pv_ 0 7 rs0 HT_ ?_
   refine pv_ 3 10 rs1 HT_ ?_
   refine tv_ 1 8 rs2 HT_ HW_ hHeld ?_
   refine pv_ 2 9 rs3 HT_ ?_
   refine tv_ 4 11 rs4 HT_ HW_ hHeld ?_
   refine pv_ 5 12 rs5 HT_ ?_
   refine pv_ 6 13 rs6 HT_ ?_
   refine pv_ 7 14 rs7 HT_ ?_
   refine pu_ 8 15 rs8 HT_ ?_
   refine pu_ 9 16 rs14 HT_ ?_
   refine pu_ 10 17 rs10 HT_ ?_
   refine pu_ 11 18 rs11 HT_ ?_
   refine pu_ 12 19 rs12 HT_ ?_
   refine pv_ 13 20 rs13 HT_ ?_
   refine done_ (done_of HT_.out (by kernel_rfl)) ?_
   try go_wp2
   go_meet
   case rel => exact ⟨_, (true), zz3, H', ⟨by first | omega | exact Nat.le_refl _⟩, ⟨kb BK504.out⟩, ⟨kb BK505.out⟩, ⟨bs HB.out⟩⟩
  rw [if_pos c6] at H
  have c6b0 : ((l0_0.length : Int) == (l1_0.length : Int)) = true := beq_iff_eq.mpr c6
  have c6b1 : ((l0_0.length : Int) != (l1_0.length : Int)) = false := bne_eq_false_iff_eq.mpr c6
  have c6b2 : (l0_0.length == l1_0.length) = true := by first | simpa using c6 | (simp at c6 ⊢; omega)
  clear c6
  (first | rw [c6b0] | (simp only [i64_w, i32_w]; rw [c6b0]) | skip)
  replace H := Option.bind_eq_some_iff.mp H
  obtain ⟨t506, A70, H⟩ := H
  replace H : ((mizmazeref01_Letters.f l1_0).bind fun t507 => (mizmazeref05_Same.j0 k (t506 != t507) l0_0 l1_0)) = some r := H
  have A7 := am A70
  clear A70
  replace H := Option.bind_eq_some_iff.mp H
  obtain ⟨t507, A80, H⟩ := H
  replace H : (mizmazeref05_Same.j0 k (t506 != t507) l0_0 l1_0) = some r := H
  have A8 := am A80
  clear A80
  have H' := am H
  clear H
  try go_wp2
  replace BK504 := am (blk_drew BK504.out)
  replace BK505 := am (blk_drew BK505.out)
  replace HB := am (bd HB.out)
  refine start_ (n := 14) (S := fun w' => w'.cell? ⟨gb504, 0, none⟩ = some (.slice A0_0 l0_0.length c0_0) ∧ w'.cell? ⟨gb505, 0, none⟩ = some (.slice A1_0 l1_0.length c1_0)) (ds := []) #[false, false, false, false, false, false, false, false, false, false, false, false, false, false] (by kernel_rfl) rfl rfl ⟨(blk_cell BK504.out 0).trans rfl, (blk_cell BK505.out 0).trans rfl⟩ (fun hHeld => ?_); refine with_tabW mizmazeref05_Same.tab1 mizmazeref05_Same.bits1 (fun HT_ HW_ => ?_)
  generalize w5.drew = w9 at BK504 BK505 HB hHeld ⊢
  refine pv_ 0 7 rs0 HT_ ?_
  refine pv_ 3 10 rs1 HT_ ?_
  refine tv_ 1 8 rs2 HT_ HW_ hHeld ?_
  refine pv_ 2 9 rs3 HT_ ?_
  refine tv_ 4 11 rs4 HT_ HW_ hHeld ?_
  refine pv_ 5 12 rs5 HT_ ?_
  refine pv_ 6 13 rs6 HT_ ?_
  refine pv_ 7 14 rs7 HT_ ?_
  refine tv_ 8 15 rs8 HT_ HW_ hHeld ?_
  refine tv_ 10 17 rs9 HT_ HW_ hHeld ?_
  refine one_ (i := 9) (N := some 16) rs10 rfl rfl (one_of HT_.out (by kernel_rfl)) (by decide) (fun K hK => ?_)
  refine goes_ Try.func38 (by kernel_rfl) rfl #[.agg #[.slice A0_0 l0_0.length c0_0]] (by rfl) rfl rfl zz1 ?_
  with_reducible refine (mizmazeref01_Letters.calls _ _ l0_0 t506 _ ?side1 ?side2 A7.out).mono ?_
  (case side1 => exact kc (Kd.C_below HR0_0.out HB.out))
  (case side2 => exact HC0_0.out)
  rintro e w10 ⟨rfl, hb⟩
  refine ⟨_, rfl, ?_⟩
  replace BK504 := am (blk_below (g := gb504) (o := .cells #[.slice A0_0 l0_0.length c0_0] 24 (0, 0)) (kb BK504.out) hb)
  replace BK505 := am (blk_below (g := gb505) (o := .cells #[.slice A1_0 l1_0.length c1_0] 24 (0, 0)) (kb BK505.out) hb)
  replace HB := am (below_step (bs HB.out) hb)
  (try clear hb)
  (try clear hb2)
  (try clear hk)
  (try clear hi)
  refine hK.out _ _ ⟨(blk_cell BK504.out 0).trans rfl, (blk_cell BK505.out 0).trans rfl⟩ (fun hHeld => ?_)
  clear hK K
  refine nm_ 16 ?_
  refine one_ (i := 11) (N := some 18) rs11 rfl rfl (one_of HT_.out (by kernel_rfl)) (by decide) (fun K hK => ?_)
  refine goes_ Try.func38 (by kernel_rfl) rfl #[.agg #[.slice A1_0 l1_0.length c1_0]] (by rfl) rfl rfl zz1 ?_
  with_reducible refine (mizmazeref01_Letters.calls _ _ l1_0 t507 _ ?side1 ?side2 A8.out).mono ?_
  (case side1 => exact kc (Kd.C_below HR1_0.out HB.out))
  (case side2 => exact HC1_0.out)
  rintro e w11 ⟨rfl, hb⟩
  refine ⟨_, rfl, ?_⟩
  replace BK504 := am (blk_below (g := gb504) (o := .cells #[.slice A0_0 l0_0.length c0_0] 24 (0, 0)) (kb BK504.out) hb)
  replace BK505 := am (blk_below (g := gb505) (o := .cells #[.slice A1_0 l1_0.length c1_0] 24 (0, 0)) (kb BK505.out) hb)
  replace HB := am (below_step (bs HB.out) hb)
  (try clear hb)
  (try clear hb2)
  (try clear hk)
  (try clear hi)
  refine hK.out _ _ ⟨(blk_cell BK504.out 0).trans rfl, (blk_cell BK505.out 0).trans rfl⟩ (fun hHeld => ?_)
  clear hK K
  refine nm_ 18 ?_
  refine pv_ 12 19 rs12 HT_ ?_
  refine pv_ 13 20 rs13 HT_ ?_
  refine done_ (done_of HT_.out (by kernel_rfl)) ?_
  try go_wp2
  go_meet
  case rel => exact ⟨_, ((t506 != t507)), zz3, H', ⟨by first | omega | exact Nat.le_refl _⟩, ⟨kb BK504.out⟩, ⟨kb BK505.out⟩, ⟨bs HB.out⟩⟩
 case rest =>
  clear HC3
  (try clear c1); (try clear p2); (try clear c3); (try clear c4); (try clear c6); (try clear c6b0); (try clear c6b1); (try clear c6b2)
  obtain ⟨kq, x20_2, rfl, HA, HJ2, BK504, BK505, HB⟩ := hcut
  cases kq with
  | zero => exact absurd HA.out (by simp [mizmazeref05_Same.j0])
  | succ kj2 =>
   have H := HA.out
   clear HA
   simp only [mizmazeref05_Same.j0] at H
   by_cases c13 : x20_2 = true
   ·subst c13
    have H1 : (some false) = some r := by rw [if_pos rfl] at H; exact H
    clear H
    have H := H1
    clear H1
    obtain rfl := Option.some.inj H
    go_wp2
    go_ret
    exact ⟨by first | rfl | (simp [errW_none, errW_some] <;> rfl) | (simp [*, errW_none, errW_some] <;> rfl), bs HB.out⟩
   replace c13 := Bool.eq_false_iff.mpr c13
   subst c13
   have H1 : (mizmazeref05_Same.l0 kj2 0 l0_0 l1_0) = some r := by rw [if_neg (show ¬ (false = true) by decide)] at H; exact H
   clear H
   have H := H1
   clear H1
   have H' := am H
   clear H
   go_wp2
   go_loopg [5] kj2 (fun kq v5 w' => ∃ (x5_2 : Int), v5 = .int .i64 x5_2 ∧ Aside0 (mizmazeref05_Same.l0 kq x5_2 l0_0 l1_0 = some r) ∧ Aside0 (kq ≤ kj2) ∧ Aside0 (w'.heap[gb504]? = some (.cells #[(.slice A0_0 l0_0.length c0_0)] 24 (0, 0))) ∧ Aside0 (w'.heap[gb505]? = some (.cells #[(.slice A1_0 l1_0.length c1_0)] 24 (0, 0))) ∧ Aside0 (Below w.heap.size w w'))
   case atStart => exact ⟨(0), zz3, H', ⟨Nat.le_refl _⟩, ⟨kb BK504.out⟩, ⟨kb BK505.out⟩, ⟨bs HB.out⟩⟩
   case round =>
    clear H'
    (try clear c1); (try clear p2); (try clear c3); (try clear c4); (try clear c6); (try clear c6b0); (try clear c6b1); (try clear c6b2); (try clear c13); (try clear p2)
    obtain ⟨x5_2, rfl, HA, HK2, BK504, BK505, HB⟩ := hrel
    cases gk with
    | zero => exact absurd HA.out (by simp [mizmazeref05_Same.l0])
    | succ k2 =>
     have H := HA.out
     clear HA
     simp only [mizmazeref05_Same.l0] at H
     by_cases c14 : x5_2 < (l0_0.length : Int)
     rotate_left
     ·rw [if_neg c14] at H
      have c14b0 : decide (x5_2 < (l0_0.length : Int)) = false := decide_eq_false c14
      clear c14
      obtain rfl := Option.some.inj H
      have hnb32 := NB504_505.out
      have hnc32 := NB505_504.out
      have hcz33_0 : wr.cell? ⟨gb504, 0, none⟩ = some (.slice A0_0 l0_0.length c0_0) := (blk_cell BK504.out 0).trans rfl
      have hfz33_0 := blk_frozen BK504.out 0
      go_wp2
      go_ret
      exact ⟨by first | rfl | (simp [errW_none, errW_some] <;> rfl) | (simp [*, errW_none, errW_some] <;> rfl), bs HB.out⟩
     rw [if_pos c14] at H
     have c14b0 : decide (x5_2 < (l0_0.length : Int)) = true := decide_eq_true c14
     clear c14
     have H' := am H
     clear H
     have hnb15 := NB504_505.out
     have hnc15 := NB505_504.out
     have hcz16_0 : wr.cell? ⟨gb504, 0, none⟩ = some (.slice A0_0 l0_0.length c0_0) := (blk_cell BK504.out 0).trans rfl
     have hfz16_0 := blk_frozen BK504.out 0
     go_wp2
     go_loopg [6] k2 (fun kq v6 w' => ∃ (x6_3 : Int), v6 = .int .i64 x6_3 ∧ Aside0 (mizmazeref05_Same.l1 kq x5_2 x6_3 l0_0 l1_0 = some r) ∧ Aside0 (kq ≤ k2) ∧ Aside0 (w'.heap[gb504]? = some (.cells #[(.slice A0_0 l0_0.length c0_0)] 24 (0, 0))) ∧ Aside0 (w'.heap[gb505]? = some (.cells #[(.slice A1_0 l1_0.length c1_0)] 24 (0, 0))) ∧ Aside0 (Below w.heap.size w w'))
     case atStart => exact ⟨(0), zz3, H', ⟨Nat.le_refl _⟩, ⟨kb BK504.out⟩, ⟨kb BK505.out⟩, ⟨bs HB.out⟩⟩
     case round =>
      clear H'
      (try clear c1); (try clear p2); (try clear c3); (try clear c4); (try clear c6); (try clear c6b0); (try clear c6b1); (try clear c6b2); (try clear c13); (try clear c14); (try clear c14b0); (try clear c15); (try clear hcz16_0); (try clear hfz16_0); (try clear p2)
      obtain ⟨x6_3, rfl, HA, HK3, BK504, BK505, HB⟩ := hrel
      cases gk with
      | zero => exact absurd HA.out (by simp [mizmazeref05_Same.l1])
      | succ k3 =>
       have H := HA.out
       clear HA
       simp only [mizmazeref05_Same.l1] at H
       by_cases c17 : x6_3 < (l0_0.length : Int)
       rotate_left
       ·rw [if_neg c17] at H
        have c17b0 : decide (x6_3 < (l0_0.length : Int)) = false := decide_eq_false c17
        clear c17
        have H' := am H
        clear H
        have hnb30 := NB504_505.out
        have hnc30 := NB505_504.out
        have hcz31_0 : wr.cell? ⟨gb504, 0, none⟩ = some (.slice A0_0 l0_0.length c0_0) := (blk_cell BK504.out 0).trans rfl
        have hfz31_0 := blk_frozen BK504.out 0
        go_wp2
        go_roundg k3
        case measure => have := HJ2.out; have := HK2.out; have := HK3.out; omega
        case rel => exact ⟨(wrap64 (x5_2 + 1)), zz3, H', ⟨by have := HJ2.out; have := HK2.out; have := HK3.out; omega⟩, ⟨kb BK504.out⟩, ⟨kb BK505.out⟩, ⟨bs HB.out⟩⟩
       rw [if_pos c17] at H
       have c17b0 : decide (x6_3 < (l0_0.length : Int)) = true := decide_eq_true c17
       clear c17
       by_cases c18 : 0 ≤ x5_2
       rotate_left
       ·rw [if_neg c18] at H
        exact absurd H (by simp)
       rw [if_pos c18] at H
       have c18b0 : decide (0 ≤ x5_2) = true := decide_eq_true c18
       clear c18
       by_cases c19 : x5_2 < (l0_0.length : Int)
       rotate_left
       ·rw [if_neg c19] at H
        exact absurd H (by simp)
       rw [if_pos c19] at H
       have c19b0 : decide (x5_2 < (l0_0.length : Int)) = true := decide_eq_true c19
       clear c19
       replace H := Option.bind_eq_some_iff.mp H
       obtain ⟨t509, A200, H⟩ := H
       replace H : (if x5_2 < (l1_0.length : Int) then ((mizmazeref05_Times.f k3 (rd_L1 l1_0 x5_2) x6_3).bind fun t511 => (if t509 = t511 then (mizmazeref05_Same.l1 k3 x5_2 (wrap64 (x6_3 + 1)) l0_0 l1_0) else (some false))) else (none)) = some r := H
       have A20 := am A200
       clear A200
       by_cases c21 : x5_2 < (l1_0.length : Int)
       rotate_left
       ·rw [if_neg c21] at H
        exact absurd H (by simp)
       rw [if_pos c21] at H
       have c21b0 : decide (x5_2 < (l1_0.length : Int)) = true := decide_eq_true c21
       clear c21
       replace H := Option.bind_eq_some_iff.mp H
       obtain ⟨t511, A220, H⟩ := H
       replace H : (if t509 = t511 then (mizmazeref05_Same.l1 k3 x5_2 (wrap64 (x6_3 + 1)) l0_0 l1_0) else (some false)) = some r := H
       have A22 := am A220
       clear A220
       by_cases c23 : t509 = t511
       rotate_left
       ·rw [if_neg c23] at H
        have c23b0 : (t509 == t511) = false := beq_eq_false_iff_ne.mpr c23
        have c23b1 : (t509 != t511) = true := bne_iff_ne.mpr c23
        obtain rfl := Option.some.inj H
        have hnb27 := NB504_505.out
        have hnc27 := NB505_504.out
        have hcz28_0 : wr.cell? ⟨gb504, 0, none⟩ = some (.slice A0_0 l0_0.length c0_0) := (blk_cell BK504.out 0).trans rfl
        have hfz28_0 := blk_frozen BK504.out 0
        try go_wp2
        replace BK504 := am (blk_drew BK504.out)
        replace BK505 := am (blk_drew BK505.out)
        replace HB := am (bd HB.out)
        have p508 : 0 ≤ (x5_2 : Int) := od zz2
        have q508 : x5_2 < (l0_0.length : Int) := od zz2
        obtain ⟨ad508, A508_0, c508_0, e508, hx508_0, hl508_0, hi508_0⟩ := at_L1 HR0_0.out x5_2 p508 q508
        have hw508_0 := hx508_0
        cases e508
        replace hx508_0 := (HB.out.cell (World.block_lt_of_cell? w _ hx508_0)).trans hx508_0
        have HR508_0 := am hi508_0
        have HC508_0 := am hl508_0
        clear hi508_0 hl508_0
        replace p508 := eq_true p508
        replace q508 := eq_true q508
        have p510 : 0 ≤ (x5_2 : Int) := od zz2
        have q510 : x5_2 < (l1_0.length : Int) := od zz2
        obtain ⟨ad510, A510_0, c510_0, e510, hx510_0, hl510_0, hi510_0⟩ := at_L1 HR1_0.out x5_2 p510 q510
        have hw510_0 := hx510_0
        cases e510
        replace hx510_0 := (HB.out.cell (World.block_lt_of_cell? w _ hx510_0)).trans hx510_0
        have HR510_0 := am hi510_0
        have HC510_0 := am hl510_0
        clear hi510_0 hl510_0
        replace p510 := eq_true p510
        replace q510 := eq_true q510
        refine start_ (n := 15) (S := fun w' => w'.cell? ⟨gb504, 0, none⟩ = some (.slice (some ad508) l0_0.length c0_0) ∧ w'.cell? ⟨gb505, 0, none⟩ = some (.slice (some ad510) l1_0.length c1_0) ∧ w'.cell? (ad508.add (x5_2).toNat) = some (.slice A508_0 (rd_L1 l0_0 x5_2).length c508_0) ∧ w'.cell? (ad510.add (x5_2).toNat) = some (.slice A510_0 (rd_L1 l1_0 x5_2).length c510_0)) (ds := []) #[false, false, false, false, false, false, false, false, false, false, false, false, false, false, false] (by kernel_rfl) rfl rfl ⟨(blk_cell BK504.out 0).trans rfl, (blk_cell BK505.out 0).trans rfl, ((HB.out.cell (World.block_lt_of_cell? w _ hw508_0)).trans hw508_0), ((HB.out.cell (World.block_lt_of_cell? w _ hw510_0)).trans hw510_0)⟩ (fun hHeld => ?_); refine with_tabW mizmazeref05_Same.tab9 mizmazeref05_Same.bits9 (fun HT_ HW_ => ?_)
        generalize wr.drew = w29 at BK504 BK505 HB HR508_0 HR510_0 hx508_0 hx510_0 hHeld ⊢
        refine pv_ 0 35 rs15 HT_ ?_
        refine pv_ 2 37 rs16 HT_ ?_
        refine pv_ 5 40 rs17 HT_ ?_
        refine pv_ 7 42 rs18 HT_ ?_
        refine pv_ 9 44 rs19 HT_ ?_
        refine pv_ 12 47 rs20 HT_ ?_
        refine tv_ 1 36 rs21 HT_ HW_ hHeld ?_
        refine pv_ 3 38 rs22 HT_ ?_
        refine tv_ 4 39 rs23 HT_ HW_ hHeld ?_
        refine tv_ 8 43 rs24 HT_ HW_ hHeld ?_
        refine pv_ 10 45 rs25 HT_ ?_
        refine tv_ 11 46 rs26 HT_ HW_ hHeld ?_
        refine one_ (i := 6) (N := some 41) rs27 rfl rfl (one_of HT_.out (by kernel_rfl)) (by decide) (fun K hK => ?_)
        refine goes_ Try.func84 (by kernel_rfl) rfl #[.slice A508_0 (rd_L1 l0_0 x5_2).length c508_0, .int .i64 x6_3] (by rfl) rfl rfl zz1 ?_
        with_reducible refine (mizmazeref05_Times.calls k3 _ _ (rd_L1 l0_0 x5_2) x6_3 t509 _ ?side1 ?side2 A20.out).mono ?_
        (case side1 => exact kc (Kd.C_below HR508_0.out HB.out))
        (case side2 => exact HC508_0.out)
        rintro e w' ⟨rfl, ⟨nd, rfl⟩⟩
        refine ⟨_, rfl, ?_⟩
        refine hK.out _ _ ⟨(blk_cell BK504.out 0).trans rfl, (blk_cell BK505.out 0).trans rfl, ((HB.out.cell (World.block_lt_of_cell? w _ hw508_0)).trans hw508_0), ((HB.out.cell (World.block_lt_of_cell? w _ hw510_0)).trans hw510_0)⟩ (fun hHeld => ?_)
        clear hK K
        refine nm_ 41 ?_
        refine one_ (i := 13) (N := some 48) rs28 rfl rfl (one_of HT_.out (by kernel_rfl)) (by decide) (fun K hK => ?_)
        refine goes_ Try.func84 (by kernel_rfl) rfl #[.slice A510_0 (rd_L1 l1_0 x5_2).length c510_0, .int .i64 x6_3] (by rfl) rfl rfl zz1 ?_
        with_reducible refine (mizmazeref05_Times.calls k3 _ _ (rd_L1 l1_0 x5_2) x6_3 t511 _ ?side1 ?side2 A22.out).mono ?_
        (case side1 => repeat (first | exact (Kd.C_below HR510_0.out (bs HB.out)) | (with_reducible refine Kd.C_alloc ?_ _) | (with_reducible refine Kd.C_drewN ?_ _) | (with_reducible refine Kd.C_drew ?_)))
        (case side2 => exact HC510_0.out)
        rintro e w' ⟨rfl, ⟨nd, rfl⟩⟩
        refine ⟨_, rfl, ?_⟩
        refine hK.out _ _ ⟨(blk_cell BK504.out 0).trans rfl, (blk_cell BK505.out 0).trans rfl, ((HB.out.cell (World.block_lt_of_cell? w _ hw508_0)).trans hw508_0), ((HB.out.cell (World.block_lt_of_cell? w _ hw510_0)).trans hw510_0)⟩ (fun hHeld => ?_)
        clear hK K
        refine nm_ 48 ?_
        refine pv_ 14 49 rs29 HT_ ?_
        refine done_ (done_of HT_.out (by kernel_rfl)) ?_
        try go_wp2
        go_ret
        exact ⟨by first | rfl | (simp [errW_none, errW_some] <;> rfl) | (simp [*, errW_none, errW_some] <;> rfl), bs HB.out⟩
       rw [if_pos c23] at H
       have c23b0 : (t509 == t511) = true := beq_iff_eq.mpr c23
       have c23b1 : (t509 != t511) = false := bne_eq_false_iff_eq.mpr c23
       clear c23
       have H' := am H
       clear H
       have hnb24 := NB504_505.out
       have hnc24 := NB505_504.out
       have hcz25_0 : wr.cell? ⟨gb504, 0, none⟩ = some (.slice A0_0 l0_0.length c0_0) := (blk_cell BK504.out 0).trans rfl
       have hfz25_0 := blk_frozen BK504.out 0
       try go_wp2
       replace BK504 := am (blk_drew BK504.out)
       replace BK505 := am (blk_drew BK505.out)
       replace HB := am (bd HB.out)
       have p508 : 0 ≤ (x5_2 : Int) := od zz2
       have q508 : x5_2 < (l0_0.length : Int) := od zz2
       obtain ⟨ad508, A508_0, c508_0, e508, hx508_0, hl508_0, hi508_0⟩ := at_L1 HR0_0.out x5_2 p508 q508
       have hw508_0 := hx508_0
       cases e508
       replace hx508_0 := (HB.out.cell (World.block_lt_of_cell? w _ hx508_0)).trans hx508_0
       have HR508_0 := am hi508_0
       have HC508_0 := am hl508_0
       clear hi508_0 hl508_0
       replace p508 := eq_true p508
       replace q508 := eq_true q508
       have p510 : 0 ≤ (x5_2 : Int) := od zz2
       have q510 : x5_2 < (l1_0.length : Int) := od zz2
       obtain ⟨ad510, A510_0, c510_0, e510, hx510_0, hl510_0, hi510_0⟩ := at_L1 HR1_0.out x5_2 p510 q510
       have hw510_0 := hx510_0
       cases e510
       replace hx510_0 := (HB.out.cell (World.block_lt_of_cell? w _ hx510_0)).trans hx510_0
       have HR510_0 := am hi510_0
       have HC510_0 := am hl510_0
       clear hi510_0 hl510_0
       replace p510 := eq_true p510
       replace q510 := eq_true q510
       refine start_ (n := 15) (S := fun w' => w'.cell? ⟨gb504, 0, none⟩ = some (.slice (some ad508) l0_0.length c0_0) ∧ w'.cell? ⟨gb505, 0, none⟩ = some (.slice (some ad510) l1_0.length c1_0) ∧ w'.cell? (ad508.add (x5_2).toNat) = some (.slice A508_0 (rd_L1 l0_0 x5_2).length c508_0) ∧ w'.cell? (ad510.add (x5_2).toNat) = some (.slice A510_0 (rd_L1 l1_0 x5_2).length c510_0)) (ds := []) #[false, false, false, false, false, false, false, false, false, false, false, false, false, false, false] (by kernel_rfl) rfl rfl ⟨(blk_cell BK504.out 0).trans rfl, (blk_cell BK505.out 0).trans rfl, ((HB.out.cell (World.block_lt_of_cell? w _ hw508_0)).trans hw508_0), ((HB.out.cell (World.block_lt_of_cell? w _ hw510_0)).trans hw510_0)⟩ (fun hHeld => ?_); refine with_tabW mizmazeref05_Same.tab9 mizmazeref05_Same.bits9 (fun HT_ HW_ => ?_)
       generalize wr.drew = w26 at BK504 BK505 HB HR508_0 HR510_0 hx508_0 hx510_0 hHeld ⊢
       refine pv_ 0 35 rs15 HT_ ?_
       refine pv_ 2 37 rs16 HT_ ?_
       refine pv_ 5 40 rs17 HT_ ?_
       refine pv_ 7 42 rs18 HT_ ?_
       refine pv_ 9 44 rs19 HT_ ?_
       refine pv_ 12 47 rs20 HT_ ?_
       refine tv_ 1 36 rs21 HT_ HW_ hHeld ?_
       refine pv_ 3 38 rs22 HT_ ?_
       refine tv_ 4 39 rs23 HT_ HW_ hHeld ?_
       refine tv_ 8 43 rs24 HT_ HW_ hHeld ?_
       refine pv_ 10 45 rs25 HT_ ?_
       refine tv_ 11 46 rs26 HT_ HW_ hHeld ?_
       refine one_ (i := 6) (N := some 41) rs27 rfl rfl (one_of HT_.out (by kernel_rfl)) (by decide) (fun K hK => ?_)
       refine goes_ Try.func84 (by kernel_rfl) rfl #[.slice A508_0 (rd_L1 l0_0 x5_2).length c508_0, .int .i64 x6_3] (by rfl) rfl rfl zz1 ?_
       with_reducible refine (mizmazeref05_Times.calls k3 _ _ (rd_L1 l0_0 x5_2) x6_3 t509 _ ?side1 ?side2 A20.out).mono ?_
       (case side1 => exact kc (Kd.C_below HR508_0.out HB.out))
       (case side2 => exact HC508_0.out)
       rintro e w' ⟨rfl, ⟨nd, rfl⟩⟩
       refine ⟨_, rfl, ?_⟩
       refine hK.out _ _ ⟨(blk_cell BK504.out 0).trans rfl, (blk_cell BK505.out 0).trans rfl, ((HB.out.cell (World.block_lt_of_cell? w _ hw508_0)).trans hw508_0), ((HB.out.cell (World.block_lt_of_cell? w _ hw510_0)).trans hw510_0)⟩ (fun hHeld => ?_)
       clear hK K
       refine nm_ 41 ?_
       refine one_ (i := 13) (N := some 48) rs28 rfl rfl (one_of HT_.out (by kernel_rfl)) (by decide) (fun K hK => ?_)
       refine goes_ Try.func84 (by kernel_rfl) rfl #[.slice A510_0 (rd_L1 l1_0 x5_2).length c510_0, .int .i64 x6_3] (by rfl) rfl rfl zz1 ?_
       with_reducible refine (mizmazeref05_Times.calls k3 _ _ (rd_L1 l1_0 x5_2) x6_3 t511 _ ?side1 ?side2 A22.out).mono ?_
       (case side1 => repeat (first | exact (Kd.C_below HR510_0.out (bs HB.out)) | (with_reducible refine Kd.C_alloc ?_ _) | (with_reducible refine Kd.C_drewN ?_ _) | (with_reducible refine Kd.C_drew ?_)))
       (case side2 => exact HC510_0.out)
       rintro e w' ⟨rfl, ⟨nd, rfl⟩⟩
       refine ⟨_, rfl, ?_⟩
       refine hK.out _ _ ⟨(blk_cell BK504.out 0).trans rfl, (blk_cell BK505.out 0).trans rfl, ((HB.out.cell (World.block_lt_of_cell? w _ hw508_0)).trans hw508_0), ((HB.out.cell (World.block_lt_of_cell? w _ hw510_0)).trans hw510_0)⟩ (fun hHeld => ?_)
       clear hK K
       refine nm_ 48 ?_
       refine pv_ 14 49 rs29 HT_ ?_
       refine done_ (done_of HT_.out (by kernel_rfl)) ?_
       try go_wp2
       go_roundg k3
       case measure => have := HJ2.out; have := HK2.out; have := HK3.out; omega
       case rel => exact ⟨(wrap64 (x6_3 + 1)), zz3, H', ⟨by have := HJ2.out; have := HK2.out; have := HK3.out; omega⟩, ⟨kb BK504.out⟩, ⟨kb BK505.out⟩, ⟨bs HB.out⟩⟩
end Go.Proofs.Ytjgdalhdiohclaa.Q
end
section
namespace Go.Proofs.Ytjgdalhdiohclaa.Q
attribute [local go_sem] max2_int min2_int max_two min_two max_three min_three max_four min_four
def mizmazeref05_product.l0 : Nat → Int → Int → Int → Option (Int)
 | 0, _, _, _ => none
 | k + 1, x0, x3, x4 => if x4 ≤ x0 then (mizmazeref05_product.l0 k x0 (wrap64 (x3 * x4)) (wrap64 (x4 + 1))) else (some x3)
def mizmazeref05_product.f (k : Nat) (a0 : Int) : Option (Int) := mizmazeref05_product.l0 k a0 1 2
theorem mizmazeref05_product.calls (k : Nat) (a0 : Int) (r : Int) (w : World) (h : mizmazeref05_product.f k a0 = some r) :
  Calls Try.prog 87 #[.int .i64 a0] w fun e w' => e = .returned (.int .i64 r) ∧ Drawn0 w w' := by
 have H : (mizmazeref05_product.l0 k a0 1 2) = some r := h
 clear h
 have H' := am H
 clear H
 go_enter Try.func87, Try.ntmps87
 go_wp2
 go_loopg [3, 4] k (fun kq v3 v4 w' => ∃ (x3_1 : Int) (x4_1 : Int), v3 = .int .i64 x3_1 ∧ v4 = .int .i64 x4_1 ∧ Aside0 (mizmazeref05_product.l0 kq a0 x3_1 x4_1 = some r) ∧ Aside0 (kq ≤ k) ∧ Drawn0 w w')
 case atStart => exact ⟨(1), (2), zz3, zz3, H', ⟨Nat.le_refl _⟩, by repeat (first | exact Drawn0.refl _ | apply Drawn0.step)⟩
 case round =>
  clear H'
  obtain ⟨x3_1, x4_1, rfl, rfl, HA, HK1, ⟨m1, rfl⟩⟩ := hrel
  cases gk with
  | zero => exact absurd HA.out (by simp [mizmazeref05_product.l0])
  | succ k1 =>
   have H := HA.out
   clear HA
   simp only [mizmazeref05_product.l0] at H
   by_cases c2 : x4_1 ≤ a0
   ·rw [if_pos c2] at H
    have c2b0 : decide (x4_1 ≤ a0) = true := decide_eq_true c2
    clear c2
    have H' := am H
    clear H
    go_wp2
    go_roundg k1
    case measure => have := HK1.out; omega
    case rel => exact ⟨(wrap64 (x3_1 * x4_1)), (wrap64 (x4_1 + 1)), zz3, zz3, H', ⟨by have := HK1.out; omega⟩, by repeat (first | exact Drawn0.refl _ | apply Drawn0.step)⟩
   ·rw [if_neg c2] at H
    have c2b0 : decide (x4_1 ≤ a0) = false := decide_eq_false c2
    clear c2
    obtain rfl := Option.some.inj H
    go_wp2
    go_ret
    exact ⟨by first | rfl | (simp; done) | (simp [*]; done), by repeat (first | exact Drawn0.refl _ | apply Drawn0.step)⟩
end Go.Proofs.Ytjgdalhdiohclaa.Q
end
section
namespace Go.Proofs.Ytjgdalhdiohclaa.Q
attribute [local go_sem] max2_int min2_int max_two min_two max_three min_three max_four min_four
mutual
def mizmazeref05_Colorings.l0 : Nat → Int → Int → Int → List (List Int) → Option (Int × Bool)
 | 0, _, _, _, _ => none
 | k + 1, x1, x6, x7, x534000 => if x7 < (x534000.length : Int) then ((mizmazeref01_Letters.f x534000).bind fun t534 => ((mizmazeref05_product.f k t534).bind fun t535 => (mizmazeref05_Colorings.l1 k x1 x6 x7 t535 0 x534000))) else (some (x6, true))
def mizmazeref05_Colorings.l1 : Nat → Int → Int → Int → Int → Int → List (List Int) → Option (Int × Bool)
 | 0, _, _, _, _, _, _ => none
 | k + 1, x1, x6, x7, x8, x9, x534000 => if x9 < (x534000.length : Int) then (if 0 ≤ x7 then (if x7 < (x534000.length : Int) then ((mizmazeref05_Times.f k (rd_L1 x534000 x7) x9).bind fun t537 => ((mizmazeref05_product.f k t537).bind fun t538 => (if t538 = 0 then (none) else (mizmazeref05_Colorings.l1 k x1 x6 x7 (wrap64 (Int.tdiv x8 t538)) (wrap64 (x9 + 1)) x534000)))) else (none)) else (none)) else (if x8 = 0 then (none) else (if x6 > (wrap64 (Int.tdiv x1 x8)) then (some (0, false)) else (mizmazeref05_Colorings.l0 k x1 (wrap64 (x6 * x8)) (wrap64 (x7 + 1)) x534000)))
end
def mizmazeref05_Colorings.f (k : Nat) (l0_0 : List (List Int)) (a1 : Int) : Option (Int × Bool) := mizmazeref05_Colorings.l0 k a1 1 0 l0_0
theorem mizmazeref05_Colorings.calls (k : Nat) (A0_0 : Option Addr) (c0_0 : Nat) (l0_0 : List (List Int)) (a1 : Int) (r1 : Int) (r2 : Bool) (w : World) (hr0_0 : Kd.C (Kd.slice 3 (Kd.int .i64)) w A0_0 l0_0.length l0_0) (hc0_0 : l0_0.length ≤ c0_0) (h : mizmazeref05_Colorings.f k l0_0 a1 = some (r1, r2)) :
  Calls Try.prog 48 #[.agg #[.slice A0_0 l0_0.length c0_0], .int .i64 a1] w fun e w' => e = .returned (.tuple #[.int .i64 r1, .bool r2]) ∧ Below w.heap.size w w' := by
 have hu24 := Try.underlying24
 have HR0_0 := am hr0_0
 have HC0_0 := am hc0_0
 clear hr0_0 hc0_0
 have HB := am (Below.refl w.heap.size w)
 have H : (mizmazeref05_Colorings.l0 k a1 1 0 l0_0) = some (r1, r2) := h
 clear h
 have H' := am H
 clear H
 go_enter Try.func48, Try.ntmps48
 go_wp2_with (first | ((with_reducible refine gate_dst (N := 2) rfl ?_); refine box_event zz5 (N := 2) zz5 (cs := #[.slice A0_0 l0_0.length c0_0]) (t := 24) zz6 ?_; intro gb533 hg w3 hbox hb; have BK533 := am (hbox); have GW533 := am ((by rw [hg]; exact (below_size (bw HB.out)) : w.heap.size ≤ gb533)); have GE533 := am ((by rw [hg]; exact (below_size (bw HB.out)) : w.heap.size ≤ gb533)); replace HB := am (below_step (bw HB.out) hb); clear hb hbox hg))
 go_loopg [6, 7] k (fun kq v6 v7 w' => ∃ (x6_1 : Int) (x7_1 : Int), v6 = .int .i64 x6_1 ∧ v7 = .int .i64 x7_1 ∧ Aside0 (mizmazeref05_Colorings.l0 kq a1 x6_1 x7_1 l0_0 = some (r1, r2)) ∧ Aside0 (kq ≤ k) ∧ Aside0 (w'.heap[gb533]? = some (.cells #[(.slice A0_0 l0_0.length c0_0)] 24 (0, 0))) ∧ Aside0 (Below w.heap.size w w'))
 case atStart => exact ⟨(1), (0), zz3, zz3, H', ⟨Nat.le_refl _⟩, ⟨kb BK533.out⟩, ⟨bs HB.out⟩⟩
 case round =>
  clear H'
  (try clear p2)
  obtain ⟨x6_1, x7_1, rfl, rfl, HA, HK1, BK533, HB⟩ := hrel
  cases gk with
  | zero => exact absurd HA.out (by simp [mizmazeref05_Colorings.l0])
  | succ k1 =>
   have H := HA.out
   clear HA
   simp only [mizmazeref05_Colorings.l0] at H
   by_cases c4 : x7_1 < (l0_0.length : Int)
   ·rw [if_pos c4] at H
    have c4b0 : decide (x7_1 < (l0_0.length : Int)) = true := decide_eq_true c4
    clear c4
    replace H := Option.bind_eq_some_iff.mp H
    obtain ⟨t534, A50, H⟩ := H
    replace H : ((mizmazeref05_product.f k1 t534).bind fun t535 => (mizmazeref05_Colorings.l1 k1 a1 x6_1 x7_1 t535 0 l0_0)) = some (r1, r2) := H
    have A5 := am A50
    clear A50
    replace H := Option.bind_eq_some_iff.mp H
    obtain ⟨t535, A60, H⟩ := H
    replace H : (mizmazeref05_Colorings.l1 k1 a1 x6_1 x7_1 t535 0 l0_0) = some (r1, r2) := H
    have A6 := am A60
    clear A60
    have H' := am H
    clear H
    have hcz7_0 : wr.cell? ⟨gb533, 0, none⟩ = some (.slice A0_0 l0_0.length c0_0) := (blk_cell BK533.out 0).trans rfl
    have hfz7_0 := blk_frozen BK533.out 0
    go_wp2_with (first | ((with_reducible refine gate_callee (f := 38) rfl ?_); refine goesL_ (some 18) rfl rfl Try.func38 (by kernel_rfl) rfl #[.agg #[.slice A0_0 l0_0.length c0_0]] rfl zz1 ?_; (with_reducible refine (mizmazeref01_Letters.calls _ _ l0_0 t534 _ ?side1 ?side2 A5.out).mono ?_); (case side1 => exact kc (Kd.C_below HR0_0.out HB.out)); (case side2 => exact HC0_0.out); rintro e w8 ⟨rfl, hb⟩; refine ⟨_, rfl, ?_⟩; replace BK533 := am (blk_below (g := gb533) (o := .cells #[.slice A0_0 l0_0.length c0_0] 24 (0, 0)) (kb BK533.out) hb); replace HB := am (below_step (bs HB.out) hb); (try clear hb); (try clear hb2); (try clear hk); (try clear hi)) | ((with_reducible refine gate_callee (f := 87) rfl ?_); refine goesL_ (some 19) rfl rfl Try.func87 (by kernel_rfl) rfl #[.int .i64 t534] rfl zz1 ?_; (with_reducible refine (mizmazeref05_product.calls k1 t534 t535 _ A6.out).mono ?_); rintro e w' ⟨rfl, ⟨nd, rfl⟩⟩; refine ⟨_, rfl, ?_⟩))
    go_loopg [8, 9] k1 (fun kq v8 v9 w' => ∃ (x8_2 : Int) (x9_2 : Int), v8 = .int .i64 x8_2 ∧ v9 = .int .i64 x9_2 ∧ Aside0 (mizmazeref05_Colorings.l1 kq a1 x6_1 x7_1 x8_2 x9_2 l0_0 = some (r1, r2)) ∧ Aside0 (kq ≤ k1) ∧ Aside0 (w'.heap[gb533]? = some (.cells #[(.slice A0_0 l0_0.length c0_0)] 24 (0, 0))) ∧ Aside0 (Below w.heap.size w w'))
    case atStart => exact ⟨(t535), (0), zz3, zz3, H', ⟨Nat.le_refl _⟩, ⟨kb BK533.out⟩, ⟨bs HB.out⟩⟩
    case round =>
     clear H'
     (try clear p2); (try clear c3); (try clear c4); (try clear c4b0); (try clear c8); (try clear hcz7_0); (try clear hfz7_0); (try clear p2)
     obtain ⟨x8_2, x9_2, rfl, rfl, HA, HK2, BK533, HB⟩ := hrel
     cases gk with
     | zero => exact absurd HA.out (by simp [mizmazeref05_Colorings.l1])
     | succ k2 =>
      have H := HA.out
      clear HA
      simp only [mizmazeref05_Colorings.l1] at H
      by_cases c9 : x9_2 < (l0_0.length : Int)
      ·rw [if_pos c9] at H
       have c9b0 : decide (x9_2 < (l0_0.length : Int)) = true := decide_eq_true c9
       clear c9
       by_cases c10 : 0 ≤ x7_1
       ·rw [if_pos c10] at H
        have c10b0 : decide (0 ≤ x7_1) = true := decide_eq_true c10
        clear c10
        by_cases c11 : x7_1 < (l0_0.length : Int)
        ·rw [if_pos c11] at H
         have c11b0 : decide (x7_1 < (l0_0.length : Int)) = true := decide_eq_true c11
         clear c11
         replace H := Option.bind_eq_some_iff.mp H
         obtain ⟨t537, A120, H⟩ := H
         replace H : ((mizmazeref05_product.f k2 t537).bind fun t538 => (if t538 = 0 then (none) else (mizmazeref05_Colorings.l1 k2 a1 x6_1 x7_1 (wrap64 (Int.tdiv x8_2 t538)) (wrap64 (x9_2 + 1)) l0_0))) = some (r1, r2) := H
         have A12 := am A120
         clear A120
         replace H := Option.bind_eq_some_iff.mp H
         obtain ⟨t538, A130, H⟩ := H
         replace H : (if t538 = 0 then (none) else (mizmazeref05_Colorings.l1 k2 a1 x6_1 x7_1 (wrap64 (Int.tdiv x8_2 t538)) (wrap64 (x9_2 + 1)) l0_0)) = some (r1, r2) := H
         have A13 := am A130
         clear A130
         by_cases c14 : t538 = 0
         ·rw [if_pos c14] at H
          exact absurd H (by simp)
         ·rw [if_neg c14] at H
          have c14b0 : (t538 == 0) = false := beq_eq_false_iff_ne.mpr c14
          have c14b1 : (t538 != 0) = true := bne_iff_ne.mpr c14
          have H' := am H
          clear H
          have hcz15_0 : wr.cell? ⟨gb533, 0, none⟩ = some (.slice A0_0 l0_0.length c0_0) := (blk_cell BK533.out 0).trans rfl
          have hfz15_0 := blk_frozen BK533.out 0
          have p536 : 0 ≤ (x7_1 : Int) := od zz2
          have q536 : x7_1 < (l0_0.length : Int) := od zz2
          obtain ⟨ad536, A536_0, c536_0, e536, hx536_0, hl536_0, hi536_0⟩ := at_L1 HR0_0.out x7_1 p536 q536
          cases e536
          replace hx536_0 := (HB.out.cell (World.block_lt_of_cell? w _ hx536_0)).trans hx536_0
          have HR536_0 := am hi536_0
          have HC536_0 := am hl536_0
          clear hi536_0 hl536_0
          replace p536 := eq_true p536
          replace q536 := eq_true q536
          go_wp2_with (first | ((with_reducible refine gate_callee (f := 84) rfl ?_); refine goesL_ (some 34) rfl rfl Try.func84 (by kernel_rfl) rfl #[.slice A536_0 (rd_L1 l0_0 x7_1).length c536_0, .int .i64 x9_2] rfl zz1 ?_; (with_reducible refine (mizmazeref05_Times.calls k2 _ _ (rd_L1 l0_0 x7_1) x9_2 t537 _ ?side1 ?side2 A12.out).mono ?_); (case side1 => exact kc (Kd.C_below HR536_0.out HB.out)); (case side2 => exact HC536_0.out); rintro e w' ⟨rfl, ⟨nd, rfl⟩⟩; refine ⟨_, rfl, ?_⟩) | ((with_reducible refine gate_callee (f := 87) rfl ?_); refine goesL_ (some 35) rfl rfl Try.func87 (by kernel_rfl) rfl #[.int .i64 t537] rfl zz1 ?_; (with_reducible refine (mizmazeref05_product.calls k2 t537 t538 _ A13.out).mono ?_); rintro e w' ⟨rfl, ⟨nd, rfl⟩⟩; refine ⟨_, rfl, ?_⟩))
          go_roundg k2
          case measure => have := HK1.out; have := HK2.out; omega
          case rel => exact ⟨(wrap64 (Int.tdiv x8_2 t538)), (wrap64 (x9_2 + 1)), zz3, zz3, H', ⟨by have := HK1.out; have := HK2.out; omega⟩, ⟨kb BK533.out⟩, ⟨bs HB.out⟩⟩
        ·rw [if_neg c11] at H
         exact absurd H (by simp)
       ·rw [if_neg c10] at H
        exact absurd H (by simp)
      ·rw [if_neg c9] at H
       have c9b0 : decide (x9_2 < (l0_0.length : Int)) = false := decide_eq_false c9
       clear c9
       by_cases c16 : x8_2 = 0
       ·rw [if_pos c16] at H
        exact absurd H (by simp)
       ·rw [if_neg c16] at H
        have c16b0 : (x8_2 == 0) = false := beq_eq_false_iff_ne.mpr c16
        have c16b1 : (x8_2 != 0) = true := bne_iff_ne.mpr c16
        by_cases c17 : x6_1 > (wrap64 (Int.tdiv a1 x8_2))
        ·rw [if_pos c17] at H
         have c17b0 : decide ((wrap64 (Int.tdiv a1 x8_2)) < x6_1) = true := decide_eq_true c17
         clear c17
         simp only [Option.some.injEq, Prod.mk.injEq] at H
         obtain ⟨rfl, rfl⟩ := H
         have hcz18_0 : wr.cell? ⟨gb533, 0, none⟩ = some (.slice A0_0 l0_0.length c0_0) := (blk_cell BK533.out 0).trans rfl
         have hfz18_0 := blk_frozen BK533.out 0
         go_wp2
         go_ret2
         exact ⟨by first | rfl | (simp [errW_none, errW_some] <;> rfl) | (simp [*, errW_none, errW_some] <;> rfl), bs HB.out⟩
        ·rw [if_neg c17] at H
         have c17b0 : decide ((wrap64 (Int.tdiv a1 x8_2)) < x6_1) = false := decide_eq_false c17
         clear c17
         have H' := am H
         clear H
         have hcz19_0 : wr.cell? ⟨gb533, 0, none⟩ = some (.slice A0_0 l0_0.length c0_0) := (blk_cell BK533.out 0).trans rfl
         have hfz19_0 := blk_frozen BK533.out 0
         go_wp2
         go_roundg k2
         case measure => have := HK1.out; have := HK2.out; omega
         case rel => exact ⟨(wrap64 (x6_1 * x8_2)), (wrap64 (x7_1 + 1)), zz3, zz3, H', ⟨by have := HK1.out; have := HK2.out; omega⟩, ⟨kb BK533.out⟩, ⟨bs HB.out⟩⟩
   ·rw [if_neg c4] at H
    have c4b0 : decide (x7_1 < (l0_0.length : Int)) = false := decide_eq_false c4
    clear c4
    simp only [Option.some.injEq, Prod.mk.injEq] at H
    obtain ⟨rfl, rfl⟩ := H
    have hcz20_0 : wr.cell? ⟨gb533, 0, none⟩ = some (.slice A0_0 l0_0.length c0_0) := (blk_cell BK533.out 0).trans rfl
    have hfz20_0 := blk_frozen BK533.out 0
    go_wp2
    go_ret2
    exact ⟨by first | rfl | (simp [errW_none, errW_some] <;> rfl) | (simp [*, errW_none, errW_some] <;> rfl), bs HB.out⟩
end Go.Proofs.Ytjgdalhdiohclaa.Q
end
section
namespace Go.Proofs.Ytjgdalhdiohclaa.Q
attribute [local go_sem] max2_int min2_int max_two min_two max_three min_three max_four min_four
def mizmazeref02_Full.l0 : Nat → List Bool → Int → Option (Bool)
 | 0, _, _ => none
 | k + 1, x0, x3 => if x3 < (x0.length : Int) then (if 0 ≤ x3 then (if rdOf false x0 x3 = true then (mizmazeref02_Full.l0 k x0 (wrap64 (x3 + 1))) else (some false)) else (none)) else (some true)
def mizmazeref02_Full.f (k : Nat) (l0 : List Bool) : Option (Bool) := mizmazeref02_Full.l0 k l0 0
theorem mizmazeref02_Full.calls (k : Nat) (A0 : Option Addr) (c0 : Nat) (l0 : List Bool) (r : Bool) (w : World) (hr0 : Kd.C Kd.bool w A0 l0.length l0) (hc0 : l0.length ≤ c0) (h : mizmazeref02_Full.f k l0 = some r) :
  Calls Try.prog 33 #[.slice A0 l0.length c0] w fun e w' => e = .returned (.bool r) ∧ Drawn0 w w' := by
 have HR0 := am hr0
 have HC0 := am hc0
 clear hr0 hc0
 have H : (mizmazeref02_Full.l0 k l0 0) = some r := h
 clear h
 have H' := am H
 clear H
 go_enter Try.func33, Try.ntmps33
 go_wp2
 go_loopg [3] k (fun kq v3 w' => ∃ (x3_1 : Int), v3 = .int .i64 x3_1 ∧ Aside0 (mizmazeref02_Full.l0 kq l0 x3_1 = some r) ∧ Aside0 (kq ≤ k) ∧ Drawn0 w w')
 case atStart => exact ⟨(0), zz3, H', ⟨Nat.le_refl _⟩, by repeat (first | exact Drawn0.refl _ | apply Drawn0.step)⟩
 case round =>
  clear H'
  obtain ⟨x3_1, rfl, HA, HK1, ⟨m1, rfl⟩⟩ := hrel
  cases gk with
  | zero => exact absurd HA.out (by simp [mizmazeref02_Full.l0])
  | succ k1 =>
   have H := HA.out
   clear HA
   simp only [mizmazeref02_Full.l0] at H
   by_cases c2 : x3_1 < (l0.length : Int)
   ·rw [if_pos c2] at H
    have c2b0 : decide (x3_1 < (l0.length : Int)) = true := decide_eq_true c2
    clear c2
    by_cases c3 : 0 ≤ x3_1
    ·rw [if_pos c3] at H
     have c3b0 : decide (0 ≤ x3_1) = true := decide_eq_true c3
     clear c3
     obtain ⟨bq4, hbq4⟩ : ∃ b_ : Bool, b_ = (rdOf false l0 x3_1) := ⟨_, rfl⟩
     replace H : (if bq4 = true then (mizmazeref02_Full.l0 k1 l0 (wrap64 (x3_1 + 1))) else (some false)) = some r := by rw [← hbq4] at H; exact H
     have Nbq4 := am hbq4
     clear hbq4
     by_cases c5 : bq4 = true
     ·subst c5
      have H1 : (mizmazeref02_Full.l0 k1 l0 (wrap64 (x3_1 + 1))) = some r := by rw [if_pos rfl] at H; exact H
      clear H
      have H := H1
      clear H1
      have H' := am H
      clear H
      have p548 : 0 ≤ (x3_1 : Int) := od zz2
      have q548 : x3_1 < (l0.length : Int) := od zz2
      obtain ⟨ad548, e548, hx548_0⟩ := Kd.at_bool HR0.out x3_1 p548 q548
      (try rw [← Nbq4.out] at hx548_0)
      cases e548
      replace p548 := eq_true p548
      replace q548 := eq_true q548
      go_wp2
      go_roundg k1
      case measure => have := HK1.out; omega
      case rel => exact ⟨(wrap64 (x3_1 + 1)), zz3, H', ⟨by have := HK1.out; omega⟩, by repeat (first | exact Drawn0.refl _ | apply Drawn0.step)⟩
     ·replace c5 := Bool.eq_false_iff.mpr c5
      subst c5
      have H1 : (some false) = some r := by rw [if_neg (show ¬ (false = true) by decide)] at H; exact H
      clear H
      have H := H1
      clear H1
      obtain rfl := Option.some.inj H
      have p548 : 0 ≤ (x3_1 : Int) := od zz2
      have q548 : x3_1 < (l0.length : Int) := od zz2
      obtain ⟨ad548, e548, hx548_0⟩ := Kd.at_bool HR0.out x3_1 p548 q548
      (try rw [← Nbq4.out] at hx548_0)
      cases e548
      replace p548 := eq_true p548
      replace q548 := eq_true q548
      go_wp2
      go_ret
      exact ⟨by first | rfl | (simp; done) | (simp [*]; done), by repeat (first | exact Drawn0.refl _ | apply Drawn0.step)⟩
    ·rw [if_neg c3] at H
     exact absurd H (by simp)
   ·rw [if_neg c2] at H
    have c2b0 : decide (x3_1 < (l0.length : Int)) = false := decide_eq_false c2
    clear c2
    obtain rfl := Option.some.inj H
    go_wp2
    go_ret
    exact ⟨by first | rfl | (simp; done) | (simp [*]; done), by repeat (first | exact Drawn0.refl _ | apply Drawn0.step)⟩
end Go.Proofs.Ytjgdalhdiohclaa.Q
end
section
namespace Go.Proofs.Ytjgdalhdiohclaa.Q
attribute [local go_sem] max2_int min2_int max_two min_two max_three min_three max_four min_four
def mizmazeref02_Only.f (l0_0 : List (List Int)) (a1 : Int) : Option (List Bool) := if 0 ≤ (l0_0.length : Int) then (if ((l0_0.length : Int) : Int).toNat ≤ 281474976710656 then ((some (List.replicate ((l0_0.length : Int) : Int).toNat false : List Bool)).bind fun y550 => (if 0 ≤ a1 then (if a1 < (y550.length : Int) then (some (y550.set (a1 : Int).toNat true)) else (none)) else (none))) else (none)) else (none)
theorem mizmazeref02_Only.calls (A0_0 : Option Addr) (c0_0 : Nat) (l0_0 : List (List Int)) (a1 : Int) (r : List Bool) (w : World) (hr0_0 : Kd.C (Kd.slice 3 (Kd.int .i64)) w A0_0 l0_0.length l0_0) (hc0_0 : l0_0.length ≤ c0_0) (h : mizmazeref02_Only.f l0_0 a1 = some r) :
  Calls Try.prog 31 #[.agg #[.slice A0_0 l0_0.length c0_0], .int .i64 a1] w fun e w' => ∃ v0_ : Value, e = .returned (v0_) ∧ Kd.R Kd.bool 4 w' w.heap.size (fun _ => True) v0_ r ∧ Below w.heap.size w w' := by
 have hu24 := Try.underlying24
 have HR0_0 := am hr0_0
 have HC0_0 := am hc0_0
 clear hr0_0 hc0_0
 have HB := am (Below.refl w.heap.size w)
 have H : (if 0 ≤ (l0_0.length : Int) then (if ((l0_0.length : Int) : Int).toNat ≤ 281474976710656 then ((some (List.replicate ((l0_0.length : Int) : Int).toNat false : List Bool)).bind fun y550 => (if 0 ≤ a1 then (if a1 < (y550.length : Int) then (some (y550.set (a1 : Int).toNat true)) else (none)) else (none))) else (none)) else (none)) = some r := h
 clear h
 by_cases c3 : 0 ≤ (l0_0.length : Int)
 ·rw [if_pos c3] at H
  have c3b0 := eq_true c3
  have c3b1 : decide (0 ≤ (l0_0.length : Int)) = true := decide_eq_true c3
  clear c3
  by_cases c4 : ((l0_0.length : Int) : Int).toNat ≤ 281474976710656
  ·rw [if_pos c4] at H
   have c4b0 := eq_true c4
   have c4b1 : decide (((l0_0.length : Int) : Int).toNat ≤ 281474976710656) = true := decide_eq_true c4
   clear c4
   obtain ⟨y550, hy550⟩ : ∃ y_ : List Bool, y_ = (List.replicate ((l0_0.length : Int) : Int).toNat false) := ⟨_, rfl⟩
   replace H : (if 0 ≤ a1 then (if a1 < (y550.length : Int) then (some (y550.set (a1 : Int).toNat true)) else (none)) else (none)) = some r := by first | (rw [hy550]; with_reducible exact H) | (have H2_ := (Option.bind_some _ _).symm.trans H; rw [hy550]; with_reducible exact H2_) | (have H2_ := (Option.bind_some _ _).symm.trans H; with_reducible exact H2_) | with_reducible exact H | (rw [hy550]; exact H) | exact H
   have Ny550 := am hy550
   clear hy550
   by_cases c5 : 0 ≤ a1
   ·rw [if_pos c5] at H
    have c5b0 : decide (0 ≤ a1) = true := decide_eq_true c5
    clear c5
    by_cases c6 : a1 < (y550.length : Int)
    ·rw [if_pos c6] at H
     have c6b0 : decide (a1 < (y550.length : Int)) = true := decide_eq_true c6
     clear c6
     obtain ⟨y553, hy553⟩ : ∃ y_ : List Bool, y_ = (y550.set (a1 : Int).toNat true) := ⟨_, rfl⟩
     replace H : (some y553) = some r := by first | (rw [hy553]; with_reducible exact H) | (have H2_ := (Option.bind_some _ _).symm.trans H; rw [hy553]; with_reducible exact H2_) | (have H2_ := (Option.bind_some _ _).symm.trans H; with_reducible exact H2_) | with_reducible exact H | (rw [hy553]; exact H) | exact H
     have Ny553 := am hy553
     clear hy553
     obtain rfl := Option.some.inj H
     go_enter Try.func31, Try.ntmps31
     go_wp2_with (first | ((with_reducible refine gate_dst (N := 2) rfl ?_); refine box_event zz5 (N := 2) zz5 (cs := #[.slice A0_0 l0_0.length c0_0]) (t := 24) zz6 ?_; intro gb549 hg w8 hbox hb; have BK549 := am (hbox); have GW549 := am ((by rw [hg]; exact (below_size (bw HB.out)) : w.heap.size ≤ gb549)); have GE549 := am ((by rw [hg]; exact (below_size (bw HB.out)) : w.heap.size ≤ gb549)); replace HB := am (below_step (bw HB.out) hb); clear hb hbox hg; have hcz9_0 : w8.cell? ⟨gb549, 0, none⟩ = some (.slice A0_0 l0_0.length c0_0) := (blk_cell BK549.out 0).trans rfl; have hfz9_0 := blk_frozen BK549.out 0) | ((with_reducible refine gate_dst (N := 9) rfl ?_); refine Kd.R_make Kd.bool _ 4 rfl (N := 9) rfl 47 _ _ rfl (l0_0.length : Int) rfl rfl Try.underlying47 (.bool false) 1 info4 rfl (by decide) (by omega) false (ok := fun _ => True) (okp := fun _ => True) rfl (fun _ hk => hk) trivial (od zz2) (Nat.le_trans (Nat.mul_le_mul_right _ (od zz2 : (l0_0.length : Int).toNat ≤ 281474976710656)) (by omega)) (Below.refl _ _) (Nat.le_refl _) ?_; intro v551 w10 ho11 hb hg_ hnew_; clear hg_ hnew_; (first | rw [← Ny550.out] at ho11 | (simp only [Int.reduceToNat] at ho11; rw [← Ny550.out] at ho11)); have HO552 := am (Kd.R_lower ho11 (below_size (bs HB.out))); replace BK549 := am (blk_below (g := gb549) (o := .cells #[.slice A0_0 l0_0.length c0_0] 24 (0, 0)) (kb BK549.out) hb); replace HB := am (below_step (bs HB.out) hb); clear hb ho11; have p7 : 0 ≤ (a1 : Int) := od zz2; have q7 : (a1 : Int) < ((y550.length : Int) : Int) := od zz2; obtain ⟨go7, co7, eo7, gb7, gl7, cl7, HG7⟩ := Kd.R_form HO552.out (by omega); (first | cases eo7 | (injection eo7 with ea_ en_ ec_; (first | subst ea_ | (injection ea_ with ea_; subst ea_)); subst ec_; clear en_)); have GB7 := am gb7; have GG7 := am HG7; clear gb7 gl7 HG7; obtain ⟨hx7_0, hf7_0⟩ := Kd.R_celln false HO552.out (a1 : Int) p7 q7; replace p7 := eq_true p7; replace q7 := eq_true q7; obtain ⟨hy12_, hz12_⟩ := Kd.R_celln false HO552.out (a1 : Int) (od zz2) (od zz2); have HP12 := Kd.R_putg HO552.out (a1 : Int) true) | ((with_reducible refine gate_store (t := 4) (p := 12) rfl ?_); refine store_event (t := 4) (p := 12) (v := ?vo_w13) (w1 := (w10.setCell ⟨go7, (a1 : Int).toNat, none⟩ (.bool true))) zz5 zz5 zz5 zz6 ?_; intro w13 hw; have hg : w10.grownBy w13 (some go7) := (by rw [hw]; exact HP12.2); have hp_ : Kd.R Kd.bool 4 w13 w.heap.size (fun _ => True) (.slice (some ⟨go7, 0, none⟩) y550.length co7) y553 := (by rw [hw, Ny553.out]; exact HP12.1); clear HP12; replace BK549 := am (blk_grown (g := gb549) (o := .cells #[.slice A0_0 l0_0.length c0_0] 24 (0, 0)) (kb BK549.out) hg (Kd.R_ne HO552.out BK549.out (by decide))); replace HO552 := am (hp_); replace HB := am ((by rw [hw]; exact below_set (HB.out) GB7.out : Below w.heap.size w w13)); clear hg hw hp_))
     go_ret
     exact ⟨_, by first | rfl | (simp [errW_none, errW_some] <;> rfl) | (simp [*, errW_none, errW_some] <;> rfl), kR HO552.out, bs HB.out⟩
    ·rw [if_neg c6] at H
     exact absurd H (by simp)
   ·rw [if_neg c5] at H
    exact absurd H (by simp)
  ·rw [if_neg c4] at H
   exact absurd H (by simp)
 ·rw [if_neg c3] at H
  exact absurd H (by simp)
end Go.Proofs.Ytjgdalhdiohclaa.Q
end
section
namespace Go.Proofs.Ytjgdalhdiohclaa.Q
attribute [local go_sem] max2_int min2_int max_two min_two max_three min_three max_four min_four
mutual
def mizmazeref02_Step.l0 : Nat → List Bool → List Bool → Int → List (List Int) → Option (List Bool)
 | 0, _, _, _, _ => none
 | k + 1, x1, x5, x6, x555000 => if x6 < (x1.length : Int) then (mizmazeref02_Step.l1 k x1 x5 x6 0 x555000) else (some x5)
def mizmazeref02_Step.l1 : Nat → List Bool → List Bool → Int → Int → List (List Int) → Option (List Bool)
 | 0, _, _, _, _, _ => none
 | k + 1, x1, x5, x6, x7, x555000 => if 0 ≤ x6 then (if x6 < (x1.length : Int) then (if rdOf false x1 x6 = true then ((mizmazeref01_Letters.f x555000).bind fun t559 => (if x7 < t559 then (if x6 < (x555000.length : Int) then (if 0 ≤ x7 then (if x7 < ((rd_L1 x555000 x6).length : Int) then (if 0 ≤ (rd (rd_L1 x555000 x6) x7) then (if (rd (rd_L1 x555000 x6) x7) < (x5.length : Int) then (mizmazeref02_Step.l1 k x1 (x5.set ((rd (rd_L1 x555000 x6) x7) : Int).toNat true) x6 (wrap64 (x7 + 1)) x555000) else (none)) else (none)) else (none)) else (none)) else (none)) else (mizmazeref02_Step.l0 k x1 x5 (wrap64 (x6 + 1)) x555000))) else (mizmazeref02_Step.l0 k x1 x5 (wrap64 (x6 + 1)) x555000)) else (none)) else (none)
end
def mizmazeref02_Step.f (k : Nat) (l0_0 : List (List Int)) (l1 : List Bool) : Option (List Bool) := if 0 ≤ (l1.length : Int) then (if ((l1.length : Int) : Int).toNat ≤ 281474976710656 then (mizmazeref02_Step.l0 k l1 (List.replicate ((l1.length : Int) : Int).toNat false) 0 l0_0) else (none)) else (none)
theorem mizmazeref02_Step.calls (k : Nat) (A0_0 : Option Addr) (c0_0 : Nat) (l0_0 : List (List Int)) (A1 : Option Addr) (c1 : Nat) (l1 : List Bool) (r : List Bool) (w : World) (hr0_0 : Kd.C (Kd.slice 3 (Kd.int .i64)) w A0_0 l0_0.length l0_0) (hc0_0 : l0_0.length ≤ c0_0) (hr1 : Kd.C Kd.bool w A1 l1.length l1) (hc1 : l1.length ≤ c1) (h : mizmazeref02_Step.f k l0_0 l1 = some r) :
  Calls Try.prog 32 #[.agg #[.slice A0_0 l0_0.length c0_0], .slice A1 l1.length c1] w fun e w' => ∃ v0_ : Value, e = .returned (v0_) ∧ Kd.R Kd.bool 4 w' w.heap.size (fun _ => True) v0_ r ∧ Below w.heap.size w w' := by
 have hu24 := Try.underlying24
 have HR0_0 := am hr0_0
 have HC0_0 := am hc0_0
 clear hr0_0 hc0_0
 have HR1 := am hr1
 have HC1 := am hc1
 clear hr1 hc1
 have HB := am (Below.refl w.heap.size w)
 have H : (if 0 ≤ (l1.length : Int) then (if ((l1.length : Int) : Int).toNat ≤ 281474976710656 then (mizmazeref02_Step.l0 k l1 (List.replicate ((l1.length : Int) : Int).toNat false) 0 l0_0) else (none)) else (none)) = some r := h
 clear h
 by_cases c3 : 0 ≤ (l1.length : Int)
 ·rw [if_pos c3] at H
  have c3b0 := eq_true c3
  have c3b1 : decide (0 ≤ (l1.length : Int)) = true := decide_eq_true c3
  clear c3
  by_cases c4 : ((l1.length : Int) : Int).toNat ≤ 281474976710656
  ·rw [if_pos c4] at H
   have c4b0 := eq_true c4
   have c4b1 : decide (((l1.length : Int) : Int).toNat ≤ 281474976710656) = true := decide_eq_true c4
   clear c4
   obtain ⟨y555, hy555⟩ : ∃ y_ : List Bool, y_ = (List.replicate ((l1.length : Int) : Int).toNat false) := ⟨_, rfl⟩
   replace H : (mizmazeref02_Step.l0 k l1 y555 0 l0_0) = some r := by first | (rw [hy555]; with_reducible exact H) | (have H2_ := (Option.bind_some _ _).symm.trans H; rw [hy555]; with_reducible exact H2_) | (have H2_ := (Option.bind_some _ _).symm.trans H; with_reducible exact H2_) | with_reducible exact H | (rw [hy555]; exact H) | exact H
   have Ny555 := am hy555
   clear hy555
   have H' := am H
   clear H
   go_enter Try.func32, Try.ntmps32
   go_wp2_with (first | ((with_reducible refine gate_dst (N := 2) rfl ?_); refine box_event zz5 (N := 2) zz5 (cs := #[.slice A0_0 l0_0.length c0_0]) (t := 24) zz6 ?_; intro gb554 hg w5 hbox hb; have BK554 := am (hbox); have GW554 := am ((by rw [hg]; exact (below_size (bw HB.out)) : w.heap.size ≤ gb554)); have GE554 := am ((by rw [hg]; exact (below_size (bw HB.out)) : w.heap.size ≤ gb554)); replace HB := am (below_step (bw HB.out) hb); clear hb hbox hg) | ((with_reducible refine gate_dst (N := 10) rfl ?_); refine Kd.R_make Kd.bool _ 4 rfl (N := 10) rfl 47 _ _ rfl (l1.length : Int) rfl rfl Try.underlying47 (.bool false) 1 info4 rfl (by decide) (by omega) false (ok := fun _ => True) (okp := fun _ => True) rfl (fun _ hk => hk) trivial (od zz2) (Nat.le_trans (Nat.mul_le_mul_right _ (od zz2 : (l1.length : Int).toNat ≤ 281474976710656)) (by omega)) (Below.refl _ _) (Nat.le_refl _) ?_; intro v556 w6 ho7 hb hg_ hnew_; clear hg_ hnew_; (first | rw [← Ny555.out] at ho7 | (simp only [Int.reduceToNat] at ho7; rw [← Ny555.out] at ho7)); have HO557 := am (Kd.R_lower ho7 (below_size (bs HB.out))); replace BK554 := am (blk_below (g := gb554) (o := .cells #[.slice A0_0 l0_0.length c0_0] 24 (0, 0)) (kb BK554.out) hb); replace HB := am (below_step (bs HB.out) hb); clear hb ho7))
   go_loopg [6] k (fun kq v6 w' => ∃ (x5_1 : List Bool) (x6_1 : Int), v6 = .int .i64 x6_1 ∧ Aside0 (mizmazeref02_Step.l0 kq l1 x5_1 x6_1 l0_0 = some r) ∧ Aside0 (kq ≤ k) ∧ Aside0 (Kd.R Kd.bool 4 w' w.heap.size (fun _ => True) v556 x5_1) ∧ Aside0 (w'.heap[gb554]? = some (.cells #[(.slice A0_0 l0_0.length c0_0)] 24 (0, 0))) ∧ Aside0 (Below w.heap.size w w'))
   case atStart => exact ⟨(y555), (0), zz3, H', ⟨Nat.le_refl _⟩, ⟨kR HO557.out⟩, ⟨kb BK554.out⟩, ⟨bs HB.out⟩⟩
   case round =>
    clear H'
    (try clear c1); (try clear p2); (try clear c3); (try clear c3b0); (try clear c3b1); (try clear c4); (try clear c4b0); (try clear c4b1)
    obtain ⟨x5_1, x6_1, rfl, HA, HK1, HO_5, BK554, HB⟩ := hrel
    cases gk with
    | zero => exact absurd HA.out (by simp [mizmazeref02_Step.l0])
    | succ k1 =>
     have H := HA.out
     clear HA
     simp only [mizmazeref02_Step.l0] at H
     by_cases c8 : x6_1 < (l1.length : Int)
     ·rw [if_pos c8] at H
      have c8b0 : decide (x6_1 < (l1.length : Int)) = true := decide_eq_true c8
      clear c8
      have H' := am H
      clear H
      go_wp2
      go_loopg [7] k1 (fun kq v7 w' => ∃ (x5_2 : List Bool) (x7_2 : Int), v7 = .int .i64 x7_2 ∧ Aside0 (mizmazeref02_Step.l1 kq l1 x5_2 x6_1 x7_2 l0_0 = some r) ∧ Aside0 (kq ≤ k1) ∧ Aside0 (Kd.R Kd.bool 4 w' w.heap.size (fun _ => True) v556 x5_2) ∧ Aside0 (w'.heap[gb554]? = some (.cells #[(.slice A0_0 l0_0.length c0_0)] 24 (0, 0))) ∧ Aside0 (Below w.heap.size w w'))
      case atStart => exact ⟨(x5_1), (0), zz3, H', ⟨Nat.le_refl _⟩, ⟨kR HO_5.out⟩, ⟨kb BK554.out⟩, ⟨bs HB.out⟩⟩
      case round =>
       clear H'
       (try clear c1); (try clear p2); (try clear c3); (try clear c3b0); (try clear c3b1); (try clear c4); (try clear c4b0); (try clear c4b1); (try clear c8); (try clear c8b0); (try clear p2)
       obtain ⟨x5_2, x7_2, rfl, HA, HK2, HO_5, BK554, HB⟩ := hrel
       cases gk with
       | zero => exact absurd HA.out (by simp [mizmazeref02_Step.l1])
       | succ k2 =>
        have H := HA.out
        clear HA
        simp only [mizmazeref02_Step.l1] at H
        by_cases c9 : 0 ≤ x6_1
        ·rw [if_pos c9] at H
         have c9b0 : decide (0 ≤ x6_1) = true := decide_eq_true c9
         clear c9
         by_cases c10 : x6_1 < (l1.length : Int)
         ·rw [if_pos c10] at H
          have c10b0 : decide (x6_1 < (l1.length : Int)) = true := decide_eq_true c10
          clear c10
          obtain ⟨bq11, hbq11⟩ : ∃ b_ : Bool, b_ = (rdOf false l1 x6_1) := ⟨_, rfl⟩
          replace H : (if bq11 = true then ((mizmazeref01_Letters.f l0_0).bind fun t559 => (if x7_2 < t559 then (if x6_1 < (l0_0.length : Int) then (if 0 ≤ x7_2 then (if x7_2 < ((rd_L1 l0_0 x6_1).length : Int) then (if 0 ≤ (rd (rd_L1 l0_0 x6_1) x7_2) then (if (rd (rd_L1 l0_0 x6_1) x7_2) < (x5_2.length : Int) then (mizmazeref02_Step.l1 k2 l1 (x5_2.set ((rd (rd_L1 l0_0 x6_1) x7_2) : Int).toNat true) x6_1 (wrap64 (x7_2 + 1)) l0_0) else (none)) else (none)) else (none)) else (none)) else (none)) else (mizmazeref02_Step.l0 k2 l1 x5_2 (wrap64 (x6_1 + 1)) l0_0))) else (mizmazeref02_Step.l0 k2 l1 x5_2 (wrap64 (x6_1 + 1)) l0_0)) = some r := by rw [← hbq11] at H; exact H
          have Nbq11 := am hbq11
          clear hbq11
          by_cases c12 : bq11 = true
          ·subst c12
           have H1 : ((mizmazeref01_Letters.f l0_0).bind fun t559 => (if x7_2 < t559 then (if x6_1 < (l0_0.length : Int) then (if 0 ≤ x7_2 then (if x7_2 < ((rd_L1 l0_0 x6_1).length : Int) then (if 0 ≤ (rd (rd_L1 l0_0 x6_1) x7_2) then (if (rd (rd_L1 l0_0 x6_1) x7_2) < (x5_2.length : Int) then (mizmazeref02_Step.l1 k2 l1 (x5_2.set ((rd (rd_L1 l0_0 x6_1) x7_2) : Int).toNat true) x6_1 (wrap64 (x7_2 + 1)) l0_0) else (none)) else (none)) else (none)) else (none)) else (none)) else (mizmazeref02_Step.l0 k2 l1 x5_2 (wrap64 (x6_1 + 1)) l0_0))) = some r := by rw [if_pos rfl] at H; exact H
           clear H
           have H := H1
           clear H1
           replace H := Option.bind_eq_some_iff.mp H
           obtain ⟨t559, A130, H⟩ := H
           replace H : (if x7_2 < t559 then (if x6_1 < (l0_0.length : Int) then (if 0 ≤ x7_2 then (if x7_2 < ((rd_L1 l0_0 x6_1).length : Int) then (if 0 ≤ (rd (rd_L1 l0_0 x6_1) x7_2) then (if (rd (rd_L1 l0_0 x6_1) x7_2) < (x5_2.length : Int) then (mizmazeref02_Step.l1 k2 l1 (x5_2.set ((rd (rd_L1 l0_0 x6_1) x7_2) : Int).toNat true) x6_1 (wrap64 (x7_2 + 1)) l0_0) else (none)) else (none)) else (none)) else (none)) else (none)) else (mizmazeref02_Step.l0 k2 l1 x5_2 (wrap64 (x6_1 + 1)) l0_0)) = some r := H
           have A13 := am A130
           clear A130
           by_cases c14 : x7_2 < t559
           ·rw [if_pos c14] at H
            have c14b0 : decide (x7_2 < t559) = true := decide_eq_true c14
            clear c14
            by_cases c15 : x6_1 < (l0_0.length : Int)
            ·rw [if_pos c15] at H
             have c15b0 : decide (x6_1 < (l0_0.length : Int)) = true := decide_eq_true c15
             clear c15
             by_cases c16 : 0 ≤ x7_2
             ·rw [if_pos c16] at H
              have c16b0 : decide (0 ≤ x7_2) = true := decide_eq_true c16
              clear c16
              by_cases c17 : x7_2 < ((rd_L1 l0_0 x6_1).length : Int)
              ·rw [if_pos c17] at H
               have c17b0 : decide (x7_2 < ((rd_L1 l0_0 x6_1).length : Int)) = true := decide_eq_true c17
               clear c17
               by_cases c18 : 0 ≤ (rd (rd_L1 l0_0 x6_1) x7_2)
               ·rw [if_pos c18] at H
                have c18b0 : decide (0 ≤ (rd (rd_L1 l0_0 x6_1) x7_2)) = true := decide_eq_true c18
                clear c18
                by_cases c19 : (rd (rd_L1 l0_0 x6_1) x7_2) < (x5_2.length : Int)
                ·rw [if_pos c19] at H
                 have c19b0 : decide ((rd (rd_L1 l0_0 x6_1) x7_2) < (x5_2.length : Int)) = true := decide_eq_true c19
                 clear c19
                 obtain ⟨y562, hy562⟩ : ∃ y_ : List Bool, y_ = (x5_2.set ((rd (rd_L1 l0_0 x6_1) x7_2) : Int).toNat true) := ⟨_, rfl⟩
                 replace H : (mizmazeref02_Step.l1 k2 l1 y562 x6_1 (wrap64 (x7_2 + 1)) l0_0) = some r := by first | (rw [hy562]; with_reducible exact H) | (have H2_ := (Option.bind_some _ _).symm.trans H; rw [hy562]; with_reducible exact H2_) | (have H2_ := (Option.bind_some _ _).symm.trans H; with_reducible exact H2_) | with_reducible exact H | (rw [hy562]; exact H) | exact H
                 have Ny562 := am hy562
                 clear hy562
                 have H' := am H
                 clear H
                 have p558 : 0 ≤ (x6_1 : Int) := od zz2
                 have q558 : x6_1 < (l1.length : Int) := od zz2
                 obtain ⟨ad558, e558, hx558_0⟩ := Kd.at_bool HR1.out x6_1 p558 q558
                 (try rw [← Nbq11.out] at hx558_0)
                 cases e558
                 replace hx558_0 := (HB.out.cell (World.block_lt_of_cell? w _ hx558_0)).trans hx558_0
                 replace p558 := eq_true p558
                 replace q558 := eq_true q558
                 have hcz21_0 : wr.cell? ⟨gb554, 0, none⟩ = some (.slice A0_0 l0_0.length c0_0) := (blk_cell BK554.out 0).trans rfl
                 have hfz21_0 := blk_frozen BK554.out 0
                 go_wp2_with (first | (go_at_call 38; (with_reducible refine (mizmazeref01_Letters.calls _ _ l0_0 t559 _ ?side1 ?side2 A13.out).mono ?_); (case side1 => exact kc (Kd.C_below HR0_0.out HB.out)); (case side2 => exact HC0_0.out); rintro e w22 ⟨rfl, hb⟩; replace HO_5 := am (Kd.R_below (kR HO_5.out) hb); replace BK554 := am (blk_below (g := gb554) (o := .cells #[.slice A0_0 l0_0.length c0_0] 24 (0, 0)) (kb BK554.out) hb); replace HB := am (below_step (bs HB.out) hb); (try clear hb); (try clear hb2); (try clear hk); (try clear hi); have hcz23_0 : w22.cell? ⟨gb554, 0, none⟩ = some (.slice A0_0 l0_0.length c0_0) := (blk_cell BK554.out 0).trans rfl; have hfz23_0 := blk_frozen BK554.out 0; have p560 : 0 ≤ (x6_1 : Int) := od zz2; have q560 : x6_1 < (l0_0.length : Int) := od zz2; obtain ⟨ad560, A560_0, c560_0, e560, hx560_0, hl560_0, hi560_0⟩ := at_L1 HR0_0.out x6_1 p560 q560; cases e560; replace hx560_0 := (HB.out.cell (World.block_lt_of_cell? w _ hx560_0)).trans hx560_0; have HR560_0 := am hi560_0; have HC560_0 := am hl560_0; clear hi560_0 hl560_0; replace p560 := eq_true p560; replace q560 := eq_true q560; have p561 : 0 ≤ (x7_2 : Int) := od zz2; have q561 : x7_2 < ((rd_L1 l0_0 x6_1).length : Int) := od zz2; obtain ⟨ad561, e561, hx561_0⟩ := Kd.at_int HR560_0.out x7_2 p561 q561; cases e561; replace hx561_0 := (HB.out.cell (World.block_lt_of_cell? w _ hx561_0)).trans hx561_0; replace p561 := eq_true p561; replace q561 := eq_true q561; have p20 : 0 ≤ ((rd (rd_L1 l0_0 x6_1) x7_2) : Int) := od zz2; have q20 : ((rd (rd_L1 l0_0 x6_1) x7_2) : Int) < ((x5_2.length : Int) : Int) := od zz2; obtain ⟨go20, co20, eo20, gb20, gl20, cl20, HG20⟩ := Kd.R_form HO_5.out (by omega); (first | cases eo20 | (injection eo20 with ea_ en_ ec_; (first | subst ea_ | (injection ea_ with ea_; subst ea_)); subst ec_; clear en_)); have GB20 := am gb20; have GG20 := am HG20; clear gb20 gl20 HG20; obtain ⟨hx20_0, hf20_0⟩ := Kd.R_celln false HO_5.out ((rd (rd_L1 l0_0 x6_1) x7_2) : Int) p20 q20; replace p20 := eq_true p20; replace q20 := eq_true q20; obtain ⟨hy24_, hz24_⟩ := Kd.R_celln false HO_5.out ((rd (rd_L1 l0_0 x6_1) x7_2) : Int) (od zz2) (od zz2); have HP24 := Kd.R_putg HO_5.out ((rd (rd_L1 l0_0 x6_1) x7_2) : Int) true) | ((with_reducible refine gate_store (t := 4) (p := 38) rfl ?_); refine store_event (t := 4) (p := 38) (v := ?vo_w25) (w1 := (w22.setCell ⟨go20, ((rd (rd_L1 l0_0 x6_1) x7_2) : Int).toNat, none⟩ (.bool true))) zz5 zz5 zz5 zz6 ?_; intro w25 hw; have hg : w22.grownBy w25 (some go20) := (by rw [hw]; exact HP24.2); have hp_ : Kd.R Kd.bool 4 w25 w.heap.size (fun _ => True) (.slice (some ⟨go20, 0, none⟩) x5_2.length co20) y562 := (by rw [hw, Ny562.out]; exact HP24.1); clear HP24; replace BK554 := am (blk_grown (g := gb554) (o := .cells #[.slice (some ad560) l0_0.length c0_0] 24 (0, 0)) (kb BK554.out) hg (Kd.R_ne HO_5.out BK554.out (by decide))); replace HO_5 := am (hp_); replace HB := am ((by rw [hw]; exact below_set (HB.out) GB20.out : Below w.heap.size w w25)); clear hg hw hp_))
                 go_roundg k2
                 case measure => have := HK1.out; have := HK2.out; omega
                 case rel => exact ⟨(y562), (wrap64 (x7_2 + 1)), zz3, H', ⟨by have := HK1.out; have := HK2.out; omega⟩, ⟨kR HO_5.out⟩, ⟨kb BK554.out⟩, ⟨bs HB.out⟩⟩
                ·rw [if_neg c19] at H
                 exact absurd H (by simp)
               ·rw [if_neg c18] at H
                exact absurd H (by simp)
              ·rw [if_neg c17] at H
               exact absurd H (by simp)
             ·rw [if_neg c16] at H
              exact absurd H (by simp)
            ·rw [if_neg c15] at H
             exact absurd H (by simp)
           ·rw [if_neg c14] at H
            have c14b0 : decide (x7_2 < t559) = false := decide_eq_false c14
            clear c14
            have H' := am H
            clear H
            have p558 : 0 ≤ (x6_1 : Int) := od zz2
            have q558 : x6_1 < (l1.length : Int) := od zz2
            obtain ⟨ad558, e558, hx558_0⟩ := Kd.at_bool HR1.out x6_1 p558 q558
            (try rw [← Nbq11.out] at hx558_0)
            cases e558
            replace hx558_0 := (HB.out.cell (World.block_lt_of_cell? w _ hx558_0)).trans hx558_0
            replace p558 := eq_true p558
            replace q558 := eq_true q558
            have hcz26_0 : wr.cell? ⟨gb554, 0, none⟩ = some (.slice A0_0 l0_0.length c0_0) := (blk_cell BK554.out 0).trans rfl
            have hfz26_0 := blk_frozen BK554.out 0
            go_wp2_with (first | (go_at_call 38; (with_reducible refine (mizmazeref01_Letters.calls _ _ l0_0 t559 _ ?side1 ?side2 A13.out).mono ?_); (case side1 => exact kc (Kd.C_below HR0_0.out HB.out)); (case side2 => exact HC0_0.out); rintro e w27 ⟨rfl, hb⟩; replace HO_5 := am (Kd.R_below (kR HO_5.out) hb); replace BK554 := am (blk_below (g := gb554) (o := .cells #[.slice A0_0 l0_0.length c0_0] 24 (0, 0)) (kb BK554.out) hb); replace HB := am (below_step (bs HB.out) hb); (try clear hb); (try clear hb2); (try clear hk); (try clear hi)))
            go_roundg k2
            case measure => have := HK1.out; have := HK2.out; omega
            case rel => exact ⟨(x5_2), (wrap64 (x6_1 + 1)), zz3, H', ⟨by have := HK1.out; have := HK2.out; omega⟩, ⟨kR HO_5.out⟩, ⟨kb BK554.out⟩, ⟨bs HB.out⟩⟩
          ·replace c12 := Bool.eq_false_iff.mpr c12
           subst c12
           have H1 : (mizmazeref02_Step.l0 k2 l1 x5_2 (wrap64 (x6_1 + 1)) l0_0) = some r := by rw [if_neg (show ¬ (false = true) by decide)] at H; exact H
           clear H
           have H := H1
           clear H1
           have H' := am H
           clear H
           have p558 : 0 ≤ (x6_1 : Int) := od zz2
           have q558 : x6_1 < (l1.length : Int) := od zz2
           obtain ⟨ad558, e558, hx558_0⟩ := Kd.at_bool HR1.out x6_1 p558 q558
           (try rw [← Nbq11.out] at hx558_0)
           cases e558
           replace hx558_0 := (HB.out.cell (World.block_lt_of_cell? w _ hx558_0)).trans hx558_0
           replace p558 := eq_true p558
           replace q558 := eq_true q558
           go_wp2
           go_roundg k2
           case measure => have := HK1.out; have := HK2.out; omega
           case rel => exact ⟨(x5_2), (wrap64 (x6_1 + 1)), zz3, H', ⟨by have := HK1.out; have := HK2.out; omega⟩, ⟨kR HO_5.out⟩, ⟨kb BK554.out⟩, ⟨bs HB.out⟩⟩
         ·rw [if_neg c10] at H
          exact absurd H (by simp)
        ·rw [if_neg c9] at H
         exact absurd H (by simp)
     ·rw [if_neg c8] at H
      have c8b0 : decide (x6_1 < (l1.length : Int)) = false := decide_eq_false c8
      clear c8
      obtain rfl := Option.some.inj H
      go_wp2
      go_ret
      exact ⟨_, by first | rfl | (simp [errW_none, errW_some] <;> rfl) | (simp [*, errW_none, errW_some] <;> rfl), kR HO_5.out, bs HB.out⟩
  ·rw [if_neg c4] at H
   exact absurd H (by simp)
 ·rw [if_neg c3] at H
  exact absurd H (by simp)
end Go.Proofs.Ytjgdalhdiohclaa.Q
end
section
namespace Go.Proofs.Ytjgdalhdiohclaa.Q
attribute [local go_sem] max2_int min2_int max_two min_two max_three min_three max_four min_four
mutual
def mizmazeref02_Reach.l0 : Nat → List Bool → Int → List (List Int) → Option (List Bool)
 | 0, _, _, _ => none
 | k + 1, x5, x6, x564000 => if x6 < (x564000.length : Int) then ((mizmazeref02_Step.f k x564000 x5).bind fun t567 => (mizmazeref02_Reach.l1 k x5 x6 t567 0 x564000)) else (some x5)
def mizmazeref02_Reach.l1 : Nat → List Bool → Int → List Bool → Int → List (List Int) → Option (List Bool)
 | 0, _, _, _, _, _ => none
 | k + 1, x5, x6, x7, x8, x564000 => if x8 < (x5.length : Int) then (if 0 ≤ x8 then (if rdOf false x5 x8 = true then (mizmazeref02_Reach.l1 k (x5.set (x8 : Int).toNat true) x6 x7 (wrap64 (x8 + 1)) x564000) else (if x8 < (x7.length : Int) then (mizmazeref02_Reach.l1 k (x5.set (x8 : Int).toNat (rdOf false x7 x8)) x6 x7 (wrap64 (x8 + 1)) x564000) else (none))) else (none)) else (mizmazeref02_Reach.l0 k x5 (wrap64 (x6 + 1)) x564000)
end
def mizmazeref02_Reach.f (k : Nat) (l0_0 : List (List Int)) (a1 : Int) : Option (List Bool) := (mizmazeref02_Only.f l0_0 a1).bind fun t564 => (mizmazeref02_Reach.l0 k t564 0 l0_0)
theorem mizmazeref02_Reach.calls (k : Nat) (A0_0 : Option Addr) (c0_0 : Nat) (l0_0 : List (List Int)) (a1 : Int) (r : List Bool) (w : World) (hr0_0 : Kd.C (Kd.slice 3 (Kd.int .i64)) w A0_0 l0_0.length l0_0) (hc0_0 : l0_0.length ≤ c0_0) (h : mizmazeref02_Reach.f k l0_0 a1 = some r) :
  Calls Try.prog 67 #[.agg #[.slice A0_0 l0_0.length c0_0], .int .i64 a1] w fun e w' => ∃ v0_ : Value, e = .returned (v0_) ∧ Kd.R Kd.bool 4 w' w.heap.size (fun _ => True) v0_ r ∧ Below w.heap.size w w' := by
 have hu24 := Try.underlying24
 have HR0_0 := am hr0_0
 have HC0_0 := am hc0_0
 clear hr0_0 hc0_0
 have HB := am (Below.refl w.heap.size w)
 have H : ((mizmazeref02_Only.f l0_0 a1).bind fun t564 => (mizmazeref02_Reach.l0 k t564 0 l0_0)) = some r := h
 clear h
 replace H := Option.bind_eq_some_iff.mp H
 obtain ⟨t564, A30, H⟩ := H
 replace H : (mizmazeref02_Reach.l0 k t564 0 l0_0) = some r := H
 have A3 := am A30
 clear A30
 have H' := am H
 clear H
 go_enter Try.func67, Try.ntmps67
 go_wp2_with (first | ((with_reducible refine gate_dst (N := 2) rfl ?_); refine box_event zz5 (N := 2) zz5 (cs := #[.slice A0_0 l0_0.length c0_0]) (t := 24) zz6 ?_; intro gb563 hg w4 hbox hb; have BK563 := am (hbox); have GW563 := am ((by rw [hg]; exact (below_size (bw HB.out)) : w.heap.size ≤ gb563)); have GE563 := am ((by rw [hg]; exact (below_size (bw HB.out)) : w.heap.size ≤ gb563)); replace HB := am (below_step (bw HB.out) hb); clear hb hbox hg; have hcz5_0 : w4.cell? ⟨gb563, 0, none⟩ = some (.slice A0_0 l0_0.length c0_0) := (blk_cell BK563.out 0).trans rfl; have hfz5_0 := blk_frozen BK563.out 0) | ((with_reducible refine gate_callee (f := 31) rfl ?_); refine goesL_ (some 11) rfl rfl Try.func31 (by kernel_rfl) rfl #[.agg #[.slice A0_0 l0_0.length c0_0], .int .i64 a1] rfl zz1 ?_; (with_reducible refine (mizmazeref02_Only.calls _ _ l0_0 a1 t564 _ ?side1 ?side2 A3.out).mono ?_); (case side1 => exact kc (Kd.C_below HR0_0.out HB.out)); (case side2 => exact HC0_0.out); rintro e w6 ⟨v565, rfl, ho0, hb⟩; refine ⟨_, rfl, ?_⟩; have HO566 := am (Kd.R_lower ho0 (below_size (bs HB.out))); replace BK563 := am (blk_below (g := gb563) (o := .cells #[.slice A0_0 l0_0.length c0_0] 24 (0, 0)) (kb BK563.out) hb); replace HB := am (below_step (bs HB.out) hb); (try clear hb); (try clear hb2); (try clear hk); (try clear hi); (try clear ho0)))
 go_loopg [6] k (fun kq v6 w' => ∃ (x5_1 : List Bool) (x6_1 : Int), v6 = .int .i64 x6_1 ∧ Aside0 (mizmazeref02_Reach.l0 kq x5_1 x6_1 l0_0 = some r) ∧ Aside0 (kq ≤ k) ∧ Aside0 (Kd.R Kd.bool 4 w' w.heap.size (fun _ => True) v565 x5_1) ∧ Aside0 (w'.heap[gb563]? = some (.cells #[(.slice A0_0 l0_0.length c0_0)] 24 (0, 0))) ∧ Aside0 (Below w.heap.size w w'))
 case atStart => exact ⟨(t564), (0), zz3, H', ⟨Nat.le_refl _⟩, ⟨kR HO566.out⟩, ⟨kb BK563.out⟩, ⟨bs HB.out⟩⟩
 case round =>
  clear H'
  (try clear p2); (try clear c3); (try clear c6); (try clear hcz5_0); (try clear hfz5_0)
  obtain ⟨x5_1, x6_1, rfl, HA, HK1, HO_5, BK563, HB⟩ := hrel
  cases gk with
  | zero => exact absurd HA.out (by simp [mizmazeref02_Reach.l0])
  | succ k1 =>
   have H := HA.out
   clear HA
   simp only [mizmazeref02_Reach.l0] at H
   by_cases c7 : x6_1 < (l0_0.length : Int)
   ·rw [if_pos c7] at H
    have c7b0 : decide (x6_1 < (l0_0.length : Int)) = true := decide_eq_true c7
    clear c7
    replace H := Option.bind_eq_some_iff.mp H
    obtain ⟨t567, A80, H⟩ := H
    replace H : (mizmazeref02_Reach.l1 k1 x5_1 x6_1 t567 0 l0_0) = some r := H
    have A8 := am A80
    clear A80
    have H' := am H
    clear H
    have hcz9_0 : wr.cell? ⟨gb563, 0, none⟩ = some (.slice A0_0 l0_0.length c0_0) := (blk_cell BK563.out 0).trans rfl
    have hfz9_0 := blk_frozen BK563.out 0
    obtain ⟨Ao10, co10, eo10⟩ := Kd.R_slice HO_5.out
    subst eo10
    go_wp2_with (first | ((with_reducible refine gate_callee (f := 32) rfl ?_); refine goesL_ (some 21) rfl rfl Try.func32 (by kernel_rfl) rfl #[.agg #[.slice A0_0 l0_0.length c0_0], .slice Ao10 x5_1.length co10] rfl zz1 ?_; (with_reducible refine (mizmazeref02_Step.calls k1 _ _ l0_0 _ _ x5_1 t567 _ ?side1 ?side2 ?side3 ?side4 A8.out).mono ?_); (case side1 => exact kc (Kd.C_below HR0_0.out HB.out)); (case side2 => exact HC0_0.out); (case side3 => repeat (first | exact (Kd.R_reads' HO_5.out).2.2 | (with_reducible refine Kd.C_alloc ?_ _) | (with_reducible refine Kd.C_drewN ?_ _) | (with_reducible refine Kd.C_drew ?_))); (case side4 => exact (Kd.R_reads' HO_5.out).2.1); rintro e w11 ⟨v568, rfl, ho0, hb⟩; refine ⟨_, rfl, ?_⟩; have HO569 := am (Kd.R_lower (Kd.R_new' ho0 (Kd.R_lt (kR HO_5.out))) (below_size (bs HB.out))); replace HO_5 := am (Kd.R_elder' (kR HO_5.out) (Kd.R_base ho0) hb); replace BK563 := am (blk_below (g := gb563) (o := .cells #[.slice A0_0 l0_0.length c0_0] 24 (0, 0)) (kb BK563.out) hb); replace HB := am (below_step (bs HB.out) hb); (try clear hb); (try clear hb2); (try clear hk); (try clear hi); (try clear ho0)))
    go_loopg [8] k1 (fun kq v8 w' => ∃ (x5_2 : List Bool) (x8_2 : Int), v8 = .int .i64 x8_2 ∧ Aside0 (mizmazeref02_Reach.l1 kq x5_2 x6_1 t567 x8_2 l0_0 = some r) ∧ Aside0 (kq ≤ k1) ∧ Aside0 (Kd.R Kd.bool 4 w' w.heap.size (fun k_ => some k_ ≠ (v568 : Value).ownBlock) (.slice Ao10 x5_1.length co10) x5_2) ∧ Aside0 (Kd.R Kd.bool 4 w' w.heap.size (fun k_ => some k_ ≠ ((.slice Ao10 x5_1.length co10) : Value).ownBlock) v568 t567) ∧ Aside0 (w'.heap[gb563]? = some (.cells #[(.slice A0_0 l0_0.length c0_0)] 24 (0, 0))) ∧ Aside0 (Below w.heap.size w w'))
    case atStart => exact ⟨(x5_1), (0), zz3, H', ⟨Nat.le_refl _⟩, ⟨kR (Kd.R_mono HO_5.out (fun _ hk => hk.2))⟩, ⟨kR (Kd.R_mono HO569.out (fun _ hk => hk.2))⟩, ⟨kb BK563.out⟩, ⟨bs HB.out⟩⟩
    case round =>
     clear H'
     (try clear p2); (try clear c3); (try clear c6); (try clear c7); (try clear c7b0); (try clear hcz5_0); (try clear hcz9_0); (try clear hfz5_0); (try clear hfz9_0); (try clear p2)
     obtain ⟨x5_2, x8_2, rfl, HA, HK2, HO_5, HO_7, BK563, HB⟩ := hrel
     have hl5_2 := (Kd.R_reads' HO_5.out).1
     rw [hl5_2] at HO_5
     (try simp only [hl5_2])
     (try simp only [hl5_2] at BK563)
     (try simp only [hl5_2] at HO_7)
     cases gk with
     | zero => exact absurd HA.out (by simp [mizmazeref02_Reach.l1])
     | succ k2 =>
      have H := HA.out
      clear HA
      simp only [mizmazeref02_Reach.l1] at H
      by_cases c12 : x8_2 < (x5_2.length : Int)
      ·rw [if_pos c12] at H
       have c12b0 : decide (x8_2 < (x5_2.length : Int)) = true := decide_eq_true c12
       clear c12
       by_cases c13 : 0 ≤ x8_2
       ·rw [if_pos c13] at H
        have c13b0 : decide (0 ≤ x8_2) = true := decide_eq_true c13
        clear c13
        obtain ⟨bq14, hbq14⟩ : ∃ b_ : Bool, b_ = (rdOf false x5_2 x8_2) := ⟨_, rfl⟩
        replace H : (if bq14 = true then (mizmazeref02_Reach.l1 k2 (x5_2.set (x8_2 : Int).toNat true) x6_1 t567 (wrap64 (x8_2 + 1)) l0_0) else (if x8_2 < (t567.length : Int) then (mizmazeref02_Reach.l1 k2 (x5_2.set (x8_2 : Int).toNat (rdOf false t567 x8_2)) x6_1 t567 (wrap64 (x8_2 + 1)) l0_0) else (none))) = some r := by rw [← hbq14] at H; exact H
        have Nbq14 := am hbq14
        clear hbq14
        by_cases c15 : bq14 = true
        ·subst c15
         have H1 : (mizmazeref02_Reach.l1 k2 (x5_2.set (x8_2 : Int).toNat true) x6_1 t567 (wrap64 (x8_2 + 1)) l0_0) = some r := by rw [if_pos rfl] at H; exact H
         clear H
         have H := H1
         clear H1
         obtain ⟨y571, hy571⟩ : ∃ y_ : List Bool, y_ = (x5_2.set (x8_2 : Int).toNat true) := ⟨_, rfl⟩
         replace H : (mizmazeref02_Reach.l1 k2 y571 x6_1 t567 (wrap64 (x8_2 + 1)) l0_0) = some r := by first | (rw [hy571]; with_reducible exact H) | (have H2_ := (Option.bind_some _ _).symm.trans H; rw [hy571]; with_reducible exact H2_) | (have H2_ := (Option.bind_some _ _).symm.trans H; with_reducible exact H2_) | with_reducible exact H | (rw [hy571]; exact H) | exact H
         have Ny571 := am hy571
         clear hy571
         have H' := am H
         clear H
         have p570 : 0 ≤ (x8_2 : Int) := od zz2
         have q570 : x8_2 < (x5_2.length : Int) := od zz2
         obtain ⟨ad570, e570, hx570_0⟩ := Kd.at_bool (Kd.R_reads' HO_5.out).2.2 x8_2 p570 q570
         (try rw [← Nbq14.out] at hx570_0)
         cases e570
         replace p570 := eq_true p570
         replace q570 := eq_true q570
         have p16 : 0 ≤ (x8_2 : Int) := od zz2
         have q16 : (x8_2 : Int) < ((x5_2.length : Int) : Int) := od zz2
         obtain ⟨go16, co16, eo16, gb16, gl16, cl16, HG16⟩ := Kd.R_form HO_5.out (by omega)
         (first | cases eo16 | (injection eo16 with ea_ en_ ec_; (first | subst ea_ | (injection ea_ with ea_; subst ea_)); subst ec_; clear en_))
         have GB16 := am gb16
         have GG16 := am HG16
         clear gb16 gl16 HG16
         (first | simp only [add_plain] at hx570_0 | skip)
         obtain ⟨hx16_0, hf16_0⟩ := Kd.R_celln false HO_5.out (x8_2 : Int) p16 q16
         replace p16 := eq_true p16
         replace q16 := eq_true q16
         have HP17 := Kd.R_putg HO_5.out (x8_2 : Int) true
         go_wp2_with (first | ((with_reducible refine gate_store (t := 4) (p := 40) rfl ?_); refine store_event (t := 4) (p := 40) (v := ?vo_w18) (w1 := (wr.setCell ⟨go16, (x8_2 : Int).toNat, none⟩ (.bool true))) zz5 zz5 zz5 zz6 ?_; intro w18 hw; have hg : wr.grownBy w18 (some go16) := (by rw [hw]; exact HP17.2); have hp_ : Kd.R Kd.bool 4 w18 w.heap.size (fun k_ => some k_ ≠ (v568 : Value).ownBlock) (.slice (some ⟨go16, 0, none⟩) x5_2.length co10) y571 := (by rw [hw, Ny571.out]; exact HP17.1); clear HP17; replace HO_7 := am (Kd.R_after (v := (.slice (some ⟨go16, 0, none⟩) x5_2.length co10)) (v1 := (.slice (some ⟨go16, 0, none⟩) x5_2.length co10)) (ok := (fun _ => True)) (kR (Kd.R_mono HO_7.out (fun _ hk => ⟨trivial, hk⟩))) hg (.inl rfl)); replace BK563 := am (blk_grown (g := gb563) (o := .cells #[.slice A0_0 l0_0.length c0_0] 24 (0, 0)) (kb BK563.out) hg (Kd.R_ne HO_5.out BK563.out (by decide))); replace HO_5 := am (hp_); replace HB := am ((by rw [hw]; exact below_set (HB.out) GB16.out : Below w.heap.size w w18)); clear hg hw hp_))
         (try simp only [← hl5_2])
         go_roundg k2
         case measure => have := HK1.out; have := HK2.out; omega
         case rel => exact ⟨(y571), (wrap64 (x8_2 + 1)), zz3, H', ⟨by have := HK1.out; have := HK2.out; omega⟩, ⟨by (try simp only [hl5_2]); (with_reducible repeat (first | apply Kd.R_alloc | apply Kd.R_drewN | apply Kd.R_drew)); exact HO_5.out⟩, ⟨by (try simp only [hl5_2]); (with_reducible repeat (first | apply Kd.R_alloc | apply Kd.R_drewN | apply Kd.R_drew)); exact Kd.R_mono HO_7.out (fun _ hk => hk.2)⟩, ⟨by (try simp only [hl5_2]); (with_reducible repeat (first | refine blk_drewN ?_ _ | refine blk_drew ?_ | refine blk_alloc ?_ _)); exact BK563.out⟩, ⟨bs HB.out⟩⟩
        ·replace c15 := Bool.eq_false_iff.mpr c15
         subst c15
         have H1 : (if x8_2 < (t567.length : Int) then (mizmazeref02_Reach.l1 k2 (x5_2.set (x8_2 : Int).toNat (rdOf false t567 x8_2)) x6_1 t567 (wrap64 (x8_2 + 1)) l0_0) else (none)) = some r := by rw [if_neg (show ¬ (false = true) by decide)] at H; exact H
         clear H
         have H := H1
         clear H1
         by_cases c19 : x8_2 < (t567.length : Int)
         ·rw [if_pos c19] at H
          have c19b0 : decide (x8_2 < (t567.length : Int)) = true := decide_eq_true c19
          clear c19
          obtain ⟨y573, hy573⟩ : ∃ y_ : List Bool, y_ = (x5_2.set (x8_2 : Int).toNat (rdOf false t567 x8_2)) := ⟨_, rfl⟩
          replace H : (mizmazeref02_Reach.l1 k2 y573 x6_1 t567 (wrap64 (x8_2 + 1)) l0_0) = some r := by first | (rw [hy573]; with_reducible exact H) | (have H2_ := (Option.bind_some _ _).symm.trans H; rw [hy573]; with_reducible exact H2_) | (have H2_ := (Option.bind_some _ _).symm.trans H; with_reducible exact H2_) | with_reducible exact H | (rw [hy573]; exact H) | exact H
          have Ny573 := am hy573
          clear hy573
          have H' := am H
          clear H
          have p570 : 0 ≤ (x8_2 : Int) := od zz2
          have q570 : x8_2 < (x5_2.length : Int) := od zz2
          obtain ⟨ad570, e570, hx570_0⟩ := Kd.at_bool (Kd.R_reads' HO_5.out).2.2 x8_2 p570 q570
          (try rw [← Nbq14.out] at hx570_0)
          cases e570
          replace p570 := eq_true p570
          replace q570 := eq_true q570
          obtain ⟨Ao21, co21, eo21⟩ := Kd.R_slice HO_7.out
          subst eo21
          have p572 : 0 ≤ (x8_2 : Int) := od zz2
          have q572 : x8_2 < (t567.length : Int) := od zz2
          obtain ⟨ad572, e572, hx572_0⟩ := Kd.at_bool (Kd.R_reads' HO_7.out).2.2 x8_2 p572 q572
          (try rw [← Nbq14.out] at hx572_0)
          cases e572
          replace p572 := eq_true p572
          replace q572 := eq_true q572
          have p20 : 0 ≤ (x8_2 : Int) := od zz2
          have q20 : (x8_2 : Int) < ((x5_2.length : Int) : Int) := od zz2
          obtain ⟨go20, co20, eo20, gb20, gl20, cl20, HG20⟩ := Kd.R_form HO_5.out (by omega)
          (first | cases eo20 | (injection eo20 with ea_ en_ ec_; (first | subst ea_ | (injection ea_ with ea_; subst ea_)); subst ec_; clear en_))
          have GB20 := am gb20
          have GG20 := am HG20
          clear gb20 gl20 HG20
          (first | simp only [add_plain] at hx570_0 | skip)
          obtain ⟨hx20_0, hf20_0⟩ := Kd.R_celln false HO_5.out (x8_2 : Int) p20 q20
          replace p20 := eq_true p20
          replace q20 := eq_true q20
          have HP22 := Kd.R_putg HO_5.out (x8_2 : Int) (rdOf false t567 x8_2)
          go_wp2_with (first | ((with_reducible refine gate_store (t := 4) (p := 40) rfl ?_); refine store_event (t := 4) (p := 40) (v := ?vo_w23) (w1 := (wr.setCell ⟨go20, (x8_2 : Int).toNat, none⟩ (.bool (rdOf false t567 x8_2)))) zz5 zz5 zz5 zz6 ?_; intro w23 hw; have hg : wr.grownBy w23 (some go20) := (by rw [hw]; exact HP22.2); have hp_ : Kd.R Kd.bool 4 w23 w.heap.size (fun k_ => some k_ ≠ (.slice (some ad572) t567.length co21 : Value).ownBlock) (.slice (some ⟨go20, 0, none⟩) x5_2.length co10) y573 := (by rw [hw, Ny573.out]; exact HP22.1); clear HP22; replace HO_7 := am (Kd.R_after (v := (.slice (some ⟨go20, 0, none⟩) x5_2.length co10)) (v1 := (.slice (some ⟨go20, 0, none⟩) x5_2.length co10)) (ok := (fun _ => True)) (kR (Kd.R_mono HO_7.out (fun _ hk => ⟨trivial, hk⟩))) hg (.inl rfl)); replace BK563 := am (blk_grown (g := gb563) (o := .cells #[.slice A0_0 l0_0.length c0_0] 24 (0, 0)) (kb BK563.out) hg (Kd.R_ne HO_5.out BK563.out (by decide))); replace HO_5 := am (hp_); replace HB := am ((by rw [hw]; exact below_set (HB.out) GB20.out : Below w.heap.size w w23)); clear hg hw hp_))
          (try simp only [← hl5_2])
          go_roundg k2
          case measure => have := HK1.out; have := HK2.out; omega
          case rel => exact ⟨(y573), (wrap64 (x8_2 + 1)), zz3, H', ⟨by have := HK1.out; have := HK2.out; omega⟩, ⟨by (try simp only [hl5_2]); (with_reducible repeat (first | apply Kd.R_alloc | apply Kd.R_drewN | apply Kd.R_drew)); exact HO_5.out⟩, ⟨by (try simp only [hl5_2]); (with_reducible repeat (first | apply Kd.R_alloc | apply Kd.R_drewN | apply Kd.R_drew)); exact Kd.R_mono HO_7.out (fun _ hk => hk.2)⟩, ⟨by (try simp only [hl5_2]); (with_reducible repeat (first | refine blk_drewN ?_ _ | refine blk_drew ?_ | refine blk_alloc ?_ _)); exact BK563.out⟩, ⟨bs HB.out⟩⟩
         ·rw [if_neg c19] at H
          exact absurd H (by simp)
       ·rw [if_neg c13] at H
        exact absurd H (by simp)
      ·rw [if_neg c12] at H
       have c12b0 : decide (x8_2 < (x5_2.length : Int)) = false := decide_eq_false c12
       clear c12
       have H' := am H
       clear H
       go_wp2
       (try simp only [← hl5_2])
       go_roundg k2
       case measure => have := HK1.out; have := HK2.out; omega
       case rel => exact ⟨(x5_2), (wrap64 (x6_1 + 1)), zz3, H', ⟨by have := HK1.out; have := HK2.out; omega⟩, ⟨by (try simp only [hl5_2]); (with_reducible repeat (first | apply Kd.R_alloc | apply Kd.R_drewN | apply Kd.R_drew)); exact Kd.R_mono HO_5.out (fun _ hk => trivial)⟩, ⟨by (try simp only [hl5_2]); (with_reducible repeat (first | refine blk_drewN ?_ _ | refine blk_drew ?_ | refine blk_alloc ?_ _)); exact BK563.out⟩, ⟨bs HB.out⟩⟩
   ·rw [if_neg c7] at H
    have c7b0 : decide (x6_1 < (l0_0.length : Int)) = false := decide_eq_false c7
    clear c7
    obtain rfl := Option.some.inj H
    have hcz24_0 : wr.cell? ⟨gb563, 0, none⟩ = some (.slice A0_0 l0_0.length c0_0) := (blk_cell BK563.out 0).trans rfl
    have hfz24_0 := blk_frozen BK563.out 0
    go_wp2
    go_ret
    exact ⟨_, by first | rfl | (simp [errW_none, errW_some] <;> rfl) | (simp [*, errW_none, errW_some] <;> rfl), kR HO_5.out, bs HB.out⟩
end Go.Proofs.Ytjgdalhdiohclaa.Q
end
section
namespace Go.Proofs.Ytjgdalhdiohclaa.Q
attribute [local go_sem] max2_int min2_int max_two min_two max_three min_three max_four min_four
def mizmazeref02_Connected.l0 : Nat → Int → List (List Int) → Option (Bool)
 | 0, _, _ => none
 | k + 1, x3, x575000 => if x3 < (x575000.length : Int) then ((mizmazeref02_Reach.f k x575000 x3).bind fun t575 => ((mizmazeref02_Full.f k t575).bind fun t578 => (if t578 = true then (mizmazeref02_Connected.l0 k (wrap64 (x3 + 1)) x575000) else (some false)))) else (some true)
def mizmazeref02_Connected.f (k : Nat) (l0_0 : List (List Int)) : Option (Bool) := mizmazeref02_Connected.l0 k 0 l0_0
theorem mizmazeref02_Connected.calls (k : Nat) (A0_0 : Option Addr) (c0_0 : Nat) (l0_0 : List (List Int)) (r : Bool) (w : World) (hr0_0 : Kd.C (Kd.slice 3 (Kd.int .i64)) w A0_0 l0_0.length l0_0) (hc0_0 : l0_0.length ≤ c0_0) (h : mizmazeref02_Connected.f k l0_0 = some r) :
    Calls Try.prog 20 #[.agg #[.slice A0_0 l0_0.length c0_0]] w fun e w' => e = .returned (.bool r) ∧ Below w.heap.size w w' := by
 have hu24 := Try.underlying24
 have HR0_0 := am hr0_0
 have HC0_0 := am hc0_0
 clear hr0_0 hc0_0
 have HB := am (Below.refl w.heap.size w)
 have H : (mizmazeref02_Connected.l0 k 0 l0_0) = some r := h
 clear h
 have H' := am H
 clear H
 go_enter Try.func20, Try.ntmps20
 go_wp2_with (first | ((with_reducible refine gate_dst (N := 1) rfl ?_); refine box_event zz5 (N := 1) zz5 (cs := #[.slice A0_0 l0_0.length c0_0]) (t := 24) zz6 ?_; intro gb574 hg w2 hbox hb; have BK574 := am (hbox); have GW574 := am ((by rw [hg]; exact (below_size (bw HB.out)) : w.heap.size ≤ gb574)); have GE574 := am ((by rw [hg]; exact (below_size (bw HB.out)) : w.heap.size ≤ gb574)); replace HB := am (below_step (bw HB.out) hb); clear hb hbox hg))
 go_loopg [3] k (fun kq v3 w' => ∃ (x3_1 : Int), v3 = .int .i64 x3_1 ∧ Aside0 (mizmazeref02_Connected.l0 kq x3_1 l0_0 = some r) ∧ Aside0 (kq ≤ k) ∧ Aside0 (w'.heap[gb574]? = some (.cells #[(.slice A0_0 l0_0.length c0_0)] 24 (0, 0))) ∧ Aside0 (Below w.heap.size w w'))
 case atStart => exact ⟨(0), zz3, H', ⟨Nat.le_refl _⟩, ⟨kb BK574.out⟩, ⟨bs HB.out⟩⟩
 case round =>
  clear H'
  (try clear c2); (try clear p2)
  obtain ⟨x3_1, rfl, HA, HK1, BK574, HB⟩ := hrel
  cases gk with
  | zero => exact absurd HA.out (by simp [mizmazeref02_Connected.l0])
  | succ k1 =>
   have H := HA.out
   clear HA
   simp only [mizmazeref02_Connected.l0] at H
   by_cases c3 : x3_1 < (l0_0.length : Int)
   rotate_left
   ·rw [if_neg c3] at H
    have c3b0 : decide (x3_1 < (l0_0.length : Int)) = false := decide_eq_false c3
    clear c3
    obtain rfl := Option.some.inj H
    have hcz13_0 : wr.cell? ⟨gb574, 0, none⟩ = some (.slice A0_0 l0_0.length c0_0) := (blk_cell BK574.out 0).trans rfl
    have hfz13_0 := blk_frozen BK574.out 0
    go_wp2
    go_ret
    exact ⟨by first | rfl | (simp [errW_none, errW_some] <;> rfl) | (simp [*, errW_none, errW_some] <;> rfl), bs HB.out⟩
   rw [if_pos c3] at H
   have c3b0 : decide (x3_1 < (l0_0.length : Int)) = true := decide_eq_true c3
   clear c3
   replace H := Option.bind_eq_some_iff.mp H
   obtain ⟨t575, A40, H⟩ := H
   replace H : ((mizmazeref02_Full.f k1 t575).bind fun t578 => (if t578 = true then (mizmazeref02_Connected.l0 k1 (wrap64 (x3_1 + 1)) l0_0) else (some false))) = some r := H
   have A4 := am A40
   clear A40
   replace H := Option.bind_eq_some_iff.mp H
   obtain ⟨t578, A50, H⟩ := H
   replace H : (if t578 = true then (mizmazeref02_Connected.l0 k1 (wrap64 (x3_1 + 1)) l0_0) else (some false)) = some r := H
   have A5 := am A50
   clear A50
   by_cases c6 : t578 = true
   rotate_left
   ·replace c6 := Bool.eq_false_iff.mpr c6
    subst c6
    have H1 : (some false) = some r := by rw [if_neg (show ¬ (false = true) by decide)] at H; exact H
    clear H
    have H := H1
    clear H1
    obtain rfl := Option.some.inj H
    have hcz10_0 : wr.cell? ⟨gb574, 0, none⟩ = some (.slice A0_0 l0_0.length c0_0) := (blk_cell BK574.out 0).trans rfl
    have hfz10_0 := blk_frozen BK574.out 0
    go_wp2_with (first | ((with_reducible refine gate_callee (f := 67) rfl ?_); refine goesL_ (some 13) rfl rfl Try.func67 (by kernel_rfl) rfl #[.agg #[.slice A0_0 l0_0.length c0_0], .int .i64 x3_1] rfl zz1 ?_; (with_reducible refine (mizmazeref02_Reach.calls k1 _ _ l0_0 x3_1 t575 _ ?side1 ?side2 A4.out).mono ?_); (case side1 => exact kc (Kd.C_below HR0_0.out HB.out)); (case side2 => exact HC0_0.out); rintro e w11 ⟨v576, rfl, ho0, hb⟩; refine ⟨_, rfl, ?_⟩; have HO577 := am (Kd.R_lower ho0 (below_size (bs HB.out))); replace BK574 := am (blk_below (g := gb574) (o := .cells #[.slice A0_0 l0_0.length c0_0] 24 (0, 0)) (kb BK574.out) hb); replace HB := am (below_step (bs HB.out) hb); (try clear hb); (try clear hb2); (try clear hk); (try clear hi); (try clear ho0); obtain ⟨Ao12, co12, eo12⟩ := Kd.R_slice HO577.out; subst eo12) | ((with_reducible refine gate_callee (f := 33) rfl ?_); refine goesL_ (some 14) rfl rfl Try.func33 (by kernel_rfl) rfl #[.slice Ao12 t575.length co12] rfl zz1 ?_; (with_reducible refine (mizmazeref02_Full.calls k1 _ _ t575 false _ ?side1 ?side2 A5.out).mono ?_); (case side1 => repeat (first | exact (Kd.R_reads' HO577.out).2.2 | (with_reducible refine Kd.C_alloc ?_ _) | (with_reducible refine Kd.C_drewN ?_ _) | (with_reducible refine Kd.C_drew ?_))); (case side2 => exact (Kd.R_reads' HO577.out).2.1); rintro e w' ⟨rfl, ⟨nd, rfl⟩⟩; refine ⟨_, rfl, ?_⟩))
    go_ret
    exact ⟨by first | rfl | (simp [errW_none, errW_some] <;> rfl) | (simp [*, errW_none, errW_some] <;> rfl), bs HB.out⟩
   subst c6
   have H1 : (mizmazeref02_Connected.l0 k1 (wrap64 (x3_1 + 1)) l0_0) = some r := by rw [if_pos rfl] at H; exact H
   clear H
   have H := H1
   clear H1
   have H' := am H
   clear H
   have hcz7_0 : wr.cell? ⟨gb574, 0, none⟩ = some (.slice A0_0 l0_0.length c0_0) := (blk_cell BK574.out 0).trans rfl
   have hfz7_0 := blk_frozen BK574.out 0
   go_wp2_with (first | ((with_reducible refine gate_callee (f := 67) rfl ?_); refine goesL_ (some 13) rfl rfl Try.func67 (by kernel_rfl) rfl #[.agg #[.slice A0_0 l0_0.length c0_0], .int .i64 x3_1] rfl zz1 ?_; (with_reducible refine (mizmazeref02_Reach.calls k1 _ _ l0_0 x3_1 t575 _ ?side1 ?side2 A4.out).mono ?_); (case side1 => exact kc (Kd.C_below HR0_0.out HB.out)); (case side2 => exact HC0_0.out); rintro e w8 ⟨v576, rfl, ho0, hb⟩; refine ⟨_, rfl, ?_⟩; have HO577 := am (Kd.R_lower ho0 (below_size (bs HB.out))); replace BK574 := am (blk_below (g := gb574) (o := .cells #[.slice A0_0 l0_0.length c0_0] 24 (0, 0)) (kb BK574.out) hb); replace HB := am (below_step (bs HB.out) hb); (try clear hb); (try clear hb2); (try clear hk); (try clear hi); (try clear ho0); obtain ⟨Ao9, co9, eo9⟩ := Kd.R_slice HO577.out; subst eo9) | ((with_reducible refine gate_callee (f := 33) rfl ?_); refine goesL_ (some 14) rfl rfl Try.func33 (by kernel_rfl) rfl #[.slice Ao9 t575.length co9] rfl zz1 ?_; (with_reducible refine (mizmazeref02_Full.calls k1 _ _ t575 true _ ?side1 ?side2 A5.out).mono ?_); (case side1 => repeat (first | exact (Kd.R_reads' HO577.out).2.2 | (with_reducible refine Kd.C_alloc ?_ _) | (with_reducible refine Kd.C_drewN ?_ _) | (with_reducible refine Kd.C_drew ?_))); (case side2 => exact (Kd.R_reads' HO577.out).2.1); rintro e w' ⟨rfl, ⟨nd, rfl⟩⟩; refine ⟨_, rfl, ?_⟩))
   go_roundg k1
   case measure => have := HK1.out; omega
   case rel => exact ⟨(wrap64 (x3_1 + 1)), zz3, H', ⟨by have := HK1.out; omega⟩, ⟨kb BK574.out⟩, ⟨bs HB.out⟩⟩
end Go.Proofs.Ytjgdalhdiohclaa.Q
end
section
namespace Go.Proofs.Ytjgdalhdiohclaa.Q
attribute [local go_sem] max2_int min2_int max_two min_two max_three min_three max_four min_four
def mizmazeref02_common.f : Nat → Int → Int → Option (Int)
 | 0, _, _ => none
 | k + 1, a0, a1 => if a1 = 0 then (some a0) else ((mizmazeref02_common.f k a1 (Int.tmod a0 a1)).bind fun t579 => (some t579))
theorem mizmazeref02_common.calls (k : Nat) : ∀ (a0 : Int) (a1 : Int) (r : Int) (w : World) (h : mizmazeref02_common.f k a0 a1 = some r),
  Calls Try.prog 72 #[.int .i64 a0, .int .i64 a1] w fun e w' => e = .returned (.int .i64 r) ∧ Drawn0 w w' := by
 induction k using Nat.strongRecOn with
 | _ k ih =>
 intro a0 a1 r w h
 cases k with
 | zero => exact absurd h (by simp [mizmazeref02_common.f])
 | succ k =>
 simp only [mizmazeref02_common.f] at h
 have H : (if a1 = 0 then (some a0) else ((mizmazeref02_common.f k a1 (Int.tmod a0 a1)).bind fun t579 => (some t579))) = some r := h
 clear h
 by_cases c3 : a1 = 0
 ·rw [if_pos c3] at H
  have c3b0 : (a1 == 0) = true := beq_iff_eq.mpr c3
  have c3b1 : (a1 != 0) = false := bne_eq_false_iff_eq.mpr c3
  clear c3
  obtain rfl := Option.some.inj H
  go_enter Try.func72, Try.ntmps72
  go_wp2
  go_ret
  exact ⟨by first | rfl | (simp; done) | (simp [*]; done), by repeat (first | exact Drawn0.refl _ | apply Drawn0.step)⟩
 ·rw [if_neg c3] at H
  have c3b0 : (a1 == 0) = false := beq_eq_false_iff_ne.mpr c3
  have c3b1 : (a1 != 0) = true := bne_iff_ne.mpr c3
  replace H := Option.bind_eq_some_iff.mp H
  obtain ⟨t579, A40, H⟩ := H
  replace H : (some t579) = some r := H
  have A4 := am A40
  clear A40
  obtain rfl := Option.some.inj H
  go_enter Try.func72, Try.ntmps72
  go_wp2_with (first | ((with_reducible refine gate_callee (f := 72) rfl ?_); refine goesL_ (some 12) rfl rfl Try.func72 (by kernel_rfl) rfl #[.int .i64 a1, .int .i64 (Int.tmod a0 a1)] rfl zz1 ?_; (with_reducible refine (ih k (by omega) a1 (Int.tmod a0 a1) t579 _ A4.out).mono ?_); rintro e w' ⟨rfl, ⟨nd, rfl⟩⟩; refine ⟨_, rfl, ?_⟩))
  go_ret
  exact ⟨by first | rfl | (simp; done) | (simp [*]; done), by repeat (first | exact Drawn0.refl _ | apply Drawn0.step)⟩
end Go.Proofs.Ytjgdalhdiohclaa.Q
end
section
namespace Go.Proofs.Ytjgdalhdiohclaa.Q
attribute [local go_sem] max2_int min2_int max_two min_two max_three min_three max_four min_four
def mizmazeref02_Period.l0 : Nat → Int → List Bool → Int → List (List Int) → Option (Int)
 | 0, _, _, _, _ => none
 | k + 1, x3, x4, x5, x581000 => if x5 ≤ (wrap64 (3 * (x581000.length : Int))) then ((mizmazeref02_Step.f k x581000 x4).bind fun t584 => (if 0 < (t584.length : Int) then (if rdOf false t584 0 = true then ((mizmazeref02_common.f k x5 x3).bind fun t588 => (mizmazeref02_Period.l0 k t588 t584 (wrap64 (x5 + 1)) x581000)) else (mizmazeref02_Period.l0 k x3 t584 (wrap64 (x5 + 1)) x581000)) else (none))) else (some x3)
def mizmazeref02_Period.f (k : Nat) (l0_0 : List (List Int)) : Option (Int) := (mizmazeref02_Only.f l0_0 0).bind fun t581 => (mizmazeref02_Period.l0 k 0 t581 1 l0_0)
theorem mizmazeref02_Period.calls (k : Nat) (A0_0 : Option Addr) (c0_0 : Nat) (l0_0 : List (List Int)) (r : Int) (w : World) (hr0_0 : Kd.C (Kd.slice 3 (Kd.int .i64)) w A0_0 l0_0.length l0_0) (hc0_0 : l0_0.length ≤ c0_0) (h : mizmazeref02_Period.f k l0_0 = some r) :
    Calls Try.prog 29 #[.agg #[.slice A0_0 l0_0.length c0_0]] w fun e w' => e = .returned (.int .i64 r) ∧ Below w.heap.size w w' := by
 have hu24 := Try.underlying24
 have HR0_0 := am hr0_0
 have HC0_0 := am hc0_0
 clear hr0_0 hc0_0
 have HB := am (Below.refl w.heap.size w)
 have H : ((mizmazeref02_Only.f l0_0 0).bind fun t581 => (mizmazeref02_Period.l0 k 0 t581 1 l0_0)) = some r := h
 clear h
 replace H := Option.bind_eq_some_iff.mp H
 obtain ⟨t581, A20, H⟩ := H
 replace H : (mizmazeref02_Period.l0 k 0 t581 1 l0_0) = some r := H
 have A2 := am A20
 clear A20
 have H' := am H
 clear H
 go_enter Try.func29, Try.ntmps29
 go_wp2_with (first | ((with_reducible refine gate_dst (N := 1) rfl ?_); refine box_event zz5 (N := 1) zz5 (cs := #[.slice A0_0 l0_0.length c0_0]) (t := 24) zz6 ?_; intro gb580 hg w3 hbox hb; have BK580 := am (hbox); have GW580 := am ((by rw [hg]; exact (below_size (bw HB.out)) : w.heap.size ≤ gb580)); have GE580 := am ((by rw [hg]; exact (below_size (bw HB.out)) : w.heap.size ≤ gb580)); replace HB := am (below_step (bw HB.out) hb); clear hb hbox hg; have hcz4_0 : w3.cell? ⟨gb580, 0, none⟩ = some (.slice A0_0 l0_0.length c0_0) := (blk_cell BK580.out 0).trans rfl; have hfz4_0 := blk_frozen BK580.out 0) | ((with_reducible refine gate_callee (f := 31) rfl ?_); refine goesL_ (some 7) rfl rfl Try.func31 (by kernel_rfl) rfl #[.agg #[.slice A0_0 l0_0.length c0_0], .int .i64 0] rfl zz1 ?_; (with_reducible refine (mizmazeref02_Only.calls _ _ l0_0 0 t581 _ ?side1 ?side2 A2.out).mono ?_); (case side1 => exact kc (Kd.C_below HR0_0.out HB.out)); (case side2 => exact HC0_0.out); rintro e w5 ⟨v582, rfl, ho0, hb⟩; refine ⟨_, rfl, ?_⟩; have HO583 := am (Kd.R_lower ho0 (below_size (bs HB.out))); replace BK580 := am (blk_below (g := gb580) (o := .cells #[.slice A0_0 l0_0.length c0_0] 24 (0, 0)) (kb BK580.out) hb); replace HB := am (below_step (bs HB.out) hb); (try clear hb); (try clear hb2); (try clear hk); (try clear hi); (try clear ho0)))
 go_loopg [3, 4, 5] k (fun kq v3 v4 v5 w' => ∃ (x3_1 : Int) (x4_1 : List Bool) (x5_1 : Int), v3 = .int .i64 x3_1 ∧ v5 = .int .i64 x5_1 ∧ Aside0 (mizmazeref02_Period.l0 kq x3_1 x4_1 x5_1 l0_0 = some r) ∧ Aside0 (kq ≤ k) ∧ Aside0 (Kd.R Kd.bool 4 w' w.heap.size (fun _ => True) v4 x4_1) ∧ Aside0 (w'.heap[gb580]? = some (.cells #[(.slice A0_0 l0_0.length c0_0)] 24 (0, 0))) ∧ Aside0 (Below w.heap.size w w'))
 case atStart => exact ⟨(0), (t581), (1), zz3, zz3, H', ⟨Nat.le_refl _⟩, ⟨kR HO583.out⟩, ⟨kb BK580.out⟩, ⟨bs HB.out⟩⟩
 case round =>
  clear H'
  (try clear c2); (try clear p2); (try clear c3); (try clear hcz4_0); (try clear hfz4_0)
  obtain ⟨x3_1, x4_1, x5_1, rfl, rfl, HA, HK1, HO_4, BK580, HB⟩ := hrel
  cases gk with
  | zero => exact absurd HA.out (by simp [mizmazeref02_Period.l0])
  | succ k1 =>
   have H := HA.out
   clear HA
   simp only [mizmazeref02_Period.l0] at H
   by_cases c6 : x5_1 ≤ (wrap64 (3 * (l0_0.length : Int)))
   rotate_left
   ·rw [if_neg c6] at H
    have c6b0 : decide (x5_1 ≤ (wrap64 (3 * (l0_0.length : Int)))) = false := decide_eq_false c6
    clear c6
    obtain rfl := Option.some.inj H
    have hcz20_0 : wr.cell? ⟨gb580, 0, none⟩ = some (.slice A0_0 l0_0.length c0_0) := (blk_cell BK580.out 0).trans rfl
    have hfz20_0 := blk_frozen BK580.out 0
    go_wp2
    go_ret
    exact ⟨by first | rfl | (simp [errW_none, errW_some] <;> rfl) | (simp [*, errW_none, errW_some] <;> rfl), bs HB.out⟩
   rw [if_pos c6] at H
   have c6b0 : decide (x5_1 ≤ (wrap64 (3 * (l0_0.length : Int)))) = true := decide_eq_true c6
   clear c6
   replace H := Option.bind_eq_some_iff.mp H
   obtain ⟨t584, A70, H⟩ := H
   replace H : (if 0 < (t584.length : Int) then (if rdOf false t584 0 = true then ((mizmazeref02_common.f k1 x5_1 x3_1).bind fun t588 => (mizmazeref02_Period.l0 k1 t588 t584 (wrap64 (x5_1 + 1)) l0_0)) else (mizmazeref02_Period.l0 k1 x3_1 t584 (wrap64 (x5_1 + 1)) l0_0)) else (none)) = some r := H
   have A7 := am A70
   clear A70
   by_cases c8 : 0 < (t584.length : Int)
   rotate_left
   ·rw [if_neg c8] at H
    exact absurd H (by simp)
   rw [if_pos c8] at H
   have c8b0 : decide (0 < (t584.length : Int)) = true := decide_eq_true c8
   have c8b1 : decide (0 < t584.length) = true := decide_eq_true (by omega)
   clear c8
   obtain ⟨bq9, hbq9⟩ : ∃ b_ : Bool, b_ = (rdOf false t584 0) := ⟨_, rfl⟩
   replace H : (if bq9 = true then ((mizmazeref02_common.f k1 x5_1 x3_1).bind fun t588 => (mizmazeref02_Period.l0 k1 t588 t584 (wrap64 (x5_1 + 1)) l0_0)) else (mizmazeref02_Period.l0 k1 x3_1 t584 (wrap64 (x5_1 + 1)) l0_0)) = some r := by rw [← hbq9] at H; exact H
   have Nbq9 := am hbq9
   clear hbq9
   by_cases c10 : bq9 = true
   rotate_left
   ·replace c10 := Bool.eq_false_iff.mpr c10
    subst c10
    have H1 : (mizmazeref02_Period.l0 k1 x3_1 t584 (wrap64 (x5_1 + 1)) l0_0) = some r := by rw [if_neg (show ¬ (false = true) by decide)] at H; exact H
    clear H
    have H := H1
    clear H1
    have H' := am H
    clear H
    have hcz16_0 : wr.cell? ⟨gb580, 0, none⟩ = some (.slice A0_0 l0_0.length c0_0) := (blk_cell BK580.out 0).trans rfl
    have hfz16_0 := blk_frozen BK580.out 0
    obtain ⟨Ao17, co17, eo17⟩ := Kd.R_slice HO_4.out
    subst eo17
    go_wp2_with (first | ((with_reducible refine gate_callee (f := 32) rfl ?_); refine goesL_ (some 18) rfl rfl Try.func32 (by kernel_rfl) rfl #[.agg #[.slice A0_0 l0_0.length c0_0], .slice Ao17 x4_1.length co17] rfl zz1 ?_; (with_reducible refine (mizmazeref02_Step.calls k1 _ _ l0_0 _ _ x4_1 t584 _ ?side1 ?side2 ?side3 ?side4 A7.out).mono ?_); (case side1 => exact kc (Kd.C_below HR0_0.out HB.out)); (case side2 => exact HC0_0.out); (case side3 => repeat (first | exact (Kd.R_reads' HO_4.out).2.2 | (with_reducible refine Kd.C_alloc ?_ _) | (with_reducible refine Kd.C_drewN ?_ _) | (with_reducible refine Kd.C_drew ?_))); (case side4 => exact (Kd.R_reads' HO_4.out).2.1); rintro e w18 ⟨v585, rfl, ho0, hb⟩; refine ⟨_, rfl, ?_⟩; have HO586 := am (Kd.R_lower (Kd.R_new' ho0 (Kd.R_lt (kR HO_4.out))) (below_size (bs HB.out))); replace HO_4 := am (Kd.R_elder' (kR HO_4.out) (Kd.R_base ho0) hb); replace BK580 := am (blk_below (g := gb580) (o := .cells #[.slice A0_0 l0_0.length c0_0] 24 (0, 0)) (kb BK580.out) hb); replace HB := am (below_step (bs HB.out) hb); (try clear hb); (try clear hb2); (try clear hk); (try clear hi); (try clear ho0); obtain ⟨Ao19, co19, eo19⟩ := Kd.R_slice HO586.out; subst eo19; have p587 : 0 ≤ (0 : Int) := (by omega); have q587 : 0 < (t584.length : Int) := od zz2; obtain ⟨ad587, e587, hx587_0⟩ := Kd.at_bool (Kd.R_reads' HO586.out).2.2 0 p587 q587; (try rw [← Nbq9.out] at hx587_0); cases e587; have qi587 : (0 < t584.length) = True := eq_true (by omega); (try rw [show ((0 : Int)).toNat = 0 from rfl] at hx587_0); (try rw [Addr.add_zero'] at hx587_0); replace p587 := eq_true p587; replace q587 := eq_true q587))
    go_roundg k1
    case measure => have := HK1.out; omega
    case rel => exact ⟨(x3_1), (t584), (wrap64 (x5_1 + 1)), zz3, zz3, H', ⟨by have := HK1.out; omega⟩, ⟨kR (Kd.R_mono HO586.out (fun _ hk => trivial))⟩, ⟨kb BK580.out⟩, ⟨bs HB.out⟩⟩
   subst c10
   have H1 : ((mizmazeref02_common.f k1 x5_1 x3_1).bind fun t588 => (mizmazeref02_Period.l0 k1 t588 t584 (wrap64 (x5_1 + 1)) l0_0)) = some r := by rw [if_pos rfl] at H; exact H
   clear H
   have H := H1
   clear H1
   replace H := Option.bind_eq_some_iff.mp H
   obtain ⟨t588, A110, H⟩ := H
   replace H : (mizmazeref02_Period.l0 k1 t588 t584 (wrap64 (x5_1 + 1)) l0_0) = some r := H
   have A11 := am A110
   clear A110
   have H' := am H
   clear H
   have hcz12_0 : wr.cell? ⟨gb580, 0, none⟩ = some (.slice A0_0 l0_0.length c0_0) := (blk_cell BK580.out 0).trans rfl
   have hfz12_0 := blk_frozen BK580.out 0
   obtain ⟨Ao13, co13, eo13⟩ := Kd.R_slice HO_4.out
   subst eo13
   go_wp2_with (first | ((with_reducible refine gate_callee (f := 32) rfl ?_); refine goesL_ (some 18) rfl rfl Try.func32 (by kernel_rfl) rfl #[.agg #[.slice A0_0 l0_0.length c0_0], .slice Ao13 x4_1.length co13] rfl zz1 ?_; (with_reducible refine (mizmazeref02_Step.calls k1 _ _ l0_0 _ _ x4_1 t584 _ ?side1 ?side2 ?side3 ?side4 A7.out).mono ?_); (case side1 => exact kc (Kd.C_below HR0_0.out HB.out)); (case side2 => exact HC0_0.out); (case side3 => repeat (first | exact (Kd.R_reads' HO_4.out).2.2 | (with_reducible refine Kd.C_alloc ?_ _) | (with_reducible refine Kd.C_drewN ?_ _) | (with_reducible refine Kd.C_drew ?_))); (case side4 => exact (Kd.R_reads' HO_4.out).2.1); rintro e w14 ⟨v585, rfl, ho0, hb⟩; refine ⟨_, rfl, ?_⟩; have HO586 := am (Kd.R_lower (Kd.R_new' ho0 (Kd.R_lt (kR HO_4.out))) (below_size (bs HB.out))); replace HO_4 := am (Kd.R_elder' (kR HO_4.out) (Kd.R_base ho0) hb); replace BK580 := am (blk_below (g := gb580) (o := .cells #[.slice A0_0 l0_0.length c0_0] 24 (0, 0)) (kb BK580.out) hb); replace HB := am (below_step (bs HB.out) hb); (try clear hb); (try clear hb2); (try clear hk); (try clear hi); (try clear ho0); obtain ⟨Ao15, co15, eo15⟩ := Kd.R_slice HO586.out; subst eo15; have p587 : 0 ≤ (0 : Int) := (by omega); have q587 : 0 < (t584.length : Int) := od zz2; obtain ⟨ad587, e587, hx587_0⟩ := Kd.at_bool (Kd.R_reads' HO586.out).2.2 0 p587 q587; (try rw [← Nbq9.out] at hx587_0); cases e587; have qi587 : (0 < t584.length) = True := eq_true (by omega); (try rw [show ((0 : Int)).toNat = 0 from rfl] at hx587_0); (try rw [Addr.add_zero'] at hx587_0); replace p587 := eq_true p587; replace q587 := eq_true q587) | ((with_reducible refine gate_callee (f := 72) rfl ?_); refine goesL_ (some 24) rfl rfl Try.func72 (by kernel_rfl) rfl #[.int .i64 x5_1, .int .i64 x3_1] rfl zz1 ?_; (with_reducible refine (mizmazeref02_common.calls k1 x5_1 x3_1 t588 _ A11.out).mono ?_); rintro e w' ⟨rfl, ⟨nd, rfl⟩⟩; refine ⟨_, rfl, ?_⟩))
   go_roundg k1
   case measure => have := HK1.out; omega
   case rel => exact ⟨(t588), (t584), (wrap64 (x5_1 + 1)), zz3, zz3, H', ⟨by have := HK1.out; omega⟩, ⟨kR (Kd.R_mono HO586.out (fun _ hk => trivial))⟩, ⟨kb BK580.out⟩, ⟨bs HB.out⟩⟩
end Go.Proofs.Ytjgdalhdiohclaa.Q
end
section
namespace Go.Proofs.Ytjgdalhdiohclaa.Q
attribute [local go_sem] max2_int min2_int max_two min_two max_three min_three max_four min_four
def mizmazeref03_Most.f (a0 : Int) : Option (Int) := some (wrap64 (Int.tdiv (wrap64 ((wrap64 ((wrap64 (a0 * a0)) * a0)) - a0)) 6))
theorem mizmazeref03_Most.calls (a0 : Int) (r : Int) (w : World) (h : mizmazeref03_Most.f a0 = some r) :
  Calls Try.prog 51 #[.int .i64 a0] w fun e w' => e = .returned (.int .i64 r) ∧ Drawn0 w w' := by
 have H : (some (wrap64 (Int.tdiv (wrap64 ((wrap64 ((wrap64 (a0 * a0)) * a0)) - a0)) 6))) = some r := h
 clear h
 obtain rfl := Option.some.inj H
 go_enter Try.func51, Try.ntmps51
 go_wp2
 go_ret
 exact ⟨by first | rfl | (simp; done) | (simp [*]; done), by repeat (first | exact Drawn0.refl _ | apply Drawn0.step)⟩
end Go.Proofs.Ytjgdalhdiohclaa.Q
end
section
namespace Go.Proofs.Ytjgdalhdiohclaa.Q
attribute [local go_sem] max2_int min2_int max_two min_two max_three min_three max_four min_four
end Go.Proofs.Ytjgdalhdiohclaa.Q
end
section
namespace Go.Proofs.Ytjgdalhdiohclaa.Q
attribute [local go_sem] max2_int min2_int max_two min_two max_three min_three max_four min_four
end Go.Proofs.Ytjgdalhdiohclaa.Q
end
section
namespace Go.Proofs.Ytjgdalhdiohclaa.Q
attribute [local go_sem] max2_int min2_int max_two min_two max_three min_three max_four min_four
end Go.Proofs.Ytjgdalhdiohclaa.Q
end
