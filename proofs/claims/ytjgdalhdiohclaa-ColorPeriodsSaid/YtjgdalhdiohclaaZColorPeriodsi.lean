/- In any colouring of a strongly connected automaton of period d, any word leads from all states to at least d states; if d is greater than 1 there is no reset word, and Road returns ErrNone. (text 9 of 31) -/
import Derived.Test.YtjgdalhdiohclaaZColorPeriodsh
open Go.RowKit Go.Proofs.YtjgdalhdiohclaaW.PrintWords Go.Proofs.YtjgdalhdiohclaaW.PrintLast Go.Proofs.YtjgdalhdiohclaaW.PrintMore
/-! Part QNetCommon -/
section
namespace Go.Proofs.Ytjgdalhdiohclaa.Q
attribute [local go_sem] max2_int min2_int max_two min_two max_three min_three max_four min_four
set_option linter.unusedVariables false
set_option linter.unusedSimpArgs false
def net_common.l0 : Nat → Int → Int → Option (Int)
 | 0, _, _ => none
 | k + 1, x0, x1 => if x1 > 0 then (if x1 = 0 then (none) else (net_common.l0 k x1 (Int.tmod x0 x1))) else (some x0)
def net_common.f (k : Nat) (a0 : Int) (a1 : Int) : Option (Int) := net_common.l0 k a0 a1
theorem net_common.mono_l : ∀ k, (∀ y0 y1, LeO (net_common.l0 k y0 y1) (net_common.l0 (k + 1) y0 y1))
 | 0 => fun _ _ r h => by simp [net_common.l0] at h
 | k + 1 => by
  have ih0 := net_common.mono_l k
  ·intro y0 y1
   unfold net_common.l0
   repeat' first
   | (with_reducible exact ih0 _ _)
   | (with_reducible exact LeO.refl _)
   | (with_reducible exact LeO.none _)
   | (with_reducible refine LeO.ite ?_ ?_)
   | (with_reducible refine LeO.bind ?_ (fun _ => ?_))
   | exact ih0 _ _
   | exact LeO.none _
   | refine LeO.ite ?_ ?_
   | refine LeO.bind ?_ (fun _ => ?_)
theorem net_common.mono : ∀ a0 a1 k, LeO (net_common.f k a0 a1) (net_common.f (k + 1) a0 a1) := by
 intro a0 a1 k
 have ih0 := net_common.mono_l k
 unfold net_common.f
 repeat' first
   | (with_reducible exact ih0 _ _)
   | (with_reducible exact LeO.refl _)
   | (with_reducible exact LeO.none _)
   | (with_reducible refine LeO.ite ?_ ?_)
   | (with_reducible refine LeO.bind ?_ (fun _ => ?_))
   | exact ih0 _ _
   | exact LeO.none _
   | refine LeO.ite ?_ ?_
   | refine LeO.bind ?_ (fun _ => ?_)
set_option maxHeartbeats 8000000 in
set_option maxRecDepth 100000 in
theorem net_common.calls (k : Nat) (a0 : Int) (a1 : Int) (r : Int) (w : World) (h : net_common.f k a0 a1 = some r) :
  Calls Try.prog 104 #[.int .i64 a0, .int .i64 a1] w fun e w' => e = .returned (.int .i64 r) ∧ Drawn0 w w' := by
 have H : (net_common.l0 k a0 a1) = some r := h
 clear h
 have H' := am H
 clear H
 go_enter Try.func104, Try.ntmps104
 go_wp2
 repeat (go_quiet (fail); try go_wp2)
 go_loopg [0, 1] k (fun kq v0 v1 w' => ∃ (x0_1 : Int) (x1_1 : Int), v0 = .int .i64 x0_1 ∧ v1 = .int .i64 x1_1 ∧ Aside0 (net_common.l0 kq x0_1 x1_1 = some r) ∧ Aside0 (kq ≤ k) ∧ Drawn0 w w')
 case atStart => exact ⟨(a0), (a1), zz3, zz3, H', ⟨Nat.le_refl _⟩, by repeat (first | exact Drawn0.refl _ | apply Drawn0.step)⟩
 case round =>
  clear H'
  try clear c1
  try clear p2
  obtain ⟨x0_1, x1_1, rfl, rfl, HA, HK1, ⟨m1, rfl⟩⟩ := hrel
  cases gk with
  | zero => exact absurd HA.out (by simp [net_common.l0])
  | succ k1 =>
   have H := HA.out
   clear HA
   simp only [net_common.l0] at H
   by_cases c3 : x1_1 > 0
   ·rw [if_pos c3] at H
    have c3b0 : decide (0 < x1_1) = true := decide_eq_true c3
    clear c3
    by_cases c4 : x1_1 = 0
    ·rw [if_pos c4] at H
     exact absurd H (by simp)
    ·rw [if_neg c4] at H
     have c4b0 : (x1_1 == 0) = false := beq_eq_false_iff_ne.mpr c4
     have c4b1 : (x1_1 != 0) = true := bne_iff_ne.mpr c4
     have H' := am H
     clear H
     go_wp2
     repeat (go_quiet (fail); try go_wp2)
     go_roundg k1
     case measure => have := HK1.out; omega
     case rel => exact ⟨(x1_1), (Int.tmod x0_1 x1_1), zz3, zz3, H', ⟨by have := HK1.out; omega⟩, by repeat (first | exact Drawn0.refl _ | apply Drawn0.step)⟩
   ·rw [if_neg c3] at H
    have c3b0 : decide (0 < x1_1) = false := decide_eq_false c3
    clear c3
    obtain rfl := Option.some.inj H
    go_wp2
    repeat (go_quiet (fail); try go_wp2)
    go_ret
    exact ⟨by first | rfl | (simp; done) | (simp [*]; done), by repeat (first | exact Drawn0.refl _ | apply Drawn0.step)⟩
end Go.Proofs.Ytjgdalhdiohclaa.Q
end
/-! Part QNetPeriod -/
section
namespace Go.Proofs.Ytjgdalhdiohclaa.Q
attribute [local go_sem] max2_int min2_int max_two min_two max_three min_three max_four min_four
set_option linter.unusedVariables false
set_option linter.unusedSimpArgs false
mutual
def net_period.l0 : Nat → List Int → Int → List (List Int) → Int → Int → Option (Int)
 | 0, _, _, _, _, _ => none
 | k + 1, x3, x4, x13, x14, x15 => if x15 < x14 then (if 0 ≤ x15 then (if x15 < (x13.length : Int) then (net_period.l1 k x3 x4 x15 x13 x14 x15 (rd_L1 x13 x15) ((rd_L1 x13 x15).length : Int) 0) else (none)) else (none)) else (some x4)
def net_period.l1 : Nat → List Int → Int → Int → List (List Int) → Int → Int → List Int → Int → Int → Option (Int)
 | 0, _, _, _, _, _, _, _, _, _ => none
 | k + 1, x3, x4, x5, x13, x14, x15, x20, x21, x22 => if x22 < x21 then (if 0 ≤ x22 then (if x22 < (x20.length : Int) then (if 0 ≤ x5 then (if x5 < (x3.length : Int) then (if 0 ≤ (rd x20 x22) then (if (rd x20 x22) < (x3.length : Int) then ((net_common.f k x4 (mx (wrap64 ((wrap64 ((rd x3 x5) + 1)) - (rd x3 (rd x20 x22)))) (wrap64 (-(wrap64 ((wrap64 ((rd x3 x5) + 1)) - (rd x3 (rd x20 x22)))))))).bind fun t350 => (net_period.l1 k x3 t350 x5 x13 x14 x15 x20 x21 (wrap64 (x22 + 1)))) else (none)) else (none)) else (none)) else (none)) else (none)) else (none)) else (net_period.l0 k x3 x4 x13 x14 (wrap64 (x15 + 1)))
end
def net_period.f (k : Nat) (l0_0 : List (List Int)) : Option (Int) := (net_lengths.f k l0_0).bind fun t343 => (net_period.l0 k t343 0 l0_0 (l0_0.length : Int) 0)
theorem net_period.mono_l : ∀ k, (∀ y0 y1 y2 y3 y4, LeO (net_period.l0 k y0 y1 y2 y3 y4) (net_period.l0 (k + 1) y0 y1 y2 y3 y4)) ∧ (∀ y0 y1 y2 y3 y4 y5 y6 y7 y8, LeO (net_period.l1 k y0 y1 y2 y3 y4 y5 y6 y7 y8) (net_period.l1 (k + 1) y0 y1 y2 y3 y4 y5 y6 y7 y8))
 | 0 => ⟨fun _ _ _ _ _ r h => by simp [net_period.l0] at h, fun _ _ _ _ _ _ _ _ _ r h => by simp [net_period.l1] at h⟩
 | k + 1 => by
  obtain ⟨ih0, ih1⟩ := net_period.mono_l k
  refine ⟨?_, ?_⟩
  ·intro y0 y1 y2 y3 y4
   unfold net_period.l0
   repeat' first
   | (with_reducible exact ih0 _ _ _ _ _)
   | (with_reducible exact ih1 _ _ _ _ _ _ _ _ _)
   | (with_reducible exact net_common.mono _ _ _)
   | (with_reducible exact net_lengths.mono _ _)
   | (with_reducible exact LeO.refl _)
   | (with_reducible exact LeO.none _)
   | (with_reducible refine LeO.ite ?_ ?_)
   | (with_reducible refine LeO.bind ?_ (fun _ => ?_))
   | exact ih0 _ _ _ _ _
   | exact ih1 _ _ _ _ _ _ _ _ _
   | exact net_common.mono _ _ _
   | exact net_lengths.mono _ _
   | exact LeO.none _
   | refine LeO.ite ?_ ?_
   | refine LeO.bind ?_ (fun _ => ?_)
  ·intro y0 y1 y2 y3 y4 y5 y6 y7 y8
   unfold net_period.l1
   repeat' first
   | (with_reducible exact ih0 _ _ _ _ _)
   | (with_reducible exact ih1 _ _ _ _ _ _ _ _ _)
   | (with_reducible exact net_common.mono _ _ _)
   | (with_reducible exact net_lengths.mono _ _)
   | (with_reducible exact LeO.refl _)
   | (with_reducible exact LeO.none _)
   | (with_reducible refine LeO.ite ?_ ?_)
   | (with_reducible refine LeO.bind ?_ (fun _ => ?_))
   | exact ih0 _ _ _ _ _
   | exact ih1 _ _ _ _ _ _ _ _ _
   | exact net_common.mono _ _ _
   | exact net_lengths.mono _ _
   | exact LeO.none _
   | refine LeO.ite ?_ ?_
   | refine LeO.bind ?_ (fun _ => ?_)
theorem net_period.mono : ∀ a0 k, LeO (net_period.f k a0) (net_period.f (k + 1) a0) := by
 intro a0 k
 obtain ⟨ih0, ih1⟩ := net_period.mono_l k
 unfold net_period.f
 repeat' first
   | (with_reducible exact ih0 _ _ _ _ _)
   | (with_reducible exact ih1 _ _ _ _ _ _ _ _ _)
   | (with_reducible exact net_common.mono _ _ _)
   | (with_reducible exact net_lengths.mono _ _)
   | (with_reducible exact LeO.refl _)
   | (with_reducible exact LeO.none _)
   | (with_reducible refine LeO.ite ?_ ?_)
   | (with_reducible refine LeO.bind ?_ (fun _ => ?_))
   | exact ih0 _ _ _ _ _
   | exact ih1 _ _ _ _ _ _ _ _ _
   | exact net_common.mono _ _ _
   | exact net_lengths.mono _ _
   | exact LeO.none _
   | refine LeO.ite ?_ ?_
   | refine LeO.bind ?_ (fun _ => ?_)
set_option maxHeartbeats 8000000 in
set_option maxRecDepth 100000 in
theorem net_period.calls (k : Nat) (A0_0 : Option Addr) (c0_0 : Nat) (l0_0 : List (List Int)) (r : Int) (w : World) (hr0_0 : Kd.C (Kd.slice 3 (Kd.int .i64)) w A0_0 l0_0.length l0_0) (hc0_0 : l0_0.length ≤ c0_0) (h : net_period.f k l0_0 = some r) :
    Calls Try.prog 70 #[.agg #[.slice A0_0 l0_0.length c0_0]] w fun e w' => e = .returned (.int .i64 r) ∧ Below w.heap.size w w' := by
 have hu24 := Try.underlying24
 have HR0_0 := am hr0_0
 have HC0_0 := am hc0_0
 clear hr0_0 hc0_0
 have HB := am (Below.refl w.heap.size w)
 have H : ((net_lengths.f k l0_0).bind fun t343 => (net_period.l0 k t343 0 l0_0 (l0_0.length : Int) 0)) = some r := h
 clear h
 replace H := Option.bind_eq_some_iff.mp H
 obtain ⟨t343, A20, H⟩ := H
 replace H : (net_period.l0 k t343 0 l0_0 (l0_0.length : Int) 0) = some r := H
 have A2 := am A20
 clear A20
 have H' := am H
 clear H
 go_enter Try.func70, Try.ntmps70
 go_wp2_with (first | ((with_reducible refine gate_dst (N := 1) rfl ?_); refine box_event ?hg (N := 1) ?hd (cs := #[.slice A0_0 l0_0.length c0_0]) (t := 24) ?hr ?_; (case hd => rfl); (case hg => rfl); (case hr => first | (go_simp; done) | (go_simp; rfl)); intro gb342 hg w3 hbox hb; have BK342 := am (hbox); have GW342 := am ((by rw [hg]; exact (below_size (bw HB.out)) : w.heap.size ≤ gb342)); have GE342 := am ((by rw [hg]; exact (below_size (bw HB.out)) : w.heap.size ≤ gb342)); replace HB := am (below_step (bw HB.out) hb); clear hb hbox hg; have hcz4_0 : w3.cell? ⟨gb342, 0, none⟩ = some (.slice A0_0 l0_0.length c0_0) := (blk_cell BK342.out 0).trans rfl; have hfz4_0 := blk_frozen BK342.out 0) | (go_at_call 71; (with_reducible refine (net_lengths.calls k _ _ l0_0 t343 _ ?side1 ?side2 A2.out).mono ?_); (case side1 => exact kc (Kd.C_below HR0_0.out HB.out)); (case side2 => exact HC0_0.out); rintro e w5 ⟨v344, rfl, ho0, hb⟩; have HO345 := am (Kd.R_lower ho0 (below_size (bs HB.out))); replace BK342 := am (blk_below (g := gb342) (o := .cells #[.slice A0_0 l0_0.length c0_0] 24 (0, 0)) (kb BK342.out) hb); replace HB := am (below_step (bs HB.out) hb); (try clear hb); (try clear hb2); (try clear hk); (try clear hi); (try clear ho0); have hcz6_0 : w5.cell? ⟨gb342, 0, none⟩ = some (.slice A0_0 l0_0.length c0_0) := (blk_cell BK342.out 0).trans rfl; have hfz6_0 := blk_frozen BK342.out 0))
 repeat (go_quiet (first | ((with_reducible refine gate_dst (N := 1) rfl ?_); refine box_event ?hg (N := 1) ?hd (cs := #[.slice A0_0 l0_0.length c0_0]) (t := 24) ?hr ?_; (case hd => rfl); (case hg => rfl); (case hr => first | (go_simp; done) | (go_simp; rfl)); intro gb342 hg w3 hbox hb; have BK342 := am (hbox); have GW342 := am ((by rw [hg]; exact (below_size (bw HB.out)) : w.heap.size ≤ gb342)); have GE342 := am ((by rw [hg]; exact (below_size (bw HB.out)) : w.heap.size ≤ gb342)); replace HB := am (below_step (bw HB.out) hb); clear hb hbox hg; have hcz4_0 : w3.cell? ⟨gb342, 0, none⟩ = some (.slice A0_0 l0_0.length c0_0) := (blk_cell BK342.out 0).trans rfl; have hfz4_0 := blk_frozen BK342.out 0) | (go_at_call 71; (with_reducible refine (net_lengths.calls k _ _ l0_0 t343 _ ?side1 ?side2 A2.out).mono ?_); (case side1 => exact kc (Kd.C_below HR0_0.out HB.out)); (case side2 => exact HC0_0.out); rintro e w5 ⟨v344, rfl, ho0, hb⟩; have HO345 := am (Kd.R_lower ho0 (below_size (bs HB.out))); replace BK342 := am (blk_below (g := gb342) (o := .cells #[.slice A0_0 l0_0.length c0_0] 24 (0, 0)) (kb BK342.out) hb); replace HB := am (below_step (bs HB.out) hb); (try clear hb); (try clear hb2); (try clear hk); (try clear hi); (try clear ho0); have hcz6_0 : w5.cell? ⟨gb342, 0, none⟩ = some (.slice A0_0 l0_0.length c0_0) := (blk_cell BK342.out 0).trans rfl; have hfz6_0 := blk_frozen BK342.out 0)); try go_wp2_with (first | ((with_reducible refine gate_dst (N := 1) rfl ?_); refine box_event ?hg (N := 1) ?hd (cs := #[.slice A0_0 l0_0.length c0_0]) (t := 24) ?hr ?_; (case hd => rfl); (case hg => rfl); (case hr => first | (go_simp; done) | (go_simp; rfl)); intro gb342 hg w3 hbox hb; have BK342 := am (hbox); have GW342 := am ((by rw [hg]; exact (below_size (bw HB.out)) : w.heap.size ≤ gb342)); have GE342 := am ((by rw [hg]; exact (below_size (bw HB.out)) : w.heap.size ≤ gb342)); replace HB := am (below_step (bw HB.out) hb); clear hb hbox hg; have hcz4_0 : w3.cell? ⟨gb342, 0, none⟩ = some (.slice A0_0 l0_0.length c0_0) := (blk_cell BK342.out 0).trans rfl; have hfz4_0 := blk_frozen BK342.out 0) | (go_at_call 71; (with_reducible refine (net_lengths.calls k _ _ l0_0 t343 _ ?side1 ?side2 A2.out).mono ?_); (case side1 => exact kc (Kd.C_below HR0_0.out HB.out)); (case side2 => exact HC0_0.out); rintro e w5 ⟨v344, rfl, ho0, hb⟩; have HO345 := am (Kd.R_lower ho0 (below_size (bs HB.out))); replace BK342 := am (blk_below (g := gb342) (o := .cells #[.slice A0_0 l0_0.length c0_0] 24 (0, 0)) (kb BK342.out) hb); replace HB := am (below_step (bs HB.out) hb); (try clear hb); (try clear hb2); (try clear hk); (try clear hi); (try clear ho0); have hcz6_0 : w5.cell? ⟨gb342, 0, none⟩ = some (.slice A0_0 l0_0.length c0_0) := (blk_cell BK342.out 0).trans rfl; have hfz6_0 := blk_frozen BK342.out 0)))
 go_loopg [4, 15] k (fun kq v4 v15 w' => ∃ (x4_1 : Int) (x15_1 : Int), v4 = .int .i64 x4_1 ∧ v15 = .int .i64 x15_1 ∧ Aside0 (net_period.l0 kq t343 x4_1 l0_0 (l0_0.length : Int) x15_1 = some r) ∧ Aside0 (kq ≤ k) ∧ Aside0 (Kd.R (Kd.int .i64) 3 w' w.heap.size (fun _ => True) v344 t343) ∧ Aside0 (w'.heap[gb342]? = some (.cells #[(.slice A0_0 l0_0.length c0_0)] 24 (0, 0))) ∧ Aside0 (Below w.heap.size w w'))
 case atStart => exact ⟨(0), (0), zz3, zz3, H', ⟨Nat.le_refl _⟩, ⟨by (with_reducible repeat (first | apply Kd.R_alloc | apply Kd.R_drewN | apply Kd.R_drew)); exact HO345.out⟩, ⟨by (with_reducible repeat (first | refine blk_drewN ?_ _ | refine blk_drew ?_ | refine blk_alloc ?_ _)); exact BK342.out⟩, ⟨by repeat (first | (with_reducible first | exact HB.out | apply ba | apply pb | apply bd | refine below_set ?_ GE342.out) | exact HB.out)⟩⟩
 case round =>
  clear H'
  try clear p2
  try clear hcz4_0
  try clear hcz6_0
  try clear hfz4_0
  try clear hfz6_0
  obtain ⟨x4_1, x15_1, rfl, rfl, HA, HK1, HO_3, BK342, HB⟩ := hrel
  cases gk with
  | zero => exact absurd HA.out (by simp [net_period.l0])
  | succ k1 =>
   have H := HA.out
   clear HA
   simp only [net_period.l0] at H
   by_cases c7 : x15_1 < (l0_0.length : Int)
   rotate_left
   ·rw [if_neg c7] at H
    have c7b0 : decide (x15_1 < (l0_0.length : Int)) = false := decide_eq_false c7
    clear c7
    obtain rfl := Option.some.inj H
    go_wp2
    repeat (go_quiet (fail); try go_wp2)
    go_ret
    exact ⟨by first | rfl | (simp [errW_none, errW_some] <;> rfl) | (simp [*, errW_none, errW_some] <;> rfl), by repeat (first | (with_reducible first | exact HB.out | apply ba | apply pb | apply bd | refine below_set ?_ GE342.out) | exact HB.out)⟩
   rw [if_pos c7] at H
   have c7b0 : decide (x15_1 < (l0_0.length : Int)) = true := decide_eq_true c7
   clear c7
   by_cases c8 : 0 ≤ x15_1
   rotate_left
   ·rw [if_neg c8] at H
    exact absurd H (by simp)
   rw [if_pos c8] at H
   have c8b0 : decide (0 ≤ x15_1) = true := decide_eq_true c8
   clear c8
   by_cases c9 : x15_1 < (l0_0.length : Int)
   rotate_left
   ·rw [if_neg c9] at H
    exact absurd H (by simp)
   rw [if_pos c9] at H
   have c9b0 : decide (x15_1 < (l0_0.length : Int)) = true := decide_eq_true c9
   clear c9
   have H' := am H
   clear H
   have p346 : 0 ≤ (x15_1 : Int) := od zz2
   have q346 : x15_1 < (l0_0.length : Int) := od zz2
   obtain ⟨ad346, A346_0, c346_0, e346, hx346_0, hl346_0, hi346_0⟩ := at_L1 HR0_0.out x15_1 p346 q346
   cases e346
   replace hx346_0 := (HB.out.cell (World.block_lt_of_cell? w _ hx346_0)).trans hx346_0
   have HR346_0 := am hi346_0
   have HC346_0 := am hl346_0
   clear hi346_0 hl346_0
   replace p346 := eq_true p346
   replace q346 := eq_true q346
   go_wp2
   repeat (go_quiet (fail); try go_wp2)
   go_loopg [4, 22] k1 (fun kq v4 v22 w' => ∃ (x4_2 : Int) (x22_2 : Int), v4 = .int .i64 x4_2 ∧ v22 = .int .i64 x22_2 ∧ Aside0 (net_period.l1 kq t343 x4_2 x15_1 l0_0 (l0_0.length : Int) x15_1 (rd_L1 l0_0 x15_1) ((rd_L1 l0_0 x15_1).length : Int) x22_2 = some r) ∧ Aside0 (kq ≤ k1) ∧ Aside0 (Kd.R (Kd.int .i64) 3 w' w.heap.size (fun _ => True) v344 t343) ∧ Aside0 (w'.heap[gb342]? = some (.cells #[(.slice (some ad346) l0_0.length c0_0)] 24 (0, 0))) ∧ Aside0 (Below w.heap.size w w'))
   case atStart => exact ⟨(x4_1), (0), zz3, zz3, H', ⟨Nat.le_refl _⟩, ⟨by (with_reducible repeat (first | apply Kd.R_alloc | apply Kd.R_drewN | apply Kd.R_drew)); exact HO_3.out⟩, ⟨by (with_reducible repeat (first | refine blk_drewN ?_ _ | refine blk_drew ?_ | refine blk_alloc ?_ _)); exact BK342.out⟩, ⟨by repeat (first | (with_reducible first | exact HB.out | apply ba | apply pb | apply bd | refine below_set ?_ GE342.out) | exact HB.out)⟩⟩
   case round =>
    clear H'
    try clear p2
    try clear c3
    try clear p3
    try clear q3
    try clear hx3
    try clear c7
    try clear c7b0
    try clear c8
    try clear c8b0
    try clear c9
    try clear c9b0
    try clear hcz4_0
    try clear hcz6_0
    try clear hfz4_0
    try clear hfz6_0
    try clear hx346_0
    try clear p2
    try clear p346
    try clear q346
    obtain ⟨x4_2, x22_2, rfl, rfl, HA, HK2, HO_3, BK342, HB⟩ := hrel
    cases gk with
    | zero => exact absurd HA.out (by simp [net_period.l1])
    | succ k2 =>
     have H := HA.out
     clear HA
     simp only [net_period.l1] at H
     by_cases c10 : x22_2 < ((rd_L1 l0_0 x15_1).length : Int)
     rotate_left
     ·rw [if_neg c10] at H
      have c10b0 : decide (x22_2 < ((rd_L1 l0_0 x15_1).length : Int)) = false := decide_eq_false c10
      clear c10
      have H' := am H
      clear H
      go_wp2
      repeat (go_quiet (fail); try go_wp2)
      go_roundg k2
      case measure => have := HK1.out; have := HK2.out; omega
      case rel => exact ⟨(x4_2), (wrap64 (x15_1 + 1)), zz3, zz3, H', ⟨by have := HK1.out; have := HK2.out; omega⟩, ⟨by (with_reducible repeat (first | apply Kd.R_alloc | apply Kd.R_drewN | apply Kd.R_drew)); exact HO_3.out⟩, ⟨by (with_reducible repeat (first | refine blk_drewN ?_ _ | refine blk_drew ?_ | refine blk_alloc ?_ _)); exact BK342.out⟩, ⟨by repeat (first | (with_reducible first | exact HB.out | apply ba | apply pb | apply bd | refine below_set ?_ GE342.out) | exact HB.out)⟩⟩
     rw [if_pos c10] at H
     have c10b0 : decide (x22_2 < ((rd_L1 l0_0 x15_1).length : Int)) = true := decide_eq_true c10
     clear c10
     by_cases c11 : 0 ≤ x22_2
     rotate_left
     ·rw [if_neg c11] at H
      exact absurd H (by simp)
     rw [if_pos c11] at H
     have c11b0 : decide (0 ≤ x22_2) = true := decide_eq_true c11
     clear c11
     by_cases c12 : x22_2 < ((rd_L1 l0_0 x15_1).length : Int)
     rotate_left
     ·rw [if_neg c12] at H
      exact absurd H (by simp)
     rw [if_pos c12] at H
     have c12b0 : decide (x22_2 < ((rd_L1 l0_0 x15_1).length : Int)) = true := decide_eq_true c12
     clear c12
     by_cases c13 : 0 ≤ x15_1
     rotate_left
     ·rw [if_neg c13] at H
      exact absurd H (by simp)
     rw [if_pos c13] at H
     have c13b0 : decide (0 ≤ x15_1) = true := decide_eq_true c13
     clear c13
     by_cases c14 : x15_1 < (t343.length : Int)
     rotate_left
     ·rw [if_neg c14] at H
      exact absurd H (by simp)
     rw [if_pos c14] at H
     have c14b0 : decide (x15_1 < (t343.length : Int)) = true := decide_eq_true c14
     clear c14
     by_cases c15 : 0 ≤ (rd (rd_L1 l0_0 x15_1) x22_2)
     rotate_left
     ·rw [if_neg c15] at H
      exact absurd H (by simp)
     rw [if_pos c15] at H
     have c15b0 : decide (0 ≤ (rd (rd_L1 l0_0 x15_1) x22_2)) = true := decide_eq_true c15
     clear c15
     by_cases c16 : (rd (rd_L1 l0_0 x15_1) x22_2) < (t343.length : Int)
     rotate_left
     ·rw [if_neg c16] at H
      exact absurd H (by simp)
     rw [if_pos c16] at H
     have c16b0 : decide ((rd (rd_L1 l0_0 x15_1) x22_2) < (t343.length : Int)) = true := decide_eq_true c16
     clear c16
     obtain ⟨ji17, hji17⟩ : ∃ j_ : Int, (mx (wrap64 ((wrap64 ((rd t343 x15_1) + 1)) - (rd t343 (rd (rd_L1 l0_0 x15_1) x22_2)))) (wrap64 (-(wrap64 ((wrap64 ((rd t343 x15_1) + 1)) - (rd t343 (rd (rd_L1 l0_0 x15_1) x22_2))))))) = j_ := ⟨_, rfl⟩
     replace H : ((net_common.f k2 x4_2 (ji17)).bind fun t350 => (net_period.l1 k2 t343 t350 x15_1 l0_0 (l0_0.length : Int) x15_1 (rd_L1 l0_0 x15_1) ((rd_L1 l0_0 x15_1).length : Int) (wrap64 (x22_2 + 1)))) = some r := by first | (rw [hji17] at H; exact H) | (simp only [hji17] at H ⊢; exact H)
     have hji17_ : (if (wrap64 ((wrap64 ((rd t343 x15_1) + 1)) - (rd t343 (rd (rd_L1 l0_0 x15_1) x22_2)))) < (wrap64 (-(wrap64 ((wrap64 ((rd t343 x15_1) + 1)) - (rd t343 (rd (rd_L1 l0_0 x15_1) x22_2)))))) then (wrap64 (-(wrap64 ((wrap64 ((rd t343 x15_1) + 1)) - (rd t343 (rd (rd_L1 l0_0 x15_1) x22_2)))))) else (wrap64 ((wrap64 ((rd t343 x15_1) + 1)) - (rd t343 (rd (rd_L1 l0_0 x15_1) x22_2))))) = ji17 := hji17
     replace H := Option.bind_eq_some_iff.mp H
     obtain ⟨t350, A180, H⟩ := H
     replace H : (net_period.l1 k2 t343 t350 x15_1 l0_0 (l0_0.length : Int) x15_1 (rd_L1 l0_0 x15_1) ((rd_L1 l0_0 x15_1).length : Int) (wrap64 (x22_2 + 1))) = some r := H
     have A18 := am A180
     clear A180
     have H' := am H
     clear H
     have p347 : 0 ≤ (x22_2 : Int) := od zz2
     have q347 : x22_2 < ((rd_L1 l0_0 x15_1).length : Int) := od zz2
     obtain ⟨ad347, e347, hx347_0⟩ := Kd.at_int HR346_0.out x22_2 p347 q347
     cases e347
     replace hx347_0 := (HB.out.cell (World.block_lt_of_cell? w _ hx347_0)).trans hx347_0
     replace p347 := eq_true p347
     replace q347 := eq_true q347
     obtain ⟨Ao19, co19, eo19⟩ := Kd.R_slice HO_3.out
     subst eo19
     have p348 : 0 ≤ (x15_1 : Int) := od zz2
     have q348 : x15_1 < (t343.length : Int) := od zz2
     obtain ⟨ad348, e348, hx348_0⟩ := Kd.at_int (Kd.R_reads' HO_3.out).2.2 x15_1 p348 q348
     cases e348
     replace p348 := eq_true p348
     replace q348 := eq_true q348
     have p349 : 0 ≤ ((rd (rd_L1 l0_0 x15_1) x22_2) : Int) := od zz2
     have q349 : (rd (rd_L1 l0_0 x15_1) x22_2) < (t343.length : Int) := od zz2
     obtain ⟨ad349, e349, hx349_0⟩ := Kd.at_int (Kd.R_reads' HO_3.out).2.2 (rd (rd_L1 l0_0 x15_1) x22_2) p349 q349
     obtain rfl : ad348 = ad349 := (by injection e349)
     replace p349 := eq_true p349
     replace q349 := eq_true q349
     go_wp2_with (first | (go_at_call 104; (with_reducible refine (net_common.calls k2 x4_2 ji17 t350 _ A18.out).mono ?_); rintro e w' ⟨rfl, ⟨nd, rfl⟩⟩; (try exact zz4)))
     repeat (go_quiet (first | (go_at_call 104; (with_reducible refine (net_common.calls k2 x4_2 ji17 t350 _ A18.out).mono ?_); rintro e w' ⟨rfl, ⟨nd, rfl⟩⟩; (try exact zz4))); try go_wp2_with (first | (go_at_call 104; (with_reducible refine (net_common.calls k2 x4_2 ji17 t350 _ A18.out).mono ?_); rintro e w' ⟨rfl, ⟨nd, rfl⟩⟩; (try exact zz4))))
     go_roundg k2
     case measure => have := HK1.out; have := HK2.out; omega
     case rel => exact ⟨(t350), (wrap64 (x22_2 + 1)), zz3, zz3, H', ⟨by have := HK1.out; have := HK2.out; omega⟩, ⟨by (with_reducible repeat (first | apply Kd.R_alloc | apply Kd.R_drewN | apply Kd.R_drew)); exact HO_3.out⟩, ⟨by (with_reducible repeat (first | refine blk_drewN ?_ _ | refine blk_drew ?_ | refine blk_alloc ?_ _)); exact BK342.out⟩, ⟨by repeat (first | (with_reducible first | exact HB.out | apply ba | apply pb | apply bd | refine below_set ?_ GE342.out) | exact HB.out)⟩⟩
end Go.Proofs.Ytjgdalhdiohclaa.Q
end
/-! Part QRef01Word -/
section
namespace Go.Proofs.Ytjgdalhdiohclaa.Q
attribute [local go_sem] max2_int min2_int max_two min_two max_three min_three max_four min_four
set_option linter.unusedVariables false
set_option linter.unusedSimpArgs false
def mizmazeref01_Word.f (k : Nat) (l0_0 : List (List Int)) (l1 : List Int) : Option (Bool) := if (l1.length : Int) ≤ 40000 then ((mizmazeref01_Letters.f l0_0).bind fun t400 => ((mizmazeref01_Below.f k l1 t400).bind fun t401 => (some t401))) else (some false)
theorem mizmazeref01_Word.mono : ∀ a0 a1 k, LeO (mizmazeref01_Word.f k a0 a1) (mizmazeref01_Word.f (k + 1) a0 a1) := by
 intro a0 a1 k
 unfold mizmazeref01_Word.f
 repeat' first
   | (with_reducible exact mizmazeref01_Below.mono _ _ _)
   | (with_reducible exact LeO.refl _)
   | (with_reducible exact LeO.none _)
   | (with_reducible refine LeO.ite ?_ ?_)
   | (with_reducible refine LeO.bind ?_ (fun _ => ?_))
   | exact mizmazeref01_Below.mono _ _ _
   | exact LeO.none _
   | refine LeO.ite ?_ ?_
   | refine LeO.bind ?_ (fun _ => ?_)
set_option maxHeartbeats 8000000 in
set_option maxRecDepth 100000 in
theorem mizmazeref01_Word.calls (k : Nat) (A0_0 : Option Addr) (c0_0 : Nat) (l0_0 : List (List Int)) (A1 : Option Addr) (c1 : Nat) (l1 : List Int) (r : Bool) (w : World) (hr0_0 : Kd.C (Kd.slice 3 (Kd.int .i64)) w A0_0 l0_0.length l0_0) (hc0_0 : l0_0.length ≤ c0_0) (hr1 : Kd.C (Kd.int .i64) w A1 l1.length l1) (hc1 : l1.length ≤ c1) (h : mizmazeref01_Word.f k l0_0 l1 = some r) :
  Calls Try.prog 34 #[.agg #[.slice A0_0 l0_0.length c0_0], .slice A1 l1.length c1] w fun e w' => e = .returned (.bool r) ∧ Below w.heap.size w w' := by
 have hu24 := Try.underlying24
 have HR0_0 := am hr0_0
 have HC0_0 := am hc0_0
 clear hr0_0 hc0_0
 have HR1 := am hr1
 have HC1 := am hc1
 clear hr1 hc1
 have HB := am (Below.refl w.heap.size w)
 have H : (if (l1.length : Int) ≤ 40000 then ((mizmazeref01_Letters.f l0_0).bind fun t400 => ((mizmazeref01_Below.f k l1 t400).bind fun t401 => (some t401))) else (some false)) = some r := h
 clear h
 by_cases c3 : (l1.length : Int) ≤ 40000
 ·rw [if_pos c3] at H
  have c3b0 : decide ((l1.length : Int) ≤ 40000) = true := decide_eq_true c3
  have c3b1 : decide (l1.length ≤ 40000) = true := decide_eq_true (by omega)
  clear c3
  replace H := Option.bind_eq_some_iff.mp H
  obtain ⟨t400, A40, H⟩ := H
  replace H : ((mizmazeref01_Below.f k l1 t400).bind fun t401 => (some t401)) = some r := H
  have A4 := am A40
  clear A40
  replace H := Option.bind_eq_some_iff.mp H
  obtain ⟨t401, A50, H⟩ := H
  replace H : (some t401) = some r := H
  have A5 := am A50
  clear A50
  obtain rfl := Option.some.inj H
  go_enter Try.func34, Try.ntmps34
  go_wp2_with (first | ((with_reducible refine gate_dst (N := 2) rfl ?_); refine box_event ?hg (N := 2) ?hd (cs := #[.slice A0_0 l0_0.length c0_0]) (t := 24) ?hr ?_; (case hd => rfl); (case hg => rfl); (case hr => first | (go_simp; done) | (go_simp; rfl)); intro gb399 hg w6 hbox hb; have BK399 := am (hbox); have GW399 := am ((by rw [hg]; exact (below_size (bw HB.out)) : w.heap.size ≤ gb399)); have GE399 := am ((by rw [hg]; exact (below_size (bw HB.out)) : w.heap.size ≤ gb399)); replace HB := am (below_step (bw HB.out) hb); clear hb hbox hg; have hcz7_0 : w6.cell? ⟨gb399, 0, none⟩ = some (.slice A0_0 l0_0.length c0_0) := (blk_cell BK399.out 0).trans rfl; have hfz7_0 := blk_frozen BK399.out 0) | (go_at_call 38; (with_reducible refine (mizmazeref01_Letters.calls _ _ l0_0 t400 _ ?side1 ?side2 A4.out).mono ?_); (case side1 => exact kc (Kd.C_below HR0_0.out HB.out)); (case side2 => exact HC0_0.out); rintro e w8 ⟨rfl, hb⟩; replace BK399 := am (blk_below (g := gb399) (o := .cells #[.slice A0_0 l0_0.length c0_0] 24 (0, 0)) (kb BK399.out) hb); replace HB := am (below_step (bs HB.out) hb); (try clear hb); (try clear hb2); (try clear hk); (try clear hi)) | (go_at_call 37; (with_reducible refine (mizmazeref01_Below.calls k _ _ l1 t400 t401 _ ?side1 ?side2 A5.out).mono ?_); (case side1 => exact kc (Kd.C_below HR1.out HB.out)); (case side2 => exact HC1.out); rintro e w' ⟨rfl, ⟨nd, rfl⟩⟩))
  go_ret
  exact ⟨by first | rfl | (simp [errW_none, errW_some] <;> rfl) | (simp [*, errW_none, errW_some] <;> rfl), by repeat (first | (with_reducible first | exact HB.out | apply ba | apply pb | apply bd | refine below_set ?_ GE399.out) | exact HB.out)⟩
 ·rw [if_neg c3] at H
  have c3b0 : decide ((l1.length : Int) ≤ 40000) = false := decide_eq_false c3
  have c3b1 : decide (l1.length ≤ 40000) = false := decide_eq_false (by omega)
  clear c3
  obtain rfl := Option.some.inj H
  go_enter Try.func34, Try.ntmps34
  go_wp2_with (first | ((with_reducible refine gate_dst (N := 2) rfl ?_); refine box_event ?hg (N := 2) ?hd (cs := #[.slice A0_0 l0_0.length c0_0]) (t := 24) ?hr ?_; (case hd => rfl); (case hg => rfl); (case hr => first | (go_simp; done) | (go_simp; rfl)); intro gb399 hg w9 hbox hb; have BK399 := am (hbox); have GW399 := am ((by rw [hg]; exact (below_size (bw HB.out)) : w.heap.size ≤ gb399)); have GE399 := am ((by rw [hg]; exact (below_size (bw HB.out)) : w.heap.size ≤ gb399)); replace HB := am (below_step (bw HB.out) hb); clear hb hbox hg))
  go_ret
  exact ⟨by first | rfl | (simp [errW_none, errW_some] <;> rfl) | (simp [*, errW_none, errW_some] <;> rfl), by repeat (first | (with_reducible first | exact HB.out | apply ba | apply pb | apply bd | refine below_set ?_ GE399.out) | exact HB.out)⟩
end Go.Proofs.Ytjgdalhdiohclaa.Q
end
/-! Part QRef01All -/
section
namespace Go.Proofs.Ytjgdalhdiohclaa.Q
attribute [local go_sem] max2_int min2_int max_two min_two max_three min_three max_four min_four
set_option linter.unusedVariables false
set_option linter.unusedSimpArgs false
def mizmazeref01_All.l0 : Nat → Int → List Int → Int → Option (List Int)
 | 0, _, _, _ => none
 | k + 1, x0, x3, x4 => if x4 < x0 then (if x3.length < 17592186044416 then (mizmazeref01_All.l0 k x0 (x3 ++ [x4]) (wrap64 (x4 + 1))) else (none)) else (some x3)
def mizmazeref01_All.f (k : Nat) (a0 : Int) : Option (List Int) := mizmazeref01_All.l0 k a0 ([] : List Int) 0
theorem mizmazeref01_All.mono_l : ∀ k, (∀ y0 y1 y2, LeO (mizmazeref01_All.l0 k y0 y1 y2) (mizmazeref01_All.l0 (k + 1) y0 y1 y2))
 | 0 => fun _ _ _ r h => by simp [mizmazeref01_All.l0] at h
 | k + 1 => by
  have ih0 := mizmazeref01_All.mono_l k
  ·intro y0 y1 y2
   unfold mizmazeref01_All.l0
   repeat' first
   | (with_reducible exact ih0 _ _ _)
   | (with_reducible exact LeO.refl _)
   | (with_reducible exact LeO.none _)
   | (with_reducible refine LeO.ite ?_ ?_)
   | (with_reducible refine LeO.bind ?_ (fun _ => ?_))
   | exact ih0 _ _ _
   | exact LeO.none _
   | refine LeO.ite ?_ ?_
   | refine LeO.bind ?_ (fun _ => ?_)
theorem mizmazeref01_All.mono : ∀ a0 k, LeO (mizmazeref01_All.f k a0) (mizmazeref01_All.f (k + 1) a0) := by
 intro a0 k
 have ih0 := mizmazeref01_All.mono_l k
 unfold mizmazeref01_All.f
 repeat' first
   | (with_reducible exact ih0 _ _ _)
   | (with_reducible exact LeO.refl _)
   | (with_reducible exact LeO.none _)
   | (with_reducible refine LeO.ite ?_ ?_)
   | (with_reducible refine LeO.bind ?_ (fun _ => ?_))
   | exact ih0 _ _ _
   | exact LeO.none _
   | refine LeO.ite ?_ ?_
   | refine LeO.bind ?_ (fun _ => ?_)
set_option maxHeartbeats 8000000 in
set_option maxRecDepth 100000 in
theorem mizmazeref01_All.calls (k : Nat) (a0 : Int) (r : List Int) (w : World) (h : mizmazeref01_All.f k a0 = some r) :
  Calls Try.prog 40 #[.int .i64 a0] w fun e w' => ∃ v0_ : Value, e = .returned (v0_) ∧ Kd.R (Kd.int .i64) 3 w' w.heap.size (fun _ => True) v0_ r ∧ Below w.heap.size w w' := by
 have HB := am (Below.refl w.heap.size w)
 have H : (mizmazeref01_All.l0 k a0 ([] : List Int) 0) = some r := h
 clear h
 have H' := am H
 clear H
 go_enter Try.func40, Try.ntmps40
 go_wp2
 go_loopg [3, 4] k (fun kq v3 v4 w' => ∃ (x3_1 : List Int) (x4_1 : Int), v4 = .int .i64 x4_1 ∧ Aside0 (mizmazeref01_All.l0 kq a0 x3_1 x4_1 = some r) ∧ Aside0 (kq ≤ k) ∧ Aside0 (Kd.R (Kd.int .i64) 3 w' w.heap.size (fun _ => True) v3 x3_1) ∧ Aside0 (Below w.heap.size w w'))
 case atStart => exact ⟨(([] : List Int)), (0), zz3, H', ⟨Nat.le_refl _⟩, ⟨by first | exact Kd.R_nil _ _ _ _ _ | exact Kd.N_nil _ _ _ _ _ | exact Kd.V_nil _ _ _ _ _ | exact Kd.Q_nil _ _ _ _ _ | exact Kd.S_nil _ _ _ _ _⟩, ⟨by repeat (first | (with_reducible first | exact HB.out | apply ba | apply pb | apply bd) | exact HB.out)⟩⟩
 case round =>
  clear H'
  obtain ⟨x3_1, x4_1, rfl, HA, HK1, HO_3, HB⟩ := hrel
  cases gk with
  | zero => exact absurd HA.out (by simp [mizmazeref01_All.l0])
  | succ k1 =>
   have H := HA.out
   clear HA
   simp only [mizmazeref01_All.l0] at H
   by_cases c2 : x4_1 < a0
   ·rw [if_pos c2] at H
    have c2b0 : decide (x4_1 < a0) = true := decide_eq_true c2
    clear c2
    by_cases c3 : x3_1.length < 17592186044416
    ·rw [if_pos c3] at H
     have LMc3 := am c3
     clear c3
     obtain ⟨y402, hy402⟩ : ∃ y_ : List Int, y_ = (x3_1 ++ [x4_1]) := ⟨_, rfl⟩
     replace H : (mizmazeref01_All.l0 k1 a0 y402 (wrap64 (x4_1 + 1))) = some r := by first | (rw [hy402]; with_reducible exact H) | (have H2_ := (Option.bind_some _ _).symm.trans H; rw [hy402]; with_reducible exact H2_) | (have H2_ := (Option.bind_some _ _).symm.trans H; with_reducible exact H2_) | with_reducible exact H | (rw [hy402]; exact H) | exact H
     have Ny402 := am hy402
     clear hy402
     have H' := am H
     clear H
     go_wp2_with (first | ((with_reducible refine gate_builtin (b := .append) (xs := #[.tmp 10, .tmp 12]) rfl ?_); at_builtin; refine Kd.R_append (Kd.int .i64) (w0 := w) w.heap.size rfl (.tmp 10) (.tmp 12) 28 3 (.int .i64 0) 8 rfl Try.underlying28 info3 rfl (by decide) (by omega) u3 x3_1 x4_1 [.int .i64 x4_1] (fun _ => True) (fun _ => False) rfl rfl ?aP (fun _ hk => hk.elim) ?aF ?aO ?aB ?aS ?aL ?_; (case aP => exact rfl); (case aB => exact (bw HB.out)); (case aF => exact (fun _ _ => trivial)); (case aO => exact (kR HO_3.out)); (case aS => exact (below_size (bw HB.out))); (case aL => have := LMc3.out; omega); intro v403 w4 ho hb hg hat; rw [← Ny402.out] at ho; have n0_ := am (hb); have n1_ := am (ho); clear HB; clear HO_3; have HB := n0_; have HO404 := n1_; clear n0_ n1_; clear ho hb hg hat))
     go_roundg k1
     case measure => have := HK1.out; omega
     case rel => exact ⟨(y402), (wrap64 (x4_1 + 1)), zz3, H', ⟨by have := HK1.out; omega⟩, ⟨by (with_reducible repeat (first | apply Kd.R_alloc | apply Kd.R_drewN | apply Kd.R_drew)); exact HO404.out⟩, ⟨by repeat (first | (with_reducible first | exact HB.out | apply ba | apply pb | apply bd) | exact HB.out)⟩⟩
    ·rw [if_neg c3] at H
     exact absurd H (by simp)
   ·rw [if_neg c2] at H
    have c2b0 : decide (x4_1 < a0) = false := decide_eq_false c2
    clear c2
    obtain rfl := Option.some.inj H
    go_wp2
    go_ret
    exact ⟨_, by first | rfl | (simp [errW_none, errW_some] <;> rfl) | (simp [*, errW_none, errW_some] <;> rfl), by (with_reducible repeat (first | apply Kd.R_alloc | apply Kd.R_drewN | apply Kd.R_drew)); exact HO_3.out, by repeat (first | (with_reducible first | exact HB.out | apply ba | apply pb | apply bd) | exact HB.out)⟩
end Go.Proofs.Ytjgdalhdiohclaa.Q
end
/-! Part QRef01Same -/
section
namespace Go.Proofs.Ytjgdalhdiohclaa.Q
attribute [local go_sem] max2_int min2_int max_two min_two max_three min_three max_four min_four
set_option linter.unusedVariables false
set_option linter.unusedSimpArgs false
def mizmazeref01_Same.l0 : Nat → List Int → List Int → Int → Option (Bool)
 | 0, _, _, _ => none
 | k + 1, x0, x1, x5 => if x5 < (x0.length : Int) then (if 0 ≤ x5 then (if x5 < (x1.length : Int) then (if (rd x0 x5) = (rd x1 x5) then (mizmazeref01_Same.l0 k x0 x1 (wrap64 (x5 + 1))) else (some false)) else (none)) else (none)) else (some true)
def mizmazeref01_Same.f (k : Nat) (l0 : List Int) (l1 : List Int) : Option (Bool) := if (l0.length : Int) = (l1.length : Int) then (mizmazeref01_Same.l0 k l0 l1 0) else (some false)
theorem mizmazeref01_Same.mono_l : ∀ k, (∀ y0 y1 y2, LeO (mizmazeref01_Same.l0 k y0 y1 y2) (mizmazeref01_Same.l0 (k + 1) y0 y1 y2))
 | 0 => fun _ _ _ r h => by simp [mizmazeref01_Same.l0] at h
 | k + 1 => by
  have ih0 := mizmazeref01_Same.mono_l k
  ·intro y0 y1 y2
   unfold mizmazeref01_Same.l0
   repeat' first
   | (with_reducible exact ih0 _ _ _)
   | (with_reducible exact LeO.refl _)
   | (with_reducible exact LeO.none _)
   | (with_reducible refine LeO.ite ?_ ?_)
   | (with_reducible refine LeO.bind ?_ (fun _ => ?_))
   | exact ih0 _ _ _
   | exact LeO.none _
   | refine LeO.ite ?_ ?_
   | refine LeO.bind ?_ (fun _ => ?_)
theorem mizmazeref01_Same.mono : ∀ a0 a1 k, LeO (mizmazeref01_Same.f k a0 a1) (mizmazeref01_Same.f (k + 1) a0 a1) := by
 intro a0 a1 k
 have ih0 := mizmazeref01_Same.mono_l k
 unfold mizmazeref01_Same.f
 repeat' first
   | (with_reducible exact ih0 _ _ _)
   | (with_reducible exact LeO.refl _)
   | (with_reducible exact LeO.none _)
   | (with_reducible refine LeO.ite ?_ ?_)
   | (with_reducible refine LeO.bind ?_ (fun _ => ?_))
   | exact ih0 _ _ _
   | exact LeO.none _
   | refine LeO.ite ?_ ?_
   | refine LeO.bind ?_ (fun _ => ?_)
set_option maxHeartbeats 8000000 in
set_option maxRecDepth 100000 in
theorem mizmazeref01_Same.calls (k : Nat) (A0 : Option Addr) (c0 : Nat) (l0 : List Int) (A1 : Option Addr) (c1 : Nat) (l1 : List Int) (r : Bool) (w : World) (hr0 : Kd.C (Kd.int .i64) w A0 l0.length l0) (hc0 : l0.length ≤ c0) (hr1 : Kd.C (Kd.int .i64) w A1 l1.length l1) (hc1 : l1.length ≤ c1) (h : mizmazeref01_Same.f k l0 l1 = some r) :
  Calls Try.prog 23 #[.slice A0 l0.length c0, .slice A1 l1.length c1] w fun e w' => e = .returned (.bool r) ∧ Drawn0 w w' := by
 have HR0 := am hr0
 have HC0 := am hc0
 clear hr0 hc0
 have HR1 := am hr1
 have HC1 := am hc1
 clear hr1 hc1
 have H : (if (l0.length : Int) = (l1.length : Int) then (mizmazeref01_Same.l0 k l0 l1 0) else (some false)) = some r := h
 clear h
 by_cases c3 : (l0.length : Int) = (l1.length : Int)
 ·rw [if_pos c3] at H
  have c3b0 : ((l0.length : Int) == (l1.length : Int)) = true := beq_iff_eq.mpr c3
  have c3b1 : ((l0.length : Int) != (l1.length : Int)) = false := bne_eq_false_iff_eq.mpr c3
  have c3b2 : (l0.length == l1.length) = true := by first | simpa using c3 | (simp at c3 ⊢; omega)
  clear c3
  have H' := am H
  clear H
  go_enter Try.func23, Try.ntmps23
  go_wp2
  repeat (go_quiet (fail); try go_wp2)
  go_loopg [5] k (fun kq v5 w' => ∃ (x5_1 : Int), v5 = .int .i64 x5_1 ∧ Aside0 (mizmazeref01_Same.l0 kq l0 l1 x5_1 = some r) ∧ Aside0 (kq ≤ k) ∧ Drawn0 w w')
  case atStart => exact ⟨(0), zz3, H', ⟨Nat.le_refl _⟩, by repeat (first | exact Drawn0.refl _ | apply Drawn0.step)⟩
  case round =>
   clear H'
   try clear c1
   try clear c2
   try clear p2
   try clear c3
   try clear c3b0
   try clear c3b1
   try clear c3b2
   obtain ⟨x5_1, rfl, HA, HK1, ⟨m1, rfl⟩⟩ := hrel
   cases gk with
   | zero => exact absurd HA.out (by simp [mizmazeref01_Same.l0])
   | succ k1 =>
    have H := HA.out
    clear HA
    simp only [mizmazeref01_Same.l0] at H
    by_cases c4 : x5_1 < (l0.length : Int)
    ·rw [if_pos c4] at H
     have c4b0 : decide (x5_1 < (l0.length : Int)) = true := decide_eq_true c4
     clear c4
     by_cases c5 : 0 ≤ x5_1
     ·rw [if_pos c5] at H
      have c5b0 : decide (0 ≤ x5_1) = true := decide_eq_true c5
      clear c5
      by_cases c6 : x5_1 < (l1.length : Int)
      ·rw [if_pos c6] at H
       have c6b0 : decide (x5_1 < (l1.length : Int)) = true := decide_eq_true c6
       clear c6
       by_cases c7 : (rd l0 x5_1) = (rd l1 x5_1)
       ·rw [if_pos c7] at H
        have c7b0 : ((rd l0 x5_1) == (rd l1 x5_1)) = true := beq_iff_eq.mpr c7
        have c7b1 : ((rd l0 x5_1) != (rd l1 x5_1)) = false := bne_eq_false_iff_eq.mpr c7
        clear c7
        have H' := am H
        clear H
        have p110 : 0 ≤ (x5_1 : Int) := od zz2
        have q110 : x5_1 < (l0.length : Int) := od zz2
        obtain ⟨ad110, e110, hx110_0⟩ := Kd.at_int HR0.out x5_1 p110 q110
        cases e110
        replace p110 := eq_true p110
        replace q110 := eq_true q110
        have p111 : 0 ≤ (x5_1 : Int) := od zz2
        have q111 : x5_1 < (l1.length : Int) := od zz2
        obtain ⟨ad111, e111, hx111_0⟩ := Kd.at_int HR1.out x5_1 p111 q111
        cases e111
        replace p111 := eq_true p111
        replace q111 := eq_true q111
        go_wp2
        repeat (go_quiet (fail); try go_wp2)
        go_roundg k1
        case measure => have := HK1.out; omega
        case rel => exact ⟨(wrap64 (x5_1 + 1)), zz3, H', ⟨by have := HK1.out; omega⟩, by repeat (first | exact Drawn0.refl _ | apply Drawn0.step)⟩
       ·rw [if_neg c7] at H
        have c7b0 : ((rd l0 x5_1) == (rd l1 x5_1)) = false := beq_eq_false_iff_ne.mpr c7
        have c7b1 : ((rd l0 x5_1) != (rd l1 x5_1)) = true := bne_iff_ne.mpr c7
        obtain rfl := Option.some.inj H
        have p110 : 0 ≤ (x5_1 : Int) := od zz2
        have q110 : x5_1 < (l0.length : Int) := od zz2
        obtain ⟨ad110, e110, hx110_0⟩ := Kd.at_int HR0.out x5_1 p110 q110
        cases e110
        replace p110 := eq_true p110
        replace q110 := eq_true q110
        have p111 : 0 ≤ (x5_1 : Int) := od zz2
        have q111 : x5_1 < (l1.length : Int) := od zz2
        obtain ⟨ad111, e111, hx111_0⟩ := Kd.at_int HR1.out x5_1 p111 q111
        cases e111
        replace p111 := eq_true p111
        replace q111 := eq_true q111
        go_wp2
        repeat (go_quiet (fail); try go_wp2)
        go_ret
        exact ⟨by first | rfl | (simp; done) | (simp [*]; done), by repeat (first | exact Drawn0.refl _ | apply Drawn0.step)⟩
      ·rw [if_neg c6] at H
       exact absurd H (by simp)
     ·rw [if_neg c5] at H
      exact absurd H (by simp)
    ·rw [if_neg c4] at H
     have c4b0 : decide (x5_1 < (l0.length : Int)) = false := decide_eq_false c4
     clear c4
     obtain rfl := Option.some.inj H
     go_wp2
     repeat (go_quiet (fail); try go_wp2)
     go_ret
     exact ⟨by first | rfl | (simp; done) | (simp [*]; done), by repeat (first | exact Drawn0.refl _ | apply Drawn0.step)⟩
 ·rw [if_neg c3] at H
  have c3b0 : ((l0.length : Int) == (l1.length : Int)) = false := beq_eq_false_iff_ne.mpr c3
  have c3b1 : ((l0.length : Int) != (l1.length : Int)) = true := bne_iff_ne.mpr c3
  have c3b2 : (l0.length == l1.length) = false := by first | simpa using c3 | (simp at c3 ⊢; omega)
  obtain rfl := Option.some.inj H
  go_enter Try.func23, Try.ntmps23
  go_wp2
  repeat (go_quiet (fail); try go_wp2)
  go_ret
  exact ⟨by first | rfl | (simp; done) | (simp [*]; done), by repeat (first | exact Drawn0.refl _ | apply Drawn0.step)⟩
end Go.Proofs.Ytjgdalhdiohclaa.Q
end
/-! Part QRef01Sames -/
section
namespace Go.Proofs.Ytjgdalhdiohclaa.Q
attribute [local go_sem] max2_int min2_int max_two min_two max_three min_three max_four min_four
set_option linter.unusedVariables false
set_option linter.unusedSimpArgs false
def mizmazeref01_Sames.l0 : Nat → List (List Int) → List (List Int) → Int → Option (Bool)
 | 0, _, _, _ => none
 | k + 1, x0, x1, x5 => if x5 < (x0.length : Int) then (if 0 ≤ x5 then (if x5 < (x1.length : Int) then ((mizmazeref01_Same.f k (rd_L1 x0 x5) (rd_L1 x1 x5)).bind fun t114 => (if t114 = true then (mizmazeref01_Sames.l0 k x0 x1 (wrap64 (x5 + 1))) else (some false))) else (none)) else (none)) else (some true)
def mizmazeref01_Sames.f (k : Nat) (l0 : List (List Int)) (l1 : List (List Int)) : Option (Bool) := if (l0.length : Int) = (l1.length : Int) then (mizmazeref01_Sames.l0 k l0 l1 0) else (some false)
theorem mizmazeref01_Sames.mono_l : ∀ k, (∀ y0 y1 y2, LeO (mizmazeref01_Sames.l0 k y0 y1 y2) (mizmazeref01_Sames.l0 (k + 1) y0 y1 y2))
 | 0 => fun _ _ _ r h => by simp [mizmazeref01_Sames.l0] at h
 | k + 1 => by
  have ih0 := mizmazeref01_Sames.mono_l k
  ·intro y0 y1 y2
   unfold mizmazeref01_Sames.l0
   repeat' first
   | (with_reducible exact ih0 _ _ _)
   | (with_reducible exact mizmazeref01_Same.mono _ _ _)
   | (with_reducible exact LeO.refl _)
   | (with_reducible exact LeO.none _)
   | (with_reducible refine LeO.ite ?_ ?_)
   | (with_reducible refine LeO.bind ?_ (fun _ => ?_))
   | exact ih0 _ _ _
   | exact mizmazeref01_Same.mono _ _ _
   | exact LeO.none _
   | refine LeO.ite ?_ ?_
   | refine LeO.bind ?_ (fun _ => ?_)
theorem mizmazeref01_Sames.mono : ∀ a0 a1 k, LeO (mizmazeref01_Sames.f k a0 a1) (mizmazeref01_Sames.f (k + 1) a0 a1) := by
 intro a0 a1 k
 have ih0 := mizmazeref01_Sames.mono_l k
 unfold mizmazeref01_Sames.f
 repeat' first
   | (with_reducible exact ih0 _ _ _)
   | (with_reducible exact mizmazeref01_Same.mono _ _ _)
   | (with_reducible exact LeO.refl _)
   | (with_reducible exact LeO.none _)
   | (with_reducible refine LeO.ite ?_ ?_)
   | (with_reducible refine LeO.bind ?_ (fun _ => ?_))
   | exact ih0 _ _ _
   | exact mizmazeref01_Same.mono _ _ _
   | exact LeO.none _
   | refine LeO.ite ?_ ?_
   | refine LeO.bind ?_ (fun _ => ?_)
set_option maxHeartbeats 8000000 in
set_option maxRecDepth 100000 in
theorem mizmazeref01_Sames.calls (k : Nat) (A0 : Option Addr) (c0 : Nat) (l0 : List (List Int)) (A1 : Option Addr) (c1 : Nat) (l1 : List (List Int)) (r : Bool) (w : World) (hr0 : Kd.C (Kd.slice 3 (Kd.int .i64)) w A0 l0.length l0) (hc0 : l0.length ≤ c0) (hr1 : Kd.C (Kd.slice 3 (Kd.int .i64)) w A1 l1.length l1) (hc1 : l1.length ≤ c1) (h : mizmazeref01_Sames.f k l0 l1 = some r) :
  Calls Try.prog 27 #[.slice A0 l0.length c0, .slice A1 l1.length c1] w fun e w' => e = .returned (.bool r) ∧ Drawn0 w w' := by
 have HR0 := am hr0
 have HC0 := am hc0
 clear hr0 hc0
 have HR1 := am hr1
 have HC1 := am hc1
 clear hr1 hc1
 have H : (if (l0.length : Int) = (l1.length : Int) then (mizmazeref01_Sames.l0 k l0 l1 0) else (some false)) = some r := h
 clear h
 by_cases c3 : (l0.length : Int) = (l1.length : Int)
 ·rw [if_pos c3] at H
  have c3b0 : ((l0.length : Int) == (l1.length : Int)) = true := beq_iff_eq.mpr c3
  have c3b1 : ((l0.length : Int) != (l1.length : Int)) = false := bne_eq_false_iff_eq.mpr c3
  have c3b2 : (l0.length == l1.length) = true := by first | simpa using c3 | (simp at c3 ⊢; omega)
  clear c3
  have H' := am H
  clear H
  go_enter Try.func27, Try.ntmps27
  go_wp2
  repeat (go_quiet (fail); try go_wp2)
  go_loopg [5] k (fun kq v5 w' => ∃ (x5_1 : Int), v5 = .int .i64 x5_1 ∧ Aside0 (mizmazeref01_Sames.l0 kq l0 l1 x5_1 = some r) ∧ Aside0 (kq ≤ k) ∧ Drawn0 w w')
  case atStart => exact ⟨(0), zz3, H', ⟨Nat.le_refl _⟩, by repeat (first | exact Drawn0.refl _ | apply Drawn0.step)⟩
  case round =>
   clear H'
   try clear c1
   try clear c2
   try clear p2
   try clear c3
   try clear c3b0
   try clear c3b1
   try clear c3b2
   obtain ⟨x5_1, rfl, HA, HK1, ⟨m1, rfl⟩⟩ := hrel
   cases gk with
   | zero => exact absurd HA.out (by simp [mizmazeref01_Sames.l0])
   | succ k1 =>
    have H := HA.out
    clear HA
    simp only [mizmazeref01_Sames.l0] at H
    by_cases c4 : x5_1 < (l0.length : Int)
    ·rw [if_pos c4] at H
     have c4b0 : decide (x5_1 < (l0.length : Int)) = true := decide_eq_true c4
     clear c4
     by_cases c5 : 0 ≤ x5_1
     ·rw [if_pos c5] at H
      have c5b0 : decide (0 ≤ x5_1) = true := decide_eq_true c5
      clear c5
      by_cases c6 : x5_1 < (l1.length : Int)
      ·rw [if_pos c6] at H
       have c6b0 : decide (x5_1 < (l1.length : Int)) = true := decide_eq_true c6
       clear c6
       replace H := Option.bind_eq_some_iff.mp H
       obtain ⟨t114, A70, H⟩ := H
       replace H : (if t114 = true then (mizmazeref01_Sames.l0 k1 l0 l1 (wrap64 (x5_1 + 1))) else (some false)) = some r := H
       have A7 := am A70
       clear A70
       by_cases c8 : t114 = true
       ·subst c8
        have H1 : (mizmazeref01_Sames.l0 k1 l0 l1 (wrap64 (x5_1 + 1))) = some r := by rw [if_pos rfl] at H; exact H
        clear H
        have H := H1
        clear H1
        have H' := am H
        clear H
        have p112 : 0 ≤ (x5_1 : Int) := od zz2
        have q112 : x5_1 < (l0.length : Int) := od zz2
        obtain ⟨ad112, A112_0, c112_0, e112, hx112_0, hl112_0, hi112_0⟩ := at_L1 HR0.out x5_1 p112 q112
        cases e112
        have HR112_0 := am hi112_0
        have HC112_0 := am hl112_0
        clear hi112_0 hl112_0
        replace p112 := eq_true p112
        replace q112 := eq_true q112
        have p113 : 0 ≤ (x5_1 : Int) := od zz2
        have q113 : x5_1 < (l1.length : Int) := od zz2
        obtain ⟨ad113, A113_0, c113_0, e113, hx113_0, hl113_0, hi113_0⟩ := at_L1 HR1.out x5_1 p113 q113
        cases e113
        have HR113_0 := am hi113_0
        have HC113_0 := am hl113_0
        clear hi113_0 hl113_0
        replace p113 := eq_true p113
        replace q113 := eq_true q113
        go_wp2_with (first | (go_at_call 23; (with_reducible refine (mizmazeref01_Same.calls k1 _ _ (rd_L1 l0 x5_1) _ _ (rd_L1 l1 x5_1) true _ ?side1 ?side2 ?side3 ?side4 A7.out).mono ?_); (case side1 => exact kc HR112_0.out); (case side2 => exact HC112_0.out); (case side3 => exact kc HR113_0.out); (case side4 => exact HC113_0.out); rintro e w' ⟨rfl, ⟨nd, rfl⟩⟩; (try exact zz4)))
        repeat (go_quiet (first | (go_at_call 23; (with_reducible refine (mizmazeref01_Same.calls k1 _ _ (rd_L1 l0 x5_1) _ _ (rd_L1 l1 x5_1) true _ ?side1 ?side2 ?side3 ?side4 A7.out).mono ?_); (case side1 => exact kc HR112_0.out); (case side2 => exact HC112_0.out); (case side3 => exact kc HR113_0.out); (case side4 => exact HC113_0.out); rintro e w' ⟨rfl, ⟨nd, rfl⟩⟩; (try exact zz4))); try go_wp2_with (first | (go_at_call 23; (with_reducible refine (mizmazeref01_Same.calls k1 _ _ (rd_L1 l0 x5_1) _ _ (rd_L1 l1 x5_1) true _ ?side1 ?side2 ?side3 ?side4 A7.out).mono ?_); (case side1 => exact kc HR112_0.out); (case side2 => exact HC112_0.out); (case side3 => exact kc HR113_0.out); (case side4 => exact HC113_0.out); rintro e w' ⟨rfl, ⟨nd, rfl⟩⟩; (try exact zz4))))
        go_roundg k1
        case measure => have := HK1.out; omega
        case rel => exact ⟨(wrap64 (x5_1 + 1)), zz3, H', ⟨by have := HK1.out; omega⟩, by repeat (first | exact Drawn0.refl _ | apply Drawn0.step)⟩
       ·replace c8 := Bool.eq_false_iff.mpr c8
        subst c8
        have H1 : (some false) = some r := by rw [if_neg (show ¬ (false = true) by decide)] at H; exact H
        clear H
        have H := H1
        clear H1
        obtain rfl := Option.some.inj H
        have p112 : 0 ≤ (x5_1 : Int) := od zz2
        have q112 : x5_1 < (l0.length : Int) := od zz2
        obtain ⟨ad112, A112_0, c112_0, e112, hx112_0, hl112_0, hi112_0⟩ := at_L1 HR0.out x5_1 p112 q112
        cases e112
        have HR112_0 := am hi112_0
        have HC112_0 := am hl112_0
        clear hi112_0 hl112_0
        replace p112 := eq_true p112
        replace q112 := eq_true q112
        have p113 : 0 ≤ (x5_1 : Int) := od zz2
        have q113 : x5_1 < (l1.length : Int) := od zz2
        obtain ⟨ad113, A113_0, c113_0, e113, hx113_0, hl113_0, hi113_0⟩ := at_L1 HR1.out x5_1 p113 q113
        cases e113
        have HR113_0 := am hi113_0
        have HC113_0 := am hl113_0
        clear hi113_0 hl113_0
        replace p113 := eq_true p113
        replace q113 := eq_true q113
        go_wp2_with (first | (go_at_call 23; (with_reducible refine (mizmazeref01_Same.calls k1 _ _ (rd_L1 l0 x5_1) _ _ (rd_L1 l1 x5_1) false _ ?side1 ?side2 ?side3 ?side4 A7.out).mono ?_); (case side1 => exact kc HR112_0.out); (case side2 => exact HC112_0.out); (case side3 => exact kc HR113_0.out); (case side4 => exact HC113_0.out); rintro e w' ⟨rfl, ⟨nd, rfl⟩⟩; (try exact zz4)))
        repeat (go_quiet (first | (go_at_call 23; (with_reducible refine (mizmazeref01_Same.calls k1 _ _ (rd_L1 l0 x5_1) _ _ (rd_L1 l1 x5_1) false _ ?side1 ?side2 ?side3 ?side4 A7.out).mono ?_); (case side1 => exact kc HR112_0.out); (case side2 => exact HC112_0.out); (case side3 => exact kc HR113_0.out); (case side4 => exact HC113_0.out); rintro e w' ⟨rfl, ⟨nd, rfl⟩⟩; (try exact zz4))); try go_wp2_with (first | (go_at_call 23; (with_reducible refine (mizmazeref01_Same.calls k1 _ _ (rd_L1 l0 x5_1) _ _ (rd_L1 l1 x5_1) false _ ?side1 ?side2 ?side3 ?side4 A7.out).mono ?_); (case side1 => exact kc HR112_0.out); (case side2 => exact HC112_0.out); (case side3 => exact kc HR113_0.out); (case side4 => exact HC113_0.out); rintro e w' ⟨rfl, ⟨nd, rfl⟩⟩; (try exact zz4))))
        go_ret
        exact ⟨by first | rfl | (simp; done) | (simp [*]; done), by repeat (first | exact Drawn0.refl _ | apply Drawn0.step)⟩
      ·rw [if_neg c6] at H
       exact absurd H (by simp)
     ·rw [if_neg c5] at H
      exact absurd H (by simp)
    ·rw [if_neg c4] at H
     have c4b0 : decide (x5_1 < (l0.length : Int)) = false := decide_eq_false c4
     clear c4
     obtain rfl := Option.some.inj H
     go_wp2
     repeat (go_quiet (fail); try go_wp2)
     go_ret
     exact ⟨by first | rfl | (simp; done) | (simp [*]; done), by repeat (first | exact Drawn0.refl _ | apply Drawn0.step)⟩
 ·rw [if_neg c3] at H
  have c3b0 : ((l0.length : Int) == (l1.length : Int)) = false := beq_eq_false_iff_ne.mpr c3
  have c3b1 : ((l0.length : Int) != (l1.length : Int)) = true := bne_iff_ne.mpr c3
  have c3b2 : (l0.length == l1.length) = false := by first | simpa using c3 | (simp at c3 ⊢; omega)
  obtain rfl := Option.some.inj H
  go_enter Try.func27, Try.ntmps27
  go_wp2
  repeat (go_quiet (fail); try go_wp2)
  go_ret
  exact ⟨by first | rfl | (simp; done) | (simp [*]; done), by repeat (first | exact Drawn0.refl _ | apply Drawn0.step)⟩
end Go.Proofs.Ytjgdalhdiohclaa.Q
end
/-! Part QSlicesEqualIntInt -/
section
namespace Go.Proofs.Ytjgdalhdiohclaa.Q
attribute [local go_sem] max2_int min2_int max_two min_two max_three min_three max_four min_four
set_option linter.unusedVariables false
set_option linter.unusedSimpArgs false
def slices_Equal_int_int.l0 : Nat → List Int → List Int → Int → Int → Option (Bool)
 | 0, _, _, _, _ => none
 | k + 1, x0, x1, x12, x13 => if x13 < x12 then (if 0 ≤ x13 then (if x13 < (x0.length : Int) then (if x13 < (x1.length : Int) then (if (rd x0 x13) = (rd x1 x13) then (slices_Equal_int_int.l0 k x0 x1 x12 (wrap64 (x13 + 1))) else (some false)) else (none)) else (none)) else (none)) else (some true)
def slices_Equal_int_int.f (k : Nat) (l0 : List Int) (l1 : List Int) : Option (Bool) := if (l0.length : Int) = (l1.length : Int) then (slices_Equal_int_int.l0 k l0 l1 (l0.length : Int) 0) else (some false)
theorem slices_Equal_int_int.mono_l : ∀ k, (∀ y0 y1 y2 y3, LeO (slices_Equal_int_int.l0 k y0 y1 y2 y3) (slices_Equal_int_int.l0 (k + 1) y0 y1 y2 y3))
 | 0 => fun _ _ _ _ r h => by simp [slices_Equal_int_int.l0] at h
 | k + 1 => by
  have ih0 := slices_Equal_int_int.mono_l k
  ·intro y0 y1 y2 y3
   unfold slices_Equal_int_int.l0
   repeat' first
   | (with_reducible exact ih0 _ _ _ _)
   | (with_reducible exact LeO.refl _)
   | (with_reducible exact LeO.none _)
   | (with_reducible refine LeO.ite ?_ ?_)
   | (with_reducible refine LeO.bind ?_ (fun _ => ?_))
   | exact ih0 _ _ _ _
   | exact LeO.none _
   | refine LeO.ite ?_ ?_
   | refine LeO.bind ?_ (fun _ => ?_)
theorem slices_Equal_int_int.mono : ∀ a0 a1 k, LeO (slices_Equal_int_int.f k a0 a1) (slices_Equal_int_int.f (k + 1) a0 a1) := by
 intro a0 a1 k
 have ih0 := slices_Equal_int_int.mono_l k
 unfold slices_Equal_int_int.f
 repeat' first
   | (with_reducible exact ih0 _ _ _ _)
   | (with_reducible exact LeO.refl _)
   | (with_reducible exact LeO.none _)
   | (with_reducible refine LeO.ite ?_ ?_)
   | (with_reducible refine LeO.bind ?_ (fun _ => ?_))
   | exact ih0 _ _ _ _
   | exact LeO.none _
   | refine LeO.ite ?_ ?_
   | refine LeO.bind ?_ (fun _ => ?_)
set_option maxHeartbeats 8000000 in
set_option maxRecDepth 100000 in
theorem slices_Equal_int_int.calls (k : Nat) (A0 : Option Addr) (c0 : Nat) (l0 : List Int) (A1 : Option Addr) (c1 : Nat) (l1 : List Int) (r : Bool) (w : World) (hr0 : Kd.C (Kd.int .i64) w A0 l0.length l0) (hc0 : l0.length ≤ c0) (hr1 : Kd.C (Kd.int .i64) w A1 l1.length l1) (hc1 : l1.length ≤ c1) (h : slices_Equal_int_int.f k l0 l1 = some r) :
  Calls Try.prog 81 #[.slice A0 l0.length c0, .slice A1 l1.length c1] w fun e w' => e = .returned (.bool r) ∧ Drawn0 w w' := by
 have HR0 := am hr0
 have HC0 := am hc0
 clear hr0 hc0
 have HR1 := am hr1
 have HC1 := am hc1
 clear hr1 hc1
 have H : (if (l0.length : Int) = (l1.length : Int) then (slices_Equal_int_int.l0 k l0 l1 (l0.length : Int) 0) else (some false)) = some r := h
 clear h
 by_cases c3 : (l0.length : Int) = (l1.length : Int)
 ·rw [if_pos c3] at H
  have c3b0 : ((l0.length : Int) == (l1.length : Int)) = true := beq_iff_eq.mpr c3
  have c3b1 : ((l0.length : Int) != (l1.length : Int)) = false := bne_eq_false_iff_eq.mpr c3
  have c3b2 : (l0.length == l1.length) = true := by first | simpa using c3 | (simp at c3 ⊢; omega)
  clear c3
  have H' := am H
  clear H
  go_enter Try.func81, Try.ntmps81
  go_wp2
  repeat (go_quiet (fail); try go_wp2)
  go_loopg [13] k (fun kq v13 w' => ∃ (x13_1 : Int), v13 = .int .i64 x13_1 ∧ Aside0 (slices_Equal_int_int.l0 kq l0 l1 (l0.length : Int) x13_1 = some r) ∧ Aside0 (kq ≤ k) ∧ Drawn0 w w')
  case atStart => exact ⟨(0), zz3, H', ⟨Nat.le_refl _⟩, by repeat (first | exact Drawn0.refl _ | apply Drawn0.step)⟩
  case round =>
   clear H'
   try clear c1
   try clear p2
   try clear c3
   try clear c3b0
   try clear c3b1
   try clear c3b2
   obtain ⟨x13_1, rfl, HA, HK1, ⟨m1, rfl⟩⟩ := hrel
   cases gk with
   | zero => exact absurd HA.out (by simp [slices_Equal_int_int.l0])
   | succ k1 =>
    have H := HA.out
    clear HA
    simp only [slices_Equal_int_int.l0] at H
    by_cases c4 : x13_1 < (l0.length : Int)
    ·rw [if_pos c4] at H
     have c4b0 : decide (x13_1 < (l0.length : Int)) = true := decide_eq_true c4
     clear c4
     by_cases c5 : 0 ≤ x13_1
     ·rw [if_pos c5] at H
      have c5b0 : decide (0 ≤ x13_1) = true := decide_eq_true c5
      clear c5
      by_cases c6 : x13_1 < (l0.length : Int)
      ·rw [if_pos c6] at H
       have c6b0 : decide (x13_1 < (l0.length : Int)) = true := decide_eq_true c6
       clear c6
       by_cases c7 : x13_1 < (l1.length : Int)
       ·rw [if_pos c7] at H
        have c7b0 : decide (x13_1 < (l1.length : Int)) = true := decide_eq_true c7
        clear c7
        by_cases c8 : (rd l0 x13_1) = (rd l1 x13_1)
        ·rw [if_pos c8] at H
         have c8b0 : ((rd l0 x13_1) == (rd l1 x13_1)) = true := beq_iff_eq.mpr c8
         have c8b1 : ((rd l0 x13_1) != (rd l1 x13_1)) = false := bne_eq_false_iff_eq.mpr c8
         clear c8
         have H' := am H
         clear H
         have p140 : 0 ≤ (x13_1 : Int) := od zz2
         have q140 : x13_1 < (l0.length : Int) := od zz2
         obtain ⟨ad140, e140, hx140_0⟩ := Kd.at_int HR0.out x13_1 p140 q140
         cases e140
         replace p140 := eq_true p140
         replace q140 := eq_true q140
         have p141 : 0 ≤ (x13_1 : Int) := od zz2
         have q141 : x13_1 < (l1.length : Int) := od zz2
         obtain ⟨ad141, e141, hx141_0⟩ := Kd.at_int HR1.out x13_1 p141 q141
         cases e141
         replace p141 := eq_true p141
         replace q141 := eq_true q141
         go_wp2
         repeat (go_quiet (fail); try go_wp2)
         go_roundg k1
         case measure => have := HK1.out; omega
         case rel => exact ⟨(wrap64 (x13_1 + 1)), zz3, H', ⟨by have := HK1.out; omega⟩, by repeat (first | exact Drawn0.refl _ | apply Drawn0.step)⟩
        ·rw [if_neg c8] at H
         have c8b0 : ((rd l0 x13_1) == (rd l1 x13_1)) = false := beq_eq_false_iff_ne.mpr c8
         have c8b1 : ((rd l0 x13_1) != (rd l1 x13_1)) = true := bne_iff_ne.mpr c8
         obtain rfl := Option.some.inj H
         have p140 : 0 ≤ (x13_1 : Int) := od zz2
         have q140 : x13_1 < (l0.length : Int) := od zz2
         obtain ⟨ad140, e140, hx140_0⟩ := Kd.at_int HR0.out x13_1 p140 q140
         cases e140
         replace p140 := eq_true p140
         replace q140 := eq_true q140
         have p141 : 0 ≤ (x13_1 : Int) := od zz2
         have q141 : x13_1 < (l1.length : Int) := od zz2
         obtain ⟨ad141, e141, hx141_0⟩ := Kd.at_int HR1.out x13_1 p141 q141
         cases e141
         replace p141 := eq_true p141
         replace q141 := eq_true q141
         go_wp2
         repeat (go_quiet (fail); try go_wp2)
         go_ret
         exact ⟨by first | rfl | (simp; done) | (simp [*]; done), by repeat (first | exact Drawn0.refl _ | apply Drawn0.step)⟩
       ·rw [if_neg c7] at H
        exact absurd H (by simp)
      ·rw [if_neg c6] at H
       exact absurd H (by simp)
     ·rw [if_neg c5] at H
      exact absurd H (by simp)
    ·rw [if_neg c4] at H
     have c4b0 : decide (x13_1 < (l0.length : Int)) = false := decide_eq_false c4
     clear c4
     obtain rfl := Option.some.inj H
     go_wp2
     repeat (go_quiet (fail); try go_wp2)
     go_ret
     exact ⟨by first | rfl | (simp; done) | (simp [*]; done), by repeat (first | exact Drawn0.refl _ | apply Drawn0.step)⟩
 ·rw [if_neg c3] at H
  have c3b0 : ((l0.length : Int) == (l1.length : Int)) = false := beq_eq_false_iff_ne.mpr c3
  have c3b1 : ((l0.length : Int) != (l1.length : Int)) = true := bne_iff_ne.mpr c3
  have c3b2 : (l0.length == l1.length) = false := by first | simpa using c3 | (simp at c3 ⊢; omega)
  obtain rfl := Option.some.inj H
  go_enter Try.func81, Try.ntmps81
  go_wp2
  repeat (go_quiet (fail); try go_wp2)
  go_ret
  exact ⟨by first | rfl | (simp; done) | (simp [*]; done), by repeat (first | exact Drawn0.refl _ | apply Drawn0.step)⟩
end Go.Proofs.Ytjgdalhdiohclaa.Q
end
/-! Part QColorCount -/
section
namespace Go.Proofs.Ytjgdalhdiohclaa.Q
attribute [local go_sem] max2_int min2_int max_two min_two max_three min_three max_four min_four
set_option linter.unusedVariables false
set_option linter.unusedSimpArgs false
def color_count.l0 : Nat → Int → List (List (List Int)) → Int → Int → Option (Int × Bool)
 | 0, _, _, _, _ => none
 | k + 1, x4, x7, x8, x9 => if x9 < x8 then (if 0 ≤ x9 then (if x9 < (x7.length : Int) then (if ((rd_L2 x7 x9).length : Int) = 0 then (none) else (if x4 > (wrap64 ((1152921504606846976 : Int) / ((rd_L2 x7 x9).length : Int))) then (some (0, false)) else (color_count.l0 k (wrap64 (x4 * ((rd_L2 x7 x9).length : Int))) x7 x8 (wrap64 (x9 + 1))))) else (none)) else (none)) else (some (x4, true))
def color_count.f (k : Nat) (l0 : List (List (List Int))) : Option (Int × Bool) := color_count.l0 k 1 l0 (l0.length : Int) 0
theorem color_count.mono_l : ∀ k, (∀ y0 y1 y2 y3, LeO (color_count.l0 k y0 y1 y2 y3) (color_count.l0 (k + 1) y0 y1 y2 y3))
 | 0 => fun _ _ _ _ r h => by simp [color_count.l0] at h
 | k + 1 => by
  have ih0 := color_count.mono_l k
  ·intro y0 y1 y2 y3
   unfold color_count.l0
   repeat' first
   | (with_reducible exact ih0 _ _ _ _)
   | (with_reducible exact LeO.refl _)
   | (with_reducible exact LeO.none _)
   | (with_reducible refine LeO.ite ?_ ?_)
   | (with_reducible refine LeO.bind ?_ (fun _ => ?_))
   | exact ih0 _ _ _ _
   | exact LeO.none _
   | refine LeO.ite ?_ ?_
   | refine LeO.bind ?_ (fun _ => ?_)
theorem color_count.mono : ∀ a0 k, LeO (color_count.f k a0) (color_count.f (k + 1) a0) := by
 intro a0 k
 have ih0 := color_count.mono_l k
 unfold color_count.f
 repeat' first
   | (with_reducible exact ih0 _ _ _ _)
   | (with_reducible exact LeO.refl _)
   | (with_reducible exact LeO.none _)
   | (with_reducible refine LeO.ite ?_ ?_)
   | (with_reducible refine LeO.bind ?_ (fun _ => ?_))
   | exact ih0 _ _ _ _
   | exact LeO.none _
   | refine LeO.ite ?_ ?_
   | refine LeO.bind ?_ (fun _ => ?_)
set_option maxHeartbeats 8000000 in
set_option maxRecDepth 100000 in
theorem color_count.calls (k : Nat) (A0 : Option Addr) (c0 : Nat) (l0 : List (List (List Int))) (r1 : Int) (r2 : Bool) (w : World) (hr0 : Kd.C (Kd.slice 28 (Kd.slice 3 (Kd.int .i64))) w A0 l0.length l0) (hc0 : l0.length ≤ c0) (h : color_count.f k l0 = some (r1, r2)) :
  Calls Try.prog 85 #[.slice A0 l0.length c0] w fun e w' => e = .returned (.tuple #[.int .i64 r1, .bool r2]) ∧ Drawn0 w w' := by
 have HR0 := am hr0
 have HC0 := am hc0
 clear hr0 hc0
 have H : (color_count.l0 k 1 l0 (l0.length : Int) 0) = some (r1, r2) := h
 clear h
 have H' := am H
 clear H
 go_enter Try.func85, Try.ntmps85
 go_wp2
 go_loopg [4, 9] k (fun kq v4 v9 w' => ∃ (x4_1 : Int) (x9_1 : Int), v4 = .int .i64 x4_1 ∧ v9 = .int .i64 x9_1 ∧ Aside0 (color_count.l0 kq x4_1 l0 (l0.length : Int) x9_1 = some (r1, r2)) ∧ Aside0 (kq ≤ k) ∧ Drawn0 w w')
 case atStart => exact ⟨(1), (0), zz3, zz3, H', ⟨Nat.le_refl _⟩, by repeat (first | exact Drawn0.refl _ | apply Drawn0.step)⟩
 case round =>
  clear H'
  obtain ⟨x4_1, x9_1, rfl, rfl, HA, HK1, ⟨m1, rfl⟩⟩ := hrel
  cases gk with
  | zero => exact absurd HA.out (by simp [color_count.l0])
  | succ k1 =>
   have H := HA.out
   clear HA
   simp only [color_count.l0] at H
   by_cases c2 : x9_1 < (l0.length : Int)
   ·rw [if_pos c2] at H
    have c2b0 : decide (x9_1 < (l0.length : Int)) = true := decide_eq_true c2
    clear c2
    by_cases c3 : 0 ≤ x9_1
    ·rw [if_pos c3] at H
     have c3b0 : decide (0 ≤ x9_1) = true := decide_eq_true c3
     clear c3
     by_cases c4 : x9_1 < (l0.length : Int)
     ·rw [if_pos c4] at H
      have c4b0 : decide (x9_1 < (l0.length : Int)) = true := decide_eq_true c4
      clear c4
      by_cases c5 : ((rd_L2 l0 x9_1).length : Int) = 0
      ·rw [if_pos c5] at H
       exact absurd H (by simp)
      ·rw [if_neg c5] at H
       have c5b0 : (((rd_L2 l0 x9_1).length : Int) == 0) = false := beq_eq_false_iff_ne.mpr c5
       have c5b1 : (((rd_L2 l0 x9_1).length : Int) != 0) = true := bne_iff_ne.mpr c5
       have c5b2 : ¬ ((rd_L2 l0 x9_1) = []) := fun h_ => c5 (by rw [h_]; rfl)
       by_cases c6 : x4_1 > (wrap64 ((1152921504606846976 : Int) / ((rd_L2 l0 x9_1).length : Int)))
       ·rw [if_pos c6] at H
        have c6b0 : decide ((wrap64 ((1152921504606846976 : Int) / ((rd_L2 l0 x9_1).length : Int))) < x4_1) = true := decide_eq_true c6
        rw [show wrap64 ((1152921504606846976 : Int) / ((rd_L2 l0 x9_1).length : Int)) = (1152921504606846976 : Int) / ((rd_L2 l0 x9_1).length : Int) from (by have h1_ : (0 : Int) ≤ (1152921504606846976 : Int) / ((rd_L2 l0 x9_1).length : Int) := Int.ediv_nonneg (by decide) (Int.natCast_nonneg _); have h2_ : (1152921504606846976 : Int) / ((rd_L2 l0 x9_1).length : Int) ≤ 1152921504606846976 := Int.ediv_le_self _ (by decide); generalize (1152921504606846976 : Int) / ((rd_L2 l0 x9_1).length : Int) = q_ at h1_ h2_ ⊢; unfold wrap64; omega)] at c6b0
        clear c6
        simp only [Option.some.injEq, Prod.mk.injEq] at H
        obtain ⟨rfl, rfl⟩ := H
        have p297 : 0 ≤ (x9_1 : Int) := od zz2
        have q297 : x9_1 < (l0.length : Int) := od zz2
        obtain ⟨ad297, A297_0, c297_0, e297, hx297_0, hl297_0, hi297_0⟩ := at_L2 HR0.out x9_1 p297 q297
        cases e297
        have HR297_0 := am hi297_0
        have HC297_0 := am hl297_0
        clear hi297_0 hl297_0
        replace p297 := eq_true p297
        replace q297 := eq_true q297
        go_wp2
        go_ret2
        exact ⟨by first | rfl | (simp; done) | (simp [*]; done), by repeat (first | exact Drawn0.refl _ | apply Drawn0.step)⟩
       ·rw [if_neg c6] at H
        have c6b0 : decide ((wrap64 ((1152921504606846976 : Int) / ((rd_L2 l0 x9_1).length : Int))) < x4_1) = false := decide_eq_false c6
        rw [show wrap64 ((1152921504606846976 : Int) / ((rd_L2 l0 x9_1).length : Int)) = (1152921504606846976 : Int) / ((rd_L2 l0 x9_1).length : Int) from (by have h1_ : (0 : Int) ≤ (1152921504606846976 : Int) / ((rd_L2 l0 x9_1).length : Int) := Int.ediv_nonneg (by decide) (Int.natCast_nonneg _); have h2_ : (1152921504606846976 : Int) / ((rd_L2 l0 x9_1).length : Int) ≤ 1152921504606846976 := Int.ediv_le_self _ (by decide); generalize (1152921504606846976 : Int) / ((rd_L2 l0 x9_1).length : Int) = q_ at h1_ h2_ ⊢; unfold wrap64; omega)] at c6b0
        clear c6
        have H' := am H
        clear H
        have p297 : 0 ≤ (x9_1 : Int) := od zz2
        have q297 : x9_1 < (l0.length : Int) := od zz2
        obtain ⟨ad297, A297_0, c297_0, e297, hx297_0, hl297_0, hi297_0⟩ := at_L2 HR0.out x9_1 p297 q297
        cases e297
        have HR297_0 := am hi297_0
        have HC297_0 := am hl297_0
        clear hi297_0 hl297_0
        replace p297 := eq_true p297
        replace q297 := eq_true q297
        go_wp2
        go_roundg k1
        case measure => have := HK1.out; omega
        case rel => exact ⟨(wrap64 (x4_1 * ((rd_L2 l0 x9_1).length : Int))), (wrap64 (x9_1 + 1)), zz3, zz3, H', ⟨by have := HK1.out; omega⟩, by repeat (first | exact Drawn0.refl _ | apply Drawn0.step)⟩
     ·rw [if_neg c4] at H
      exact absurd H (by simp)
    ·rw [if_neg c3] at H
     exact absurd H (by simp)
   ·rw [if_neg c2] at H
    have c2b0 : decide (x9_1 < (l0.length : Int)) = false := decide_eq_false c2
    clear c2
    simp only [Option.some.injEq, Prod.mk.injEq] at H
    obtain ⟨rfl, rfl⟩ := H
    go_wp2
    go_ret2
    exact ⟨by first | rfl | (simp; done) | (simp [*]; done), by repeat (first | exact Drawn0.refl _ | apply Drawn0.step)⟩
end Go.Proofs.Ytjgdalhdiohclaa.Q
end
/-! Part QRef01Run -/
section
namespace Go.Proofs.Ytjgdalhdiohclaa.Q
attribute [local go_sem] max2_int min2_int max_two min_two max_three min_three max_four min_four
set_option linter.unusedVariables false
set_option linter.unusedSimpArgs false
def mizmazeref01_Run.l0 : Nat → Int → List Int → Int → List (List Int) → Option (Int)
 | 0, _, _, _, _ => none
 | k + 1, x1, x2, x7, x406000 => if x7 < (x2.length : Int) then (if 0 ≤ x1 then (if x1 < (x406000.length : Int) then (if 0 ≤ x7 then (if 0 ≤ (rd x2 x7) then (if (rd x2 x7) < ((rd_L1 x406000 x1).length : Int) then (mizmazeref01_Run.l0 k (rd (rd_L1 x406000 x1) (rd x2 x7)) x2 (wrap64 (x7 + 1)) x406000) else (none)) else (none)) else (none)) else (none)) else (none)) else (some x1)
def mizmazeref01_Run.f (k : Nat) (l0_0 : List (List Int)) (a1 : Int) (l2 : List Int) : Option (Int) := mizmazeref01_Run.l0 k a1 l2 0 l0_0
theorem mizmazeref01_Run.mono_l : ∀ k, (∀ y0 y1 y2 y3, LeO (mizmazeref01_Run.l0 k y0 y1 y2 y3) (mizmazeref01_Run.l0 (k + 1) y0 y1 y2 y3))
 | 0 => fun _ _ _ _ r h => by simp [mizmazeref01_Run.l0] at h
 | k + 1 => by
  have ih0 := mizmazeref01_Run.mono_l k
  ·intro y0 y1 y2 y3
   unfold mizmazeref01_Run.l0
   repeat' first
   | (with_reducible exact ih0 _ _ _ _)
   | (with_reducible exact LeO.refl _)
   | (with_reducible exact LeO.none _)
   | (with_reducible refine LeO.ite ?_ ?_)
   | (with_reducible refine LeO.bind ?_ (fun _ => ?_))
   | exact ih0 _ _ _ _
   | exact LeO.none _
   | refine LeO.ite ?_ ?_
   | refine LeO.bind ?_ (fun _ => ?_)
theorem mizmazeref01_Run.mono : ∀ a0 a1 a2 k, LeO (mizmazeref01_Run.f k a0 a1 a2) (mizmazeref01_Run.f (k + 1) a0 a1 a2) := by
 intro a0 a1 a2 k
 have ih0 := mizmazeref01_Run.mono_l k
 unfold mizmazeref01_Run.f
 repeat' first
   | (with_reducible exact ih0 _ _ _ _)
   | (with_reducible exact LeO.refl _)
   | (with_reducible exact LeO.none _)
   | (with_reducible refine LeO.ite ?_ ?_)
   | (with_reducible refine LeO.bind ?_ (fun _ => ?_))
   | exact ih0 _ _ _ _
   | exact LeO.none _
   | refine LeO.ite ?_ ?_
   | refine LeO.bind ?_ (fun _ => ?_)
set_option maxHeartbeats 8000000 in
set_option maxRecDepth 100000 in
theorem mizmazeref01_Run.calls (k : Nat) (A0_0 : Option Addr) (c0_0 : Nat) (l0_0 : List (List Int)) (a1 : Int) (A2 : Option Addr) (c2 : Nat) (l2 : List Int) (r : Int) (w : World) (hr0_0 : Kd.C (Kd.slice 3 (Kd.int .i64)) w A0_0 l0_0.length l0_0) (hc0_0 : l0_0.length ≤ c0_0) (hr2 : Kd.C (Kd.int .i64) w A2 l2.length l2) (hc2 : l2.length ≤ c2) (h : mizmazeref01_Run.f k l0_0 a1 l2 = some r) :
  Calls Try.prog 131 #[.agg #[.slice A0_0 l0_0.length c0_0], .int .i64 a1, .slice A2 l2.length c2] w fun e w' => e = .returned (.int .i64 r) ∧ Below w.heap.size w w' := by
 have hu24 := Try.underlying24
 have HR0_0 := am hr0_0
 have HC0_0 := am hc0_0
 clear hr0_0 hc0_0
 have HR2 := am hr2
 have HC2 := am hc2
 clear hr2 hc2
 have HB := am (Below.refl w.heap.size w)
 have H : (mizmazeref01_Run.l0 k a1 l2 0 l0_0) = some r := h
 clear h
 have H' := am H
 clear H
 go_enter Try.func131, Try.ntmps131
 go_wp2_with (first | ((with_reducible refine gate_dst (N := 3) rfl ?_); refine box_event ?hg (N := 3) ?hd (cs := #[.slice A0_0 l0_0.length c0_0]) (t := 24) ?hr ?_; (case hd => rfl); (case hg => rfl); (case hr => first | (go_simp; done) | (go_simp; rfl)); intro gb405 hg w4 hbox hb; have BK405 := am (hbox); have GW405 := am ((by rw [hg]; exact (below_size (bw HB.out)) : w.heap.size ≤ gb405)); have GE405 := am ((by rw [hg]; exact (below_size (bw HB.out)) : w.heap.size ≤ gb405)); replace HB := am (below_step (bw HB.out) hb); clear hb hbox hg))
 repeat (go_quiet (first | ((with_reducible refine gate_dst (N := 3) rfl ?_); refine box_event ?hg (N := 3) ?hd (cs := #[.slice A0_0 l0_0.length c0_0]) (t := 24) ?hr ?_; (case hd => rfl); (case hg => rfl); (case hr => first | (go_simp; done) | (go_simp; rfl)); intro gb405 hg w4 hbox hb; have BK405 := am (hbox); have GW405 := am ((by rw [hg]; exact (below_size (bw HB.out)) : w.heap.size ≤ gb405)); have GE405 := am ((by rw [hg]; exact (below_size (bw HB.out)) : w.heap.size ≤ gb405)); replace HB := am (below_step (bw HB.out) hb); clear hb hbox hg)); try go_wp2_with (first | ((with_reducible refine gate_dst (N := 3) rfl ?_); refine box_event ?hg (N := 3) ?hd (cs := #[.slice A0_0 l0_0.length c0_0]) (t := 24) ?hr ?_; (case hd => rfl); (case hg => rfl); (case hr => first | (go_simp; done) | (go_simp; rfl)); intro gb405 hg w4 hbox hb; have BK405 := am (hbox); have GW405 := am ((by rw [hg]; exact (below_size (bw HB.out)) : w.heap.size ≤ gb405)); have GE405 := am ((by rw [hg]; exact (below_size (bw HB.out)) : w.heap.size ≤ gb405)); replace HB := am (below_step (bw HB.out) hb); clear hb hbox hg)))
 go_loopg [1, 7] k (fun kq v1 v7 w' => ∃ (x1_1 : Int) (x7_1 : Int), v1 = .int .i64 x1_1 ∧ v7 = .int .i64 x7_1 ∧ Aside0 (mizmazeref01_Run.l0 kq x1_1 l2 x7_1 l0_0 = some r) ∧ Aside0 (kq ≤ k) ∧ Aside0 (w'.heap[gb405]? = some (.cells #[(.slice A0_0 l0_0.length c0_0)] 24 (0, 0))) ∧ Aside0 (Below w.heap.size w w'))
 case atStart => exact ⟨(a1), (0), zz3, zz3, H', ⟨Nat.le_refl _⟩, ⟨by (with_reducible repeat (first | refine blk_drewN ?_ _ | refine blk_drew ?_ | refine blk_alloc ?_ _)); exact BK405.out⟩, ⟨by repeat (first | (with_reducible first | exact HB.out | apply ba | apply pb | apply bd | refine below_set ?_ GE405.out) | exact HB.out)⟩⟩
 case round =>
  clear H'
  try clear c1
  try clear c2
  try clear p2
  obtain ⟨x1_1, x7_1, rfl, rfl, HA, HK1, BK405, HB⟩ := hrel
  cases gk with
  | zero => exact absurd HA.out (by simp [mizmazeref01_Run.l0])
  | succ k1 =>
   have H := HA.out
   clear HA
   simp only [mizmazeref01_Run.l0] at H
   by_cases c5 : x7_1 < (l2.length : Int)
   ·rw [if_pos c5] at H
    have c5b0 : decide (x7_1 < (l2.length : Int)) = true := decide_eq_true c5
    clear c5
    by_cases c6 : 0 ≤ x1_1
    ·rw [if_pos c6] at H
     have c6b0 : decide (0 ≤ x1_1) = true := decide_eq_true c6
     clear c6
     by_cases c7 : x1_1 < (l0_0.length : Int)
     ·rw [if_pos c7] at H
      have c7b0 : decide (x1_1 < (l0_0.length : Int)) = true := decide_eq_true c7
      clear c7
      by_cases c8 : 0 ≤ x7_1
      ·rw [if_pos c8] at H
       have c8b0 : decide (0 ≤ x7_1) = true := decide_eq_true c8
       clear c8
       by_cases c9 : 0 ≤ (rd l2 x7_1)
       ·rw [if_pos c9] at H
        have c9b0 : decide (0 ≤ (rd l2 x7_1)) = true := decide_eq_true c9
        clear c9
        by_cases c10 : (rd l2 x7_1) < ((rd_L1 l0_0 x1_1).length : Int)
        ·rw [if_pos c10] at H
         have c10b0 : decide ((rd l2 x7_1) < ((rd_L1 l0_0 x1_1).length : Int)) = true := decide_eq_true c10
         clear c10
         have H' := am H
         clear H
         have hcz11_0 : wr.cell? ⟨gb405, 0, none⟩ = some (.slice A0_0 l0_0.length c0_0) := (blk_cell BK405.out 0).trans rfl
         have hfz11_0 := blk_frozen BK405.out 0
         have p406 : 0 ≤ (x1_1 : Int) := od zz2
         have q406 : x1_1 < (l0_0.length : Int) := od zz2
         obtain ⟨ad406, A406_0, c406_0, e406, hx406_0, hl406_0, hi406_0⟩ := at_L1 HR0_0.out x1_1 p406 q406
         cases e406
         replace hx406_0 := (HB.out.cell (World.block_lt_of_cell? w _ hx406_0)).trans hx406_0
         have HR406_0 := am hi406_0
         have HC406_0 := am hl406_0
         clear hi406_0 hl406_0
         replace p406 := eq_true p406
         replace q406 := eq_true q406
         have p407 : 0 ≤ (x7_1 : Int) := od zz2
         have q407 : x7_1 < (l2.length : Int) := od zz2
         obtain ⟨ad407, e407, hx407_0⟩ := Kd.at_int HR2.out x7_1 p407 q407
         cases e407
         replace hx407_0 := (HB.out.cell (World.block_lt_of_cell? w _ hx407_0)).trans hx407_0
         replace p407 := eq_true p407
         replace q407 := eq_true q407
         have p408 : 0 ≤ ((rd l2 x7_1) : Int) := od zz2
         have q408 : (rd l2 x7_1) < ((rd_L1 l0_0 x1_1).length : Int) := od zz2
         obtain ⟨ad408, e408, hx408_0⟩ := Kd.at_int HR406_0.out (rd l2 x7_1) p408 q408
         cases e408
         replace hx408_0 := (HB.out.cell (World.block_lt_of_cell? w _ hx408_0)).trans hx408_0
         replace p408 := eq_true p408
         replace q408 := eq_true q408
         go_wp2
         repeat (go_quiet (fail); try go_wp2)
         go_roundg k1
         case measure => have := HK1.out; omega
         case rel => exact ⟨(rd (rd_L1 l0_0 x1_1) (rd l2 x7_1)), (wrap64 (x7_1 + 1)), zz3, zz3, H', ⟨by have := HK1.out; omega⟩, ⟨by (with_reducible repeat (first | refine blk_drewN ?_ _ | refine blk_drew ?_ | refine blk_alloc ?_ _)); exact BK405.out⟩, ⟨by repeat (first | (with_reducible first | exact HB.out | apply ba | apply pb | apply bd | refine below_set ?_ GE405.out) | exact HB.out)⟩⟩
        ·rw [if_neg c10] at H
         exact absurd H (by simp)
       ·rw [if_neg c9] at H
        exact absurd H (by simp)
      ·rw [if_neg c8] at H
       exact absurd H (by simp)
     ·rw [if_neg c7] at H
      exact absurd H (by simp)
    ·rw [if_neg c6] at H
     exact absurd H (by simp)
   ·rw [if_neg c5] at H
    have c5b0 : decide (x7_1 < (l2.length : Int)) = false := decide_eq_false c5
    clear c5
    obtain rfl := Option.some.inj H
    go_wp2
    repeat (go_quiet (fail); try go_wp2)
    go_ret
    exact ⟨by first | rfl | (simp [errW_none, errW_some] <;> rfl) | (simp [*, errW_none, errW_some] <;> rfl), by repeat (first | (with_reducible first | exact HB.out | apply ba | apply pb | apply bd | refine below_set ?_ GE405.out) | exact HB.out)⟩
end Go.Proofs.Ytjgdalhdiohclaa.Q
end
/-! Part QRef01Ends -/
section
namespace Go.Proofs.Ytjgdalhdiohclaa.Q
attribute [local go_sem] max2_int min2_int max_two min_two max_three min_three max_four min_four
set_option linter.unusedVariables false
set_option linter.unusedSimpArgs false
def mizmazeref01_Ends.l0 : Nat → List Int → List Int → Int → List (List Int) → Option (List Int)
 | 0, _, _, _, _ => none
 | k + 1, x1, x5, x6, x410000 => if x6 < (x410000.length : Int) then ((mizmazeref01_Run.f k x410000 x6 x1).bind fun t410 => (if x5.length < 17592186044416 then (mizmazeref01_Ends.l0 k x1 (x5 ++ [t410]) (wrap64 (x6 + 1)) x410000) else (none))) else (some x5)
def mizmazeref01_Ends.f (k : Nat) (l0_0 : List (List Int)) (l1 : List Int) : Option (List Int) := mizmazeref01_Ends.l0 k l1 ([] : List Int) 0 l0_0
theorem mizmazeref01_Ends.mono_l : ∀ k, (∀ y0 y1 y2 y3, LeO (mizmazeref01_Ends.l0 k y0 y1 y2 y3) (mizmazeref01_Ends.l0 (k + 1) y0 y1 y2 y3))
 | 0 => fun _ _ _ _ r h => by simp [mizmazeref01_Ends.l0] at h
 | k + 1 => by
  have ih0 := mizmazeref01_Ends.mono_l k
  ·intro y0 y1 y2 y3
   unfold mizmazeref01_Ends.l0
   repeat' first
   | (with_reducible exact ih0 _ _ _ _)
   | (with_reducible exact mizmazeref01_Run.mono _ _ _ _)
   | (with_reducible exact LeO.refl _)
   | (with_reducible exact LeO.none _)
   | (with_reducible refine LeO.ite ?_ ?_)
   | (with_reducible refine LeO.bind ?_ (fun _ => ?_))
   | exact ih0 _ _ _ _
   | exact mizmazeref01_Run.mono _ _ _ _
   | exact LeO.none _
   | refine LeO.ite ?_ ?_
   | refine LeO.bind ?_ (fun _ => ?_)
theorem mizmazeref01_Ends.mono : ∀ a0 a1 k, LeO (mizmazeref01_Ends.f k a0 a1) (mizmazeref01_Ends.f (k + 1) a0 a1) := by
 intro a0 a1 k
 have ih0 := mizmazeref01_Ends.mono_l k
 unfold mizmazeref01_Ends.f
 repeat' first
   | (with_reducible exact ih0 _ _ _ _)
   | (with_reducible exact mizmazeref01_Run.mono _ _ _ _)
   | (with_reducible exact LeO.refl _)
   | (with_reducible exact LeO.none _)
   | (with_reducible refine LeO.ite ?_ ?_)
   | (with_reducible refine LeO.bind ?_ (fun _ => ?_))
   | exact ih0 _ _ _ _
   | exact mizmazeref01_Run.mono _ _ _ _
   | exact LeO.none _
   | refine LeO.ite ?_ ?_
   | refine LeO.bind ?_ (fun _ => ?_)
set_option maxHeartbeats 8000000 in
set_option maxRecDepth 100000 in
theorem mizmazeref01_Ends.calls (k : Nat) (A0_0 : Option Addr) (c0_0 : Nat) (l0_0 : List (List Int)) (A1 : Option Addr) (c1 : Nat) (l1 : List Int) (r : List Int) (w : World) (hr0_0 : Kd.C (Kd.slice 3 (Kd.int .i64)) w A0_0 l0_0.length l0_0) (hc0_0 : l0_0.length ≤ c0_0) (hr1 : Kd.C (Kd.int .i64) w A1 l1.length l1) (hc1 : l1.length ≤ c1) (h : mizmazeref01_Ends.f k l0_0 l1 = some r) :
  Calls Try.prog 112 #[.agg #[.slice A0_0 l0_0.length c0_0], .slice A1 l1.length c1] w fun e w' => ∃ v0_ : Value, e = .returned (v0_) ∧ Kd.R (Kd.int .i64) 3 w' w.heap.size (fun _ => True) v0_ r ∧ Below w.heap.size w w' := by
 have hu24 := Try.underlying24
 have HR0_0 := am hr0_0
 have HC0_0 := am hc0_0
 clear hr0_0 hc0_0
 have HR1 := am hr1
 have HC1 := am hc1
 clear hr1 hc1
 have HB := am (Below.refl w.heap.size w)
 have H : (mizmazeref01_Ends.l0 k l1 ([] : List Int) 0 l0_0) = some r := h
 clear h
 have H' := am H
 clear H
 go_enter Try.func112, Try.ntmps112
 go_wp2_with (first | ((with_reducible refine gate_dst (N := 2) rfl ?_); refine box_event ?hg (N := 2) ?hd (cs := #[.slice A0_0 l0_0.length c0_0]) (t := 24) ?hr ?_; (case hd => rfl); (case hg => rfl); (case hr => first | (go_simp; done) | (go_simp; rfl)); intro gb409 hg w3 hbox hb; have BK409 := am (hbox); have GW409 := am ((by rw [hg]; exact (below_size (bw HB.out)) : w.heap.size ≤ gb409)); have GE409 := am ((by rw [hg]; exact (below_size (bw HB.out)) : w.heap.size ≤ gb409)); replace HB := am (below_step (bw HB.out) hb); clear hb hbox hg))
 go_loopg [5, 6] k (fun kq v5 v6 w' => ∃ (x5_1 : List Int) (x6_1 : Int), v6 = .int .i64 x6_1 ∧ Aside0 (mizmazeref01_Ends.l0 kq l1 x5_1 x6_1 l0_0 = some r) ∧ Aside0 (kq ≤ k) ∧ Aside0 (Kd.R (Kd.int .i64) 3 w' w.heap.size (fun _ => True) v5 x5_1) ∧ Aside0 (w'.heap[gb409]? = some (.cells #[(.slice A0_0 l0_0.length c0_0)] 24 (0, 0))) ∧ Aside0 (Below w.heap.size w w'))
 case atStart => exact ⟨(([] : List Int)), (0), zz3, H', ⟨Nat.le_refl _⟩, ⟨by first | exact Kd.R_nil _ _ _ _ _ | exact Kd.N_nil _ _ _ _ _ | exact Kd.V_nil _ _ _ _ _ | exact Kd.Q_nil _ _ _ _ _ | exact Kd.S_nil _ _ _ _ _⟩, ⟨by (with_reducible repeat (first | refine blk_drewN ?_ _ | refine blk_drew ?_ | refine blk_alloc ?_ _)); exact BK409.out⟩, ⟨by repeat (first | (with_reducible first | exact HB.out | apply ba | apply pb | apply bd | refine below_set ?_ GE409.out) | exact HB.out)⟩⟩
 case round =>
  clear H'
  try clear c1
  try clear p2
  obtain ⟨x5_1, x6_1, rfl, HA, HK1, HO_5, BK409, HB⟩ := hrel
  cases gk with
  | zero => exact absurd HA.out (by simp [mizmazeref01_Ends.l0])
  | succ k1 =>
   have H := HA.out
   clear HA
   simp only [mizmazeref01_Ends.l0] at H
   by_cases c4 : x6_1 < (l0_0.length : Int)
   ·rw [if_pos c4] at H
    have c4b0 : decide (x6_1 < (l0_0.length : Int)) = true := decide_eq_true c4
    clear c4
    replace H := Option.bind_eq_some_iff.mp H
    obtain ⟨t410, A50, H⟩ := H
    replace H : (if x5_1.length < 17592186044416 then (mizmazeref01_Ends.l0 k1 l1 (x5_1 ++ [t410]) (wrap64 (x6_1 + 1)) l0_0) else (none)) = some r := H
    have A5 := am A50
    clear A50
    by_cases c6 : x5_1.length < 17592186044416
    ·rw [if_pos c6] at H
     have LMc6 := am c6
     clear c6
     obtain ⟨y411, hy411⟩ : ∃ y_ : List Int, y_ = (x5_1 ++ [t410]) := ⟨_, rfl⟩
     replace H : (mizmazeref01_Ends.l0 k1 l1 y411 (wrap64 (x6_1 + 1)) l0_0) = some r := by first | (rw [hy411]; with_reducible exact H) | (have H2_ := (Option.bind_some _ _).symm.trans H; rw [hy411]; with_reducible exact H2_) | (have H2_ := (Option.bind_some _ _).symm.trans H; with_reducible exact H2_) | with_reducible exact H | (rw [hy411]; exact H) | exact H
     have Ny411 := am hy411
     clear hy411
     have H' := am H
     clear H
     have hcz7_0 : wr.cell? ⟨gb409, 0, none⟩ = some (.slice A0_0 l0_0.length c0_0) := (blk_cell BK409.out 0).trans rfl
     have hfz7_0 := blk_frozen BK409.out 0
     go_wp2_with (first | ((with_reducible refine gate_callee (f := 131) rfl ?_); refine goesL_ (some 18) rfl rfl Try.func131 (by kernel_rfl) rfl #[.agg #[.slice A0_0 l0_0.length c0_0], .int .i64 x6_1, .slice A1 l1.length c1] rfl zz1 ?_; (with_reducible refine (mizmazeref01_Run.calls k1 _ _ l0_0 x6_1 _ _ l1 t410 _ ?side1 ?side2 ?side3 ?side4 A5.out).mono ?_); (case side1 => exact kc (Kd.C_below HR0_0.out HB.out)); (case side2 => exact HC0_0.out); (case side3 => exact kc (Kd.C_below HR1.out HB.out)); (case side4 => exact HC1.out); rintro e w8 ⟨rfl, hb⟩; refine ⟨_, rfl, ?_⟩; replace HO_5 := am (Kd.R_below (kR HO_5.out) hb); replace BK409 := am (blk_below (g := gb409) (o := .cells #[.slice A0_0 l0_0.length c0_0] 24 (0, 0)) (kb BK409.out) hb); replace HB := am (below_step (bs HB.out) hb); (try clear hb); (try clear hb2); (try clear hk); (try clear hi)) | ((with_reducible refine gate_builtin (b := .append) (xs := #[.tmp 14, .tmp 19]) rfl ?_); at_builtin; refine Kd.R_append (Kd.int .i64) (w0 := w) w.heap.size rfl (.tmp 14) (.tmp 19) 28 3 (.int .i64 0) 8 rfl Try.underlying28 info3 rfl (by decide) (by omega) u5 x5_1 t410 [.int .i64 t410] (fun _ => True) (fun _ => False) rfl rfl ?aP (fun _ hk => hk.elim) ?aF ?aO ?aB ?aS ?aL ?_; (case aP => exact rfl); (case aB => exact (bs HB.out)); (case aF => exact (fun _ _ => trivial)); (case aO => exact (kR HO_5.out)); (case aS => exact (below_size (bs HB.out))); (case aL => have := LMc6.out; omega); intro v412 w9 ho hb hg hat; rw [← Ny411.out] at ho; have n0_ := am (blk_grown (g := gb409) (o := .cells #[.slice A0_0 l0_0.length c0_0] 24 (0, 0)) (kb BK409.out) hg (Kd.R_ne HO_5.out BK409.out (by decide))); have n1_ := am (hb); have n2_ := am (ho); clear BK409; clear HB; clear HO_5; have BK409 := n0_; have HB := n1_; have HO413 := n2_; clear n0_ n1_ n2_; clear ho hb hg hat))
     go_roundg k1
     case measure => have := HK1.out; omega
     case rel => exact ⟨(y411), (wrap64 (x6_1 + 1)), zz3, H', ⟨by have := HK1.out; omega⟩, ⟨by (with_reducible repeat (first | apply Kd.R_alloc | apply Kd.R_drewN | apply Kd.R_drew)); exact HO413.out⟩, ⟨by (with_reducible repeat (first | refine blk_drewN ?_ _ | refine blk_drew ?_ | refine blk_alloc ?_ _)); exact BK409.out⟩, ⟨by repeat (first | (with_reducible first | exact HB.out | apply ba | apply pb | apply bd | refine below_set ?_ GE409.out) | exact HB.out)⟩⟩
    ·rw [if_neg c6] at H
     exact absurd H (by simp)
   ·rw [if_neg c4] at H
    have c4b0 : decide (x6_1 < (l0_0.length : Int)) = false := decide_eq_false c4
    clear c4
    obtain rfl := Option.some.inj H
    have hcz10_0 : wr.cell? ⟨gb409, 0, none⟩ = some (.slice A0_0 l0_0.length c0_0) := (blk_cell BK409.out 0).trans rfl
    have hfz10_0 := blk_frozen BK409.out 0
    go_wp2
    go_ret
    exact ⟨_, by first | rfl | (simp [errW_none, errW_some] <;> rfl) | (simp [*, errW_none, errW_some] <;> rfl), by (with_reducible repeat (first | apply Kd.R_alloc | apply Kd.R_drewN | apply Kd.R_drew)); exact HO_5.out, by repeat (first | (with_reducible first | exact HB.out | apply ba | apply pb | apply bd | refine below_set ?_ GE409.out) | exact HB.out)⟩
end Go.Proofs.Ytjgdalhdiohclaa.Q
end
/-! Part QRef01Image -/
section
namespace Go.Proofs.Ytjgdalhdiohclaa.Q
attribute [local go_sem] max2_int min2_int max_two min_two max_three min_three max_four min_four
set_option linter.unusedVariables false
set_option linter.unusedSimpArgs false
mutual
def mizmazeref01_Image.l0 : Nat → List Int → List Int → List Int → Int → List (List Int) → Option (List Int)
 | 0, _, _, _, _, _ => none
 | k + 1, x1, x7, x8, x10, x415000 => if x10 < (x1.length : Int) then (if 0 ≤ x10 then (if 0 ≤ (rd x1 x10) then (if (rd x1 x10) < (x7.length : Int) then (if x8.length < 17592186044416 then (mizmazeref01_Image.l0 k x1 x7 (x8 ++ [rd x7 (rd x1 x10)]) (wrap64 (x10 + 1)) x415000) else (none)) else (none)) else (none)) else (none)) else (mizmazeref01_Image.l1 k x8 ([] : List Int) 0 x415000)
def mizmazeref01_Image.l1 : Nat → List Int → List Int → Int → List (List Int) → Option (List Int)
 | 0, _, _, _, _ => none
 | k + 1, x8, x9, x11, x415000 => if x11 < (x415000.length : Int) then ((mizmazeref01_Has.f k x8 x11).bind fun t423 => (if t423 = true then (if x9.length < 17592186044416 then (mizmazeref01_Image.l1 k x8 (x9 ++ [x11]) (wrap64 (x11 + 1)) x415000) else (none)) else (mizmazeref01_Image.l1 k x8 x9 (wrap64 (x11 + 1)) x415000))) else (some x9)
end
def mizmazeref01_Image.f (k : Nat) (l0_0 : List (List Int)) (l1 : List Int) (l2 : List Int) : Option (List Int) := (mizmazeref01_Ends.f k l0_0 l2).bind fun t415 => (mizmazeref01_Image.l0 k l1 t415 ([] : List Int) 0 l0_0)
theorem mizmazeref01_Image.mono_l : ∀ k, (∀ y0 y1 y2 y3 y4, LeO (mizmazeref01_Image.l0 k y0 y1 y2 y3 y4) (mizmazeref01_Image.l0 (k + 1) y0 y1 y2 y3 y4)) ∧ (∀ y0 y1 y2 y3, LeO (mizmazeref01_Image.l1 k y0 y1 y2 y3) (mizmazeref01_Image.l1 (k + 1) y0 y1 y2 y3))
 | 0 => ⟨fun _ _ _ _ _ r h => by simp [mizmazeref01_Image.l0] at h, fun _ _ _ _ r h => by simp [mizmazeref01_Image.l1] at h⟩
 | k + 1 => by
  obtain ⟨ih0, ih1⟩ := mizmazeref01_Image.mono_l k
  refine ⟨?_, ?_⟩
  ·intro y0 y1 y2 y3 y4
   unfold mizmazeref01_Image.l0
   repeat' first
   | (with_reducible exact ih0 _ _ _ _ _)
   | (with_reducible exact ih1 _ _ _ _)
   | (with_reducible exact mizmazeref01_Ends.mono _ _ _)
   | (with_reducible exact mizmazeref01_Has.mono _ _ _)
   | (with_reducible exact LeO.refl _)
   | (with_reducible exact LeO.none _)
   | (with_reducible refine LeO.ite ?_ ?_)
   | (with_reducible refine LeO.bind ?_ (fun _ => ?_))
   | exact ih0 _ _ _ _ _
   | exact ih1 _ _ _ _
   | exact mizmazeref01_Ends.mono _ _ _
   | exact mizmazeref01_Has.mono _ _ _
   | exact LeO.none _
   | refine LeO.ite ?_ ?_
   | refine LeO.bind ?_ (fun _ => ?_)
  ·intro y0 y1 y2 y3
   unfold mizmazeref01_Image.l1
   repeat' first
   | (with_reducible exact ih0 _ _ _ _ _)
   | (with_reducible exact ih1 _ _ _ _)
   | (with_reducible exact mizmazeref01_Ends.mono _ _ _)
   | (with_reducible exact mizmazeref01_Has.mono _ _ _)
   | (with_reducible exact LeO.refl _)
   | (with_reducible exact LeO.none _)
   | (with_reducible refine LeO.ite ?_ ?_)
   | (with_reducible refine LeO.bind ?_ (fun _ => ?_))
   | exact ih0 _ _ _ _ _
   | exact ih1 _ _ _ _
   | exact mizmazeref01_Ends.mono _ _ _
   | exact mizmazeref01_Has.mono _ _ _
   | exact LeO.none _
   | refine LeO.ite ?_ ?_
   | refine LeO.bind ?_ (fun _ => ?_)
theorem mizmazeref01_Image.mono : ∀ a0 a1 a2 k, LeO (mizmazeref01_Image.f k a0 a1 a2) (mizmazeref01_Image.f (k + 1) a0 a1 a2) := by
 intro a0 a1 a2 k
 obtain ⟨ih0, ih1⟩ := mizmazeref01_Image.mono_l k
 unfold mizmazeref01_Image.f
 repeat' first
   | (with_reducible exact ih0 _ _ _ _ _)
   | (with_reducible exact ih1 _ _ _ _)
   | (with_reducible exact mizmazeref01_Ends.mono _ _ _)
   | (with_reducible exact mizmazeref01_Has.mono _ _ _)
   | (with_reducible exact LeO.refl _)
   | (with_reducible exact LeO.none _)
   | (with_reducible refine LeO.ite ?_ ?_)
   | (with_reducible refine LeO.bind ?_ (fun _ => ?_))
   | exact ih0 _ _ _ _ _
   | exact ih1 _ _ _ _
   | exact mizmazeref01_Ends.mono _ _ _
   | exact mizmazeref01_Has.mono _ _ _
   | exact LeO.none _
   | refine LeO.ite ?_ ?_
   | refine LeO.bind ?_ (fun _ => ?_)
set_option maxHeartbeats 8000000 in
set_option maxRecDepth 100000 in
theorem mizmazeref01_Image.calls (k : Nat) (A0_0 : Option Addr) (c0_0 : Nat) (l0_0 : List (List Int)) (A1 : Option Addr) (c1 : Nat) (l1 : List Int) (A2 : Option Addr) (c2 : Nat) (l2 : List Int) (r : List Int) (w : World) (hr0_0 : Kd.C (Kd.slice 3 (Kd.int .i64)) w A0_0 l0_0.length l0_0) (hc0_0 : l0_0.length ≤ c0_0) (hr1 : Kd.C (Kd.int .i64) w A1 l1.length l1) (hc1 : l1.length ≤ c1) (hr2 : Kd.C (Kd.int .i64) w A2 l2.length l2) (hc2 : l2.length ≤ c2) (h : mizmazeref01_Image.f k l0_0 l1 l2 = some r) :
  Calls Try.prog 91 #[.agg #[.slice A0_0 l0_0.length c0_0], .slice A1 l1.length c1, .slice A2 l2.length c2] w fun e w' => ∃ v0_ : Value, e = .returned (v0_) ∧ Kd.R (Kd.int .i64) 3 w' w.heap.size (fun _ => True) v0_ r ∧ Below w.heap.size w w' := by
 have hu24 := Try.underlying24
 have HR0_0 := am hr0_0
 have HC0_0 := am hc0_0
 clear hr0_0 hc0_0
 have HR1 := am hr1
 have HC1 := am hc1
 clear hr1 hc1
 have HR2 := am hr2
 have HC2 := am hc2
 clear hr2 hc2
 have HB := am (Below.refl w.heap.size w)
 have H : ((mizmazeref01_Ends.f k l0_0 l2).bind fun t415 => (mizmazeref01_Image.l0 k l1 t415 ([] : List Int) 0 l0_0)) = some r := h
 clear h
 replace H := Option.bind_eq_some_iff.mp H
 obtain ⟨t415, A40, H⟩ := H
 replace H : (mizmazeref01_Image.l0 k l1 t415 ([] : List Int) 0 l0_0) = some r := H
 have A4 := am A40
 clear A40
 have H' := am H
 clear H
 go_enter Try.func91, Try.ntmps91
 go_wp2_with (first | ((with_reducible refine gate_dst (N := 3) rfl ?_); refine box_event ?hg (N := 3) ?hd (cs := #[.slice A0_0 l0_0.length c0_0]) (t := 24) ?hr ?_; (case hd => rfl); (case hg => rfl); (case hr => first | (go_simp; done) | (go_simp; rfl)); intro gb414 hg w5 hbox hb; have BK414 := am (hbox); have GW414 := am ((by rw [hg]; exact (below_size (bw HB.out)) : w.heap.size ≤ gb414)); have GE414 := am ((by rw [hg]; exact (below_size (bw HB.out)) : w.heap.size ≤ gb414)); replace HB := am (below_step (bw HB.out) hb); clear hb hbox hg; have hcz6_0 : w5.cell? ⟨gb414, 0, none⟩ = some (.slice A0_0 l0_0.length c0_0) := (blk_cell BK414.out 0).trans rfl; have hfz6_0 := blk_frozen BK414.out 0) | ((with_reducible refine gate_callee (f := 112) rfl ?_); refine goesL_ (some 14) rfl rfl Try.func112 (by kernel_rfl) rfl #[.agg #[.slice A0_0 l0_0.length c0_0], .slice A2 l2.length c2] rfl zz1 ?_; (with_reducible refine (mizmazeref01_Ends.calls k _ _ l0_0 _ _ l2 t415 _ ?side1 ?side2 ?side3 ?side4 A4.out).mono ?_); (case side1 => exact kc (Kd.C_below HR0_0.out HB.out)); (case side2 => exact HC0_0.out); (case side3 => exact kc (Kd.C_below HR2.out HB.out)); (case side4 => exact HC2.out); rintro e w7 ⟨v416, rfl, ho0, hb⟩; refine ⟨_, rfl, ?_⟩; have HO417 := am (Kd.R_lower ho0 (below_size (bs HB.out))); replace BK414 := am (blk_below (g := gb414) (o := .cells #[.slice A0_0 l0_0.length c0_0] 24 (0, 0)) (kb BK414.out) hb); replace HB := am (below_step (bs HB.out) hb); (try clear hb); (try clear hb2); (try clear hk); (try clear hi); (try clear ho0)))
 go_loopg [8, 10] k (fun kq v8 v10 w' => ∃ (x8_1 : List Int) (x10_1 : Int), v10 = .int .i64 x10_1 ∧ Aside0 (mizmazeref01_Image.l0 kq l1 t415 x8_1 x10_1 l0_0 = some r) ∧ Aside0 (kq ≤ k) ∧ Aside0 (Kd.R (Kd.int .i64) 3 w' w.heap.size (fun k_ => some k_ ≠ (v8 : Value).ownBlock) v416 t415) ∧ Aside0 (Kd.R (Kd.int .i64) 3 w' w.heap.size (fun k_ => some k_ ≠ (v416 : Value).ownBlock) v8 x8_1) ∧ Aside0 (w'.heap[gb414]? = some (.cells #[(.slice A0_0 l0_0.length c0_0)] 24 (0, 0))) ∧ Aside0 (Below w.heap.size w w'))
 case atStart => exact ⟨(([] : List Int)), (0), zz3, H', ⟨Nat.le_refl _⟩, ⟨by (with_reducible repeat (first | apply Kd.R_alloc | apply Kd.R_drewN | apply Kd.R_drew)); exact Kd.R_mono HO417.out (fun _ hk => (by simp [Value.ownBlock]))⟩, ⟨by first | exact Kd.R_nil _ _ _ _ _ | exact Kd.N_nil _ _ _ _ _ | exact Kd.V_nil _ _ _ _ _ | exact Kd.Q_nil _ _ _ _ _ | exact Kd.S_nil _ _ _ _ _⟩, ⟨by (with_reducible repeat (first | refine blk_drewN ?_ _ | refine blk_drew ?_ | refine blk_alloc ?_ _)); exact BK414.out⟩, ⟨by repeat (first | (with_reducible first | exact HB.out | apply ba | apply pb | apply bd | refine below_set ?_ GE414.out) | exact HB.out)⟩⟩
 case round =>
  clear H'
  try clear c1
  try clear c2
  try clear p2
  try clear hcz6_0
  try clear hfz6_0
  obtain ⟨x8_1, x10_1, rfl, HA, HK1, HO_7, HO_8, BK414, HB⟩ := hrel
  cases gk with
  | zero => exact absurd HA.out (by simp [mizmazeref01_Image.l0])
  | succ k1 =>
   have H := HA.out
   clear HA
   simp only [mizmazeref01_Image.l0] at H
   by_cases c8 : x10_1 < (l1.length : Int)
   ·rw [if_pos c8] at H
    have c8b0 : decide (x10_1 < (l1.length : Int)) = true := decide_eq_true c8
    clear c8
    by_cases c9 : 0 ≤ x10_1
    ·rw [if_pos c9] at H
     have c9b0 : decide (0 ≤ x10_1) = true := decide_eq_true c9
     clear c9
     by_cases c10 : 0 ≤ (rd l1 x10_1)
     ·rw [if_pos c10] at H
      have c10b0 : decide (0 ≤ (rd l1 x10_1)) = true := decide_eq_true c10
      clear c10
      by_cases c11 : (rd l1 x10_1) < (t415.length : Int)
      ·rw [if_pos c11] at H
       have c11b0 : decide ((rd l1 x10_1) < (t415.length : Int)) = true := decide_eq_true c11
       clear c11
       by_cases c12 : x8_1.length < 17592186044416
       ·rw [if_pos c12] at H
        have LMc12 := am c12
        clear c12
        obtain ⟨y420, hy420⟩ : ∃ y_ : List Int, y_ = (x8_1 ++ [rd t415 (rd l1 x10_1)]) := ⟨_, rfl⟩
        replace H : (mizmazeref01_Image.l0 k1 l1 t415 y420 (wrap64 (x10_1 + 1)) l0_0) = some r := by first | (rw [hy420]; with_reducible exact H) | (have H2_ := (Option.bind_some _ _).symm.trans H; rw [hy420]; with_reducible exact H2_) | (have H2_ := (Option.bind_some _ _).symm.trans H; with_reducible exact H2_) | with_reducible exact H | (rw [hy420]; exact H) | exact H
        have Ny420 := am hy420
        clear hy420
        have H' := am H
        clear H
        have p418 : 0 ≤ (x10_1 : Int) := od zz2
        have q418 : x10_1 < (l1.length : Int) := od zz2
        obtain ⟨ad418, e418, hx418_0⟩ := Kd.at_int HR1.out x10_1 p418 q418
        cases e418
        replace hx418_0 := (HB.out.cell (World.block_lt_of_cell? w _ hx418_0)).trans hx418_0
        replace p418 := eq_true p418
        replace q418 := eq_true q418
        obtain ⟨Ao13, co13, eo13⟩ := Kd.R_slice HO_7.out
        subst eo13
        have p419 : 0 ≤ ((rd l1 x10_1) : Int) := od zz2
        have q419 : (rd l1 x10_1) < (t415.length : Int) := od zz2
        obtain ⟨ad419, e419, hx419_0⟩ := Kd.at_int (Kd.R_reads' HO_7.out).2.2 (rd l1 x10_1) p419 q419
        cases e419
        replace p419 := eq_true p419
        replace q419 := eq_true q419
        go_wp2_with (first | ((with_reducible refine gate_builtin (b := .append) (xs := #[.tmp 21, .tmp 29]) rfl ?_); at_builtin; refine Kd.R_append (Kd.int .i64) (w0 := w) w.heap.size rfl (.tmp 21) (.tmp 29) 28 3 (.int .i64 0) 8 rfl Try.underlying28 info3 rfl (by decide) (by omega) u8 x8_1 (rd t415 (rd l1 x10_1)) [.int .i64 (rd t415 (rd l1 x10_1))] (fun k_ => some k_ ≠ (.slice (some ad419) t415.length co13 : Value).ownBlock) (fun _ => False) rfl rfl ?aP (fun _ hk => hk.elim) ?aF ?aO ?aB ?aS ?aL ?_; (case aP => exact rfl); (case aB => exact (bs HB.out)); (case aF => exact (fun k_ hk => Kd.fresh' (Kd.R_lt (kR HO_7.out)) k_ hk)); (case aO => exact (kR HO_8.out)); (case aS => exact (below_size (bs HB.out))); (case aL => have := LMc12.out; omega); intro v421 w14 ho hb hg hat; rw [← Ny420.out] at ho; have n0_ := am (Kd.R_after (ok := (fun _ => True)) (by (with_reducible repeat (first | apply Kd.R_alloc | apply Kd.R_drewN | apply Kd.R_drew)); exact Kd.R_mono HO_7.out (fun _ hk => ⟨trivial, hk⟩)) hg hat); have n1_ := am (blk_grown (g := gb414) (o := .cells #[.slice A0_0 l0_0.length c0_0] 24 (0, 0)) (kb BK414.out) hg (Kd.R_ne HO_8.out BK414.out (by decide))); have n2_ := am (hb); have n3_ := am (ho); clear HO_7; clear BK414; clear HB; clear HO_8; have HO_7 := n0_; have BK414 := n1_; have HB := n2_; have HO422 := n3_; clear n0_ n1_ n2_ n3_; clear ho hb hg hat))
        go_roundg k1
        case measure => have := HK1.out; omega
        case rel => exact ⟨(y420), (wrap64 (x10_1 + 1)), zz3, H', ⟨by have := HK1.out; omega⟩, ⟨by (with_reducible repeat (first | apply Kd.R_alloc | apply Kd.R_drewN | apply Kd.R_drew)); exact Kd.R_mono HO_7.out (fun _ hk => hk.2)⟩, ⟨by (with_reducible repeat (first | apply Kd.R_alloc | apply Kd.R_drewN | apply Kd.R_drew)); exact HO422.out⟩, ⟨by (with_reducible repeat (first | refine blk_drewN ?_ _ | refine blk_drew ?_ | refine blk_alloc ?_ _)); exact BK414.out⟩, ⟨by repeat (first | (with_reducible first | exact HB.out | apply ba | apply pb | apply bd | refine below_set ?_ GE414.out) | exact HB.out)⟩⟩
       ·rw [if_neg c12] at H
        exact absurd H (by simp)
      ·rw [if_neg c11] at H
       exact absurd H (by simp)
     ·rw [if_neg c10] at H
      exact absurd H (by simp)
    ·rw [if_neg c9] at H
     exact absurd H (by simp)
   ·rw [if_neg c8] at H
    have c8b0 : decide (x10_1 < (l1.length : Int)) = false := decide_eq_false c8
    clear c8
    have H' := am H
    clear H
    go_wp2
    go_loopg [9, 11] k1 (fun kq v9 v11 w' => ∃ (x9_2 : List Int) (x11_2 : Int), v11 = .int .i64 x11_2 ∧ Aside0 (mizmazeref01_Image.l1 kq x8_1 x9_2 x11_2 l0_0 = some r) ∧ Aside0 (kq ≤ k1) ∧ Aside0 (Kd.R (Kd.int .i64) 3 w' w.heap.size (fun k_ => some k_ ≠ (v9 : Value).ownBlock) u8 x8_1) ∧ Aside0 (Kd.R (Kd.int .i64) 3 w' w.heap.size (fun k_ => some k_ ≠ (u8 : Value).ownBlock) v9 x9_2) ∧ Aside0 (w'.heap[gb414]? = some (.cells #[(.slice A0_0 l0_0.length c0_0)] 24 (0, 0))) ∧ Aside0 (Below w.heap.size w w'))
    case atStart => exact ⟨(([] : List Int)), (0), zz3, H', ⟨Nat.le_refl _⟩, ⟨by (with_reducible repeat (first | apply Kd.R_alloc | apply Kd.R_drewN | apply Kd.R_drew)); exact Kd.R_mono HO_8.out (fun _ hk => (by simp [Value.ownBlock]))⟩, ⟨by first | exact Kd.R_nil _ _ _ _ _ | exact Kd.N_nil _ _ _ _ _ | exact Kd.V_nil _ _ _ _ _ | exact Kd.Q_nil _ _ _ _ _ | exact Kd.S_nil _ _ _ _ _⟩, ⟨by (with_reducible repeat (first | refine blk_drewN ?_ _ | refine blk_drew ?_ | refine blk_alloc ?_ _)); exact BK414.out⟩, ⟨by repeat (first | (with_reducible first | exact HB.out | apply ba | apply pb | apply bd | refine below_set ?_ GE414.out) | exact HB.out)⟩⟩
    case round =>
     clear H'
     try clear c1
     try clear c2
     try clear p2
     try clear p4
     try clear q4
     try clear hx4
     try clear p6
     try clear c8
     try clear c8b0
     try clear c9
     try clear c9b0
     try clear c10
     try clear c10b0
     try clear c11
     try clear c11b0
     try clear c12
     try clear hcz6_0
     try clear hfz6_0
     try clear hx418_0
     try clear hx419_0
     try clear p2
     try clear p418
     try clear p419
     try clear q418
     try clear q419
     obtain ⟨x9_2, x11_2, rfl, HA, HK2, HO_8, HO_9, BK414, HB⟩ := hrel
     cases gk with
     | zero => exact absurd HA.out (by simp [mizmazeref01_Image.l1])
     | succ k2 =>
      have H := HA.out
      clear HA
      simp only [mizmazeref01_Image.l1] at H
      by_cases c15 : x11_2 < (l0_0.length : Int)
      ·rw [if_pos c15] at H
       have c15b0 : decide (x11_2 < (l0_0.length : Int)) = true := decide_eq_true c15
       clear c15
       replace H := Option.bind_eq_some_iff.mp H
       obtain ⟨t423, A160, H⟩ := H
       replace H : (if t423 = true then (if x9_2.length < 17592186044416 then (mizmazeref01_Image.l1 k2 x8_1 (x9_2 ++ [x11_2]) (wrap64 (x11_2 + 1)) l0_0) else (none)) else (mizmazeref01_Image.l1 k2 x8_1 x9_2 (wrap64 (x11_2 + 1)) l0_0)) = some r := H
       have A16 := am A160
       clear A160
       by_cases c17 : t423 = true
       ·subst c17
        have H1 : (if x9_2.length < 17592186044416 then (mizmazeref01_Image.l1 k2 x8_1 (x9_2 ++ [x11_2]) (wrap64 (x11_2 + 1)) l0_0) else (none)) = some r := by rw [if_pos rfl] at H; exact H
        clear H
        have H := H1
        clear H1
        by_cases c18 : x9_2.length < 17592186044416
        ·rw [if_pos c18] at H
         have LMc18 := am c18
         clear c18
         obtain ⟨y424, hy424⟩ : ∃ y_ : List Int, y_ = (x9_2 ++ [x11_2]) := ⟨_, rfl⟩
         replace H : (mizmazeref01_Image.l1 k2 x8_1 y424 (wrap64 (x11_2 + 1)) l0_0) = some r := by first | (rw [hy424]; with_reducible exact H) | (have H2_ := (Option.bind_some _ _).symm.trans H; rw [hy424]; with_reducible exact H2_) | (have H2_ := (Option.bind_some _ _).symm.trans H; with_reducible exact H2_) | with_reducible exact H | (rw [hy424]; exact H) | exact H
         have Ny424 := am hy424
         clear hy424
         have H' := am H
         clear H
         have hcz19_0 : wr.cell? ⟨gb414, 0, none⟩ = some (.slice A0_0 l0_0.length c0_0) := (blk_cell BK414.out 0).trans rfl
         have hfz19_0 := blk_frozen BK414.out 0
         obtain ⟨Ao20, co20, eo20⟩ := Kd.R_slice HO_8.out
         subst eo20
         go_wp2_with (first | ((with_reducible refine gate_callee (f := 36) rfl ?_); refine goesL_ (some 40) rfl rfl Try.func36 (by kernel_rfl) rfl #[.slice Ao20 x8_1.length co20, .int .i64 x11_2] rfl zz1 ?_; (with_reducible refine (mizmazeref01_Has.calls k2 _ _ x8_1 x11_2 true _ ?side1 ?side2 A16.out).mono ?_); (case side1 => repeat (first | exact (Kd.R_reads' HO_8.out).2.2 | (with_reducible refine Kd.C_alloc ?_ _) | (with_reducible refine Kd.C_drewN ?_ _) | (with_reducible refine Kd.C_drew ?_))); (case side2 => exact (Kd.R_reads' HO_8.out).2.1); rintro e w' ⟨rfl, ⟨nd, rfl⟩⟩; refine ⟨_, rfl, ?_⟩) | ((with_reducible refine gate_builtin (b := .append) (xs := #[.tmp 41, .tmp 43]) rfl ?_); at_builtin; refine Kd.R_append (Kd.int .i64) (w0 := w) w.heap.size rfl (.tmp 41) (.tmp 43) 28 3 (.int .i64 0) 8 rfl Try.underlying28 info3 rfl (by decide) (by omega) u9 x9_2 x11_2 [.int .i64 x11_2] (fun k_ => some k_ ≠ (.slice Ao20 x8_1.length co20 : Value).ownBlock) (fun _ => False) rfl rfl ?aP (fun _ hk => hk.elim) ?aF ?aO ?aB ?aS ?aL ?_; (case aP => exact rfl); (case aB => exact (bs HB.out)); (case aF => exact (fun k_ hk => Kd.fresh' (Kd.R_lt (kR HO_8.out)) k_ hk)); (case aO => exact (kR HO_9.out)); (case aS => exact (below_size (bs HB.out))); (case aL => have := LMc18.out; omega); intro v425 w21 ho hb hg hat; rw [← Ny424.out] at ho; have n0_ := am (Kd.R_after (ok := (fun _ => True)) (by (with_reducible repeat (first | apply Kd.R_alloc | apply Kd.R_drewN | apply Kd.R_drew)); exact Kd.R_mono HO_8.out (fun _ hk => ⟨trivial, hk⟩)) hg hat); have n1_ := am (blk_grown (g := gb414) (o := .cells #[.slice A0_0 l0_0.length c0_0] 24 (0, 0)) (kb BK414.out) hg (Kd.R_ne HO_9.out BK414.out (by decide))); have n2_ := am (hb); have n3_ := am (ho); clear HO_8; clear BK414; clear HB; clear HO_9; have HO_8 := n0_; have BK414 := n1_; have HB := n2_; have HO426 := n3_; clear n0_ n1_ n2_ n3_; clear ho hb hg hat))
         go_roundg k2
         case measure => have := HK1.out; have := HK2.out; omega
         case rel => exact ⟨(y424), (wrap64 (x11_2 + 1)), zz3, H', ⟨by have := HK1.out; have := HK2.out; omega⟩, ⟨by (with_reducible repeat (first | apply Kd.R_alloc | apply Kd.R_drewN | apply Kd.R_drew)); exact Kd.R_mono HO_8.out (fun _ hk => hk.2)⟩, ⟨by (with_reducible repeat (first | apply Kd.R_alloc | apply Kd.R_drewN | apply Kd.R_drew)); exact HO426.out⟩, ⟨by (with_reducible repeat (first | refine blk_drewN ?_ _ | refine blk_drew ?_ | refine blk_alloc ?_ _)); exact BK414.out⟩, ⟨by repeat (first | (with_reducible first | exact HB.out | apply ba | apply pb | apply bd | refine below_set ?_ GE414.out) | exact HB.out)⟩⟩
        ·rw [if_neg c18] at H
         exact absurd H (by simp)
       ·replace c17 := Bool.eq_false_iff.mpr c17
        subst c17
        have H1 : (mizmazeref01_Image.l1 k2 x8_1 x9_2 (wrap64 (x11_2 + 1)) l0_0) = some r := by rw [if_neg (show ¬ (false = true) by decide)] at H; exact H
        clear H
        have H := H1
        clear H1
        have H' := am H
        clear H
        have hcz22_0 : wr.cell? ⟨gb414, 0, none⟩ = some (.slice A0_0 l0_0.length c0_0) := (blk_cell BK414.out 0).trans rfl
        have hfz22_0 := blk_frozen BK414.out 0
        obtain ⟨Ao23, co23, eo23⟩ := Kd.R_slice HO_8.out
        subst eo23
        go_wp2_with (first | ((with_reducible refine gate_callee (f := 36) rfl ?_); refine goesL_ (some 40) rfl rfl Try.func36 (by kernel_rfl) rfl #[.slice Ao23 x8_1.length co23, .int .i64 x11_2] rfl zz1 ?_; (with_reducible refine (mizmazeref01_Has.calls k2 _ _ x8_1 x11_2 false _ ?side1 ?side2 A16.out).mono ?_); (case side1 => repeat (first | exact (Kd.R_reads' HO_8.out).2.2 | (with_reducible refine Kd.C_alloc ?_ _) | (with_reducible refine Kd.C_drewN ?_ _) | (with_reducible refine Kd.C_drew ?_))); (case side2 => exact (Kd.R_reads' HO_8.out).2.1); rintro e w' ⟨rfl, ⟨nd, rfl⟩⟩; refine ⟨_, rfl, ?_⟩))
        go_roundg k2
        case measure => have := HK1.out; have := HK2.out; omega
        case rel => exact ⟨(x9_2), (wrap64 (x11_2 + 1)), zz3, H', ⟨by have := HK1.out; have := HK2.out; omega⟩, ⟨by (with_reducible repeat (first | apply Kd.R_alloc | apply Kd.R_drewN | apply Kd.R_drew)); exact HO_8.out⟩, ⟨by (with_reducible repeat (first | apply Kd.R_alloc | apply Kd.R_drewN | apply Kd.R_drew)); exact HO_9.out⟩, ⟨by (with_reducible repeat (first | refine blk_drewN ?_ _ | refine blk_drew ?_ | refine blk_alloc ?_ _)); exact BK414.out⟩, ⟨by repeat (first | (with_reducible first | exact HB.out | apply ba | apply pb | apply bd | refine below_set ?_ GE414.out) | exact HB.out)⟩⟩
      ·rw [if_neg c15] at H
       have c15b0 : decide (x11_2 < (l0_0.length : Int)) = false := decide_eq_false c15
       clear c15
       obtain rfl := Option.some.inj H
       have hcz24_0 : wr.cell? ⟨gb414, 0, none⟩ = some (.slice A0_0 l0_0.length c0_0) := (blk_cell BK414.out 0).trans rfl
       have hfz24_0 := blk_frozen BK414.out 0
       go_wp2
       go_ret
       exact ⟨_, by first | rfl | (simp [errW_none, errW_some] <;> rfl) | (simp [*, errW_none, errW_some] <;> rfl), by (with_reducible repeat (first | apply Kd.R_alloc | apply Kd.R_drewN | apply Kd.R_drew)); exact Kd.R_mono HO_9.out (fun _ hk => trivial), by repeat (first | (with_reducible first | exact HB.out | apply ba | apply pb | apply bd | refine below_set ?_ GE414.out) | exact HB.out)⟩
end Go.Proofs.Ytjgdalhdiohclaa.Q
end
/-! Part QRef03Resets -/
section
namespace Go.Proofs.Ytjgdalhdiohclaa.Q
attribute [local go_sem] max2_int min2_int max_two min_two max_three min_three max_four min_four
set_option linter.unusedVariables false
set_option linter.unusedSimpArgs false
def mizmazeref03_Resets.f (k : Nat) (l0_0 : List (List Int)) (l1 : List Int) : Option (Bool) := (mizmazeref01_Word.f k l0_0 l1).bind fun t428 => (if t428 = true then ((mizmazeref01_All.f k (l0_0.length : Int)).bind fun t429 => ((mizmazeref01_Image.f k l0_0 t429 l1).bind fun t432 => (some ((t432.length : Int) == 1)))) else (some false))
theorem mizmazeref03_Resets.mono : ∀ a0 a1 k, LeO (mizmazeref03_Resets.f k a0 a1) (mizmazeref03_Resets.f (k + 1) a0 a1) := by
 intro a0 a1 k
 unfold mizmazeref03_Resets.f
 repeat' first
   | (with_reducible exact mizmazeref01_All.mono _ _)
   | (with_reducible exact mizmazeref01_Image.mono _ _ _ _)
   | (with_reducible exact mizmazeref01_Word.mono _ _ _)
   | (with_reducible exact LeO.refl _)
   | (with_reducible exact LeO.none _)
   | (with_reducible refine LeO.ite ?_ ?_)
   | (with_reducible refine LeO.bind ?_ (fun _ => ?_))
   | exact mizmazeref01_All.mono _ _
   | exact mizmazeref01_Image.mono _ _ _ _
   | exact mizmazeref01_Word.mono _ _ _
   | exact LeO.none _
   | refine LeO.ite ?_ ?_
   | refine LeO.bind ?_ (fun _ => ?_)
def mizmazeref03_Resets.T1 : Bool × List (List Nat × List Nat) := (true, [([], []), ([], []), ([0, 1], [0, 1]), ([2, 2], [2]), ([3], [3]), ([3], [3]), ([5, 3], [3, 5]), ([6, 3], [3, 6]), ([7, 3, 3], [3, 7]), ([3], [3]), ([4, 8, 9, 8, 3], [3, 4, 8, 9]), ([10, 3], [3, 10]), ([11, 3], [3, 11]), ([3, 12], [3, 12]), ([13, 10, 0, 1, 2, 3, 4, 5, 6, 7, 8, 9, 10, 11, 12, 13], [13])])
def mizmazeref03_Resets.B1 : List Nat := [0, 0, 3, 7, 15, 15, 47, 111, 239, 15, 1023, 2047, 4095, 8191, 16383]
theorem mizmazeref03_Resets.tab1 : rtab .any (opsOf Try.f50 1) = mizmazeref03_Resets.T1 := by kernel_rfl
theorem mizmazeref03_Resets.bits1 : waitsOk mizmazeref03_Resets.T1.2 mizmazeref03_Resets.B1 = true := by kernel_rfl
def rr0 : Array Bool := #[false, true, false, false, false, false, false, false, false, false, false, false, false, false, false]
def rr1 : Array Bool := #[true, true, false, false, false, false, false, false, false, false, false, false, false, false, false]
def rr2 : Array Bool := #[true, true, true, false, false, false, false, false, false, false, false, false, false, false, false]
def rr3 : Array Bool := #[true, true, true, true, false, false, false, false, false, false, false, false, false, false, false]
def rr4 : Array Bool := #[true, true, true, true, false, true, false, false, false, false, false, false, false, false, false]
def rr5 : Array Bool := #[true, true, true, true, false, true, false, false, false, true, false, false, false, false, false]
def rr6 : Array Bool := #[true, true, true, true, true, true, false, false, false, true, false, false, false, false, false]
def rr7 : Array Bool := #[true, true, true, true, true, true, true, false, false, true, false, false, false, false, false]
def rr8 : Array Bool := #[true, true, true, true, true, true, true, true, false, true, false, false, false, false, false]
def rr9 : Array Bool := #[true, true, true, true, true, true, true, true, true, true, false, false, false, false, false]
def rr10 : Array Bool := #[true, true, true, true, true, true, true, true, true, true, true, false, false, false, false]
def rr11 : Array Bool := #[true, true, true, true, true, true, true, true, true, true, true, true, false, false, false]
def rr12 : Array Bool := #[true, true, true, true, true, true, true, true, true, true, true, true, true, false, false]
def rr13 : Array Bool := #[true, true, true, true, true, true, true, true, true, true, true, true, true, true, false]
def rr14 : Array Bool := #[true, true, true, true, true, true, true, true, true, true, true, true, true, true, true]
def rr15 : Array Bool := #[true, true, true, true, true, false, false, false, false, false, false, false, false, false, false]
def rr16 : Array Bool := #[true, true, true, true, true, true, false, false, false, false, false, false, false, false, false]
def rr17 : Array Bool := #[true, true, true, true, true, true, true, false, false, false, false, false, false, false, false]
def rr18 : Array Bool := #[true, true, true, true, true, true, true, true, false, false, false, false, false, false, false]
def rr19 : Array Bool := #[true, true, true, true, true, true, true, true, true, false, false, false, false, false, false]
set_option maxHeartbeats 8000000 in
set_option maxRecDepth 100000 in
theorem mizmazeref03_Resets.calls (k : Nat) (A0_0 : Option Addr) (c0_0 : Nat) (l0_0 : List (List Int)) (A1 : Option Addr) (c1 : Nat) (l1 : List Int) (r : Bool) (w : World) (hr0_0 : Kd.C (Kd.slice 3 (Kd.int .i64)) w A0_0 l0_0.length l0_0) (hc0_0 : l0_0.length ≤ c0_0) (hr1 : Kd.C (Kd.int .i64) w A1 l1.length l1) (hc1 : l1.length ≤ c1) (h : mizmazeref03_Resets.f k l0_0 l1 = some r) :
    Calls Try.prog 50 #[.agg #[.slice A0_0 l0_0.length c0_0], .slice A1 l1.length c1] w fun e w' => e = .returned (.bool r) ∧ Below w.heap.size w w' := by
 have hu24 := Try.underlying24
 have HR0_0 := am hr0_0
 have HC0_0 := am hc0_0
 clear hr0_0 hc0_0
 have HR1 := am hr1
 have HC1 := am hc1
 clear hr1 hc1
 have HB := am (Below.refl w.heap.size w)
 have H : ((mizmazeref01_Word.f k l0_0 l1).bind fun t428 => (if t428 = true then ((mizmazeref01_All.f k (l0_0.length : Int)).bind fun t429 => ((mizmazeref01_Image.f k l0_0 t429 l1).bind fun t432 => (some ((t432.length : Int) == 1)))) else (some false))) = some r := h
 clear h
 replace H := Option.bind_eq_some_iff.mp H
 obtain ⟨t428, A30, H⟩ := H
 replace H : (if t428 = true then ((mizmazeref01_All.f k (l0_0.length : Int)).bind fun t429 => ((mizmazeref01_Image.f k l0_0 t429 l1).bind fun t432 => (some ((t432.length : Int) == 1)))) else (some false)) = some r := H
 have A3 := am A30
 clear A30
 by_cases c4 : t428 = true
 rotate_left
 ·replace c4 := Bool.eq_false_iff.mpr c4
  subst c4
  have H1 : (some false) = some r := by rw [if_neg (show ¬ (false = true) by decide)] at H; exact H
  clear H
  have H := H1
  clear H1
  obtain rfl := Option.some.inj H
  go_enter Try.func50, Try.ntmps50
  try go_wp2_with (first | ((with_reducible refine gate_dst (N := 2) rfl ?_); (try (refine gate_guard (by rfl) ?_; dsimp only)); refine box_event ?hg (N := 2) ?hd (cs := #[.slice A0_0 l0_0.length c0_0]) (t := 24) ?hr ?_; (case hd => rfl); (case hg => rfl); (case hr => first | (go_simp; done) | (go_simp; rfl)); intro gb427 hg w14 hbox hb; have BK427 := am (hbox); have GW427 := am ((by rw [hg]; exact (below_size (bw HB.out)) : w.heap.size ≤ gb427)); have GE427 := am ((by rw [hg]; exact (below_size (bw HB.out)) : w.heap.size ≤ gb427)); replace HB := am (below_step (bw HB.out) hb); clear hb hbox hg))
  replace BK427 := am (blk_drew BK427.out)
  replace HB := am (bd HB.out)
  refine start_ (n := 15) (S := fun w' => w'.cell? ⟨gb427, 0, none⟩ = some (.slice A0_0 l0_0.length c0_0)) (ds := []) #[false, false, false, false, false, false, false, false, false, false, false, false, false, false, false] (by kernel_rfl) rfl rfl ((blk_cell BK427.out 0).trans rfl) (fun hHeld => ?_); refine with_tabW mizmazeref03_Resets.tab1 mizmazeref03_Resets.bits1 (fun HT_ HW_ => ?_)
  generalize w14.drew = w15 at BK427 HB hHeld ⊢
  refine pv_ 1 6 rr0 HT_ ?_
  refine take_ (i := 0) (N := some 5) (v := ?_) (a' := ?_) rr1 rfl rfl (take_ofW HT_.out HW_.out (by kernel_rfl)) (fun _ _ _ h => h) (Or.inl ⟨by rfl, ?_⟩) hHeld ?_ ?_
  rotate_left
  ·intro w' s0
   go_simp
   with_reducible rfl
  rotate_left
  ·simp only [Act.put, List.setIfInBounds_toArray, List.set_cons_zero, List.set_cons_succ, i64_w, i32_w]
   rfl
  refine one_ (i := 2) (N := some 7) rr2 rfl rfl (one_of HT_.out (by kernel_rfl)) (by decide) (fun K hK => ?_)
  refine goes_ Try.func34 (by kernel_rfl) rfl #[.agg #[.slice A0_0 l0_0.length c0_0], .slice A1 l1.length c1] (by rfl) rfl rfl zz1 ?_
  with_reducible refine (mizmazeref01_Word.calls k _ _ l0_0 _ _ l1 false _ ?side1 ?side2 ?side3 ?side4 A3.out).mono ?_
  (case side1 => exact kc (Kd.C_below HR0_0.out HB.out))
  (case side2 => exact HC0_0.out)
  (case side3 => exact kc (Kd.C_below HR1.out HB.out))
  (case side4 => exact HC1.out)
  rintro e w16 ⟨rfl, hb⟩
  refine ⟨_, rfl, ?_⟩
  replace BK427 := am (blk_below (g := gb427) (o := .cells #[.slice A0_0 l0_0.length c0_0] 24 (0, 0)) (kb BK427.out) hb)
  replace HB := am (below_step (bs HB.out) hb)
  (try clear hb)
  (try clear hb2)
  (try clear hk)
  (try clear hi)
  refine hK.out _ _ ((blk_cell BK427.out 0).trans rfl) (fun hHeld => ?_)
  clear hK K
  refine norm_ (a' := ?_) ?_ ?_
  rotate_left
  ·show Act.put _ (some 7) _ = _
   simp only [Act.put, List.setIfInBounds_toArray, List.set_cons_zero, List.set_cons_succ, i64_w, i32_w]
   rfl
  refine pv_ 3 8 rr3 HT_ ?_
  refine pu_ 4 9 rr15 HT_ ?_
  refine pu_ 5 10 rr16 HT_ ?_
  refine pu_ 6 11 rr17 HT_ ?_
  refine pu_ 7 12 rr18 HT_ ?_
  refine pu_ 8 13 rr19 HT_ ?_
  refine pu_ 9 14 rr9 HT_ ?_
  refine pu_ 10 15 rr10 HT_ ?_
  refine pu_ 11 16 rr11 HT_ ?_
  refine pu_ 12 17 rr12 HT_ ?_
  refine pv_ 13 18 rr13 HT_ ?_
  refine pv_ 14 4 rr14 HT_ ?_
  refine done_ (done_of HT_.out (by kernel_rfl)) ?_
  try go_wp2
  go_ret
  exact ⟨by first | rfl | (simp [errW_none, errW_some] <;> rfl) | (simp [*, errW_none, errW_some] <;> rfl), by repeat (first | (with_reducible first | exact HB.out | apply ba | apply pb | apply bd | refine below_set ?_ GE427.out) | exact HB.out)⟩
 subst c4
 have H1 : ((mizmazeref01_All.f k (l0_0.length : Int)).bind fun t429 => ((mizmazeref01_Image.f k l0_0 t429 l1).bind fun t432 => (some ((t432.length : Int) == 1)))) = some r := by rw [if_pos rfl] at H; exact H
 clear H
 have H := H1
 clear H1
 replace H := Option.bind_eq_some_iff.mp H
 obtain ⟨t429, A50, H⟩ := H
 replace H : ((mizmazeref01_Image.f k l0_0 t429 l1).bind fun t432 => (some ((t432.length : Int) == 1))) = some r := H
 have A5 := am A50
 clear A50
 replace H := Option.bind_eq_some_iff.mp H
 obtain ⟨t432, A60, H⟩ := H
 replace H : (some ((t432.length : Int) == 1)) = some r := H
 have A6 := am A60
 clear A60
 obtain rfl := Option.some.inj H
 go_enter Try.func50, Try.ntmps50
 try go_wp2_with (first | ((with_reducible refine gate_dst (N := 2) rfl ?_); (try (refine gate_guard (by rfl) ?_; dsimp only)); refine box_event ?hg (N := 2) ?hd (cs := #[.slice A0_0 l0_0.length c0_0]) (t := 24) ?hr ?_; (case hd => rfl); (case hg => rfl); (case hr => first | (go_simp; done) | (go_simp; rfl)); intro gb427 hg w7 hbox hb; have BK427 := am (hbox); have GW427 := am ((by rw [hg]; exact (below_size (bw HB.out)) : w.heap.size ≤ gb427)); have GE427 := am ((by rw [hg]; exact (below_size (bw HB.out)) : w.heap.size ≤ gb427)); replace HB := am (below_step (bw HB.out) hb); clear hb hbox hg))
 replace BK427 := am (blk_drew BK427.out)
 replace HB := am (bd HB.out)
 refine start_ (n := 15) (S := fun w' => w'.cell? ⟨gb427, 0, none⟩ = some (.slice A0_0 l0_0.length c0_0)) (ds := []) #[false, false, false, false, false, false, false, false, false, false, false, false, false, false, false] (by kernel_rfl) rfl rfl ((blk_cell BK427.out 0).trans rfl) (fun hHeld => ?_); refine with_tabW mizmazeref03_Resets.tab1 mizmazeref03_Resets.bits1 (fun HT_ HW_ => ?_)
 generalize w7.drew = w8 at BK427 HB hHeld ⊢
 refine pv_ 1 6 rr0 HT_ ?_
 refine take_ (i := 0) (N := some 5) (v := ?_) (a' := ?_) rr1 rfl rfl (take_ofW HT_.out HW_.out (by kernel_rfl)) (fun _ _ _ h => h) (Or.inl ⟨by rfl, ?_⟩) hHeld ?_ ?_
 rotate_left
 ·intro w' s0
  go_simp
  with_reducible rfl
 rotate_left
 ·simp only [Act.put, List.setIfInBounds_toArray, List.set_cons_zero, List.set_cons_succ, i64_w, i32_w]
  rfl
 refine one_ (i := 2) (N := some 7) rr2 rfl rfl (one_of HT_.out (by kernel_rfl)) (by decide) (fun K hK => ?_)
 refine goes_ Try.func34 (by kernel_rfl) rfl #[.agg #[.slice A0_0 l0_0.length c0_0], .slice A1 l1.length c1] (by rfl) rfl rfl zz1 ?_
 with_reducible refine (mizmazeref01_Word.calls k _ _ l0_0 _ _ l1 true _ ?side1 ?side2 ?side3 ?side4 A3.out).mono ?_
 (case side1 => exact kc (Kd.C_below HR0_0.out HB.out))
 (case side2 => exact HC0_0.out)
 (case side3 => exact kc (Kd.C_below HR1.out HB.out))
 (case side4 => exact HC1.out)
 rintro e w9 ⟨rfl, hb⟩
 refine ⟨_, rfl, ?_⟩
 replace BK427 := am (blk_below (g := gb427) (o := .cells #[.slice A0_0 l0_0.length c0_0] 24 (0, 0)) (kb BK427.out) hb)
 replace HB := am (below_step (bs HB.out) hb)
 (try clear hb)
 (try clear hb2)
 (try clear hk)
 (try clear hi)
 refine hK.out _ _ ((blk_cell BK427.out 0).trans rfl) (fun hHeld => ?_)
 clear hK K
 refine norm_ (a' := ?_) ?_ ?_
 rotate_left
 ·show Act.put _ (some 7) _ = _
  simp only [Act.put, List.setIfInBounds_toArray, List.set_cons_zero, List.set_cons_succ, i64_w, i32_w]
  rfl
 refine pv_ 3 8 rr3 HT_ ?_
 refine pv_ 5 10 rr4 HT_ ?_
 refine pv_ 9 14 rr5 HT_ ?_
 refine take_ (i := 4) (N := some 9) (v := ?_) (a' := ?_) rr6 rfl rfl (take_ofW HT_.out HW_.out (by kernel_rfl)) (fun _ _ _ h => h) (Or.inl ⟨by rfl, ?_⟩) hHeld ?_ ?_
 rotate_left
 ·intro w' s0
  go_simp
  with_reducible rfl
 rotate_left
 ·simp only [Act.put, List.setIfInBounds_toArray, List.set_cons_zero, List.set_cons_succ, i64_w, i32_w]
  rfl
 refine take_ (i := 6) (N := some 11) (v := ?_) (a' := ?_) rr7 rfl rfl (take_ofW HT_.out HW_.out (by kernel_rfl)) (fun _ _ _ h => h) (Or.inl ⟨by rfl, ?_⟩) hHeld ?_ ?_
 rotate_left
 ·intro w' s0
  go_simp
  with_reducible rfl
 rotate_left
 ·simp only [Act.put, List.setIfInBounds_toArray, List.set_cons_zero, List.set_cons_succ, i64_w, i32_w]
  rfl
 refine pv_ 7 12 rr8 HT_ ?_
 refine one_ (i := 8) (N := some 13) rr9 rfl rfl (one_of HT_.out (by kernel_rfl)) (by decide) (fun K hK => ?_)
 refine goes_ Try.func40 (by kernel_rfl) rfl #[.int .i64 (l0_0.length : Int)] (by rfl) rfl rfl zz1 ?_
 with_reducible refine (mizmazeref01_All.calls k (l0_0.length : Int) t429 _ A5.out).mono ?_
 rintro e w10 ⟨v430, rfl, ho0, hb⟩
 refine ⟨_, rfl, ?_⟩
 have HO431 := am (Kd.R_lower ho0 (below_size (bs HB.out)))
 replace BK427 := am (blk_below (g := gb427) (o := .cells #[.slice A0_0 l0_0.length c0_0] 24 (0, 0)) (kb BK427.out) hb)
 replace HB := am (below_step (bs HB.out) hb)
 (try clear hb)
 (try clear hb2)
 (try clear hk)
 (try clear hi)
 (try clear ho0)
 obtain ⟨Ao11, co11, eo11⟩ := Kd.R_slice HO431.out
 (first | subst eo11 | (injection eo11 with f1_ f2_ f3_; have f4_ := f1_.symm; have f5_ := f3_.symm; clear f1_ f2_ f3_; subst f4_; subst f5_))
 refine hK.out _ _ ((blk_cell BK427.out 0).trans rfl) (fun hHeld => ?_)
 clear hK K
 refine norm_ (a' := ?_) ?_ ?_
 rotate_left
 ·show Act.put _ (some 13) _ = _
  simp only [Act.put, List.setIfInBounds_toArray, List.set_cons_zero, List.set_cons_succ, i64_w, i32_w]
  rfl
 refine one_ (i := 10) (N := some 15) rr10 rfl rfl (one_of HT_.out (by kernel_rfl)) (by decide) (fun K hK => ?_)
 refine goes_ Try.func91 (by kernel_rfl) rfl #[.agg #[.slice A0_0 l0_0.length c0_0], .slice Ao11 t429.length co11, .slice A1 l1.length c1] (by rfl) rfl rfl zz1 ?_
 with_reducible refine (mizmazeref01_Image.calls k _ _ l0_0 _ _ t429 _ _ l1 t432 _ ?side1 ?side2 ?side3 ?side4 ?side5 ?side6 A6.out).mono ?_
 (case side1 => exact kc (Kd.C_below HR0_0.out HB.out))
 (case side2 => exact HC0_0.out)
 (case side3 => repeat (first | exact (Kd.R_reads' HO431.out).2.2 | (with_reducible refine Kd.C_alloc ?_ _) | (with_reducible refine Kd.C_drewN ?_ _) | (with_reducible refine Kd.C_drew ?_)))
 (case side4 => exact (Kd.R_reads' HO431.out).2.1)
 (case side5 => exact kc (Kd.C_below HR1.out HB.out))
 (case side6 => exact HC1.out)
 rintro e w12 ⟨v433, rfl, ho0, hb⟩
 refine ⟨_, rfl, ?_⟩
 have HO434 := am (Kd.R_lower (Kd.R_new' ho0 (Kd.R_lt (kR HO431.out))) (below_size (bs HB.out)))
 replace HO431 := am (Kd.R_elder' (kR HO431.out) (Kd.R_base ho0) hb)
 replace BK427 := am (blk_below (g := gb427) (o := .cells #[.slice A0_0 l0_0.length c0_0] 24 (0, 0)) (kb BK427.out) hb)
 replace HB := am (below_step (bs HB.out) hb)
 (try clear hb)
 (try clear hb2)
 (try clear hk)
 (try clear hi)
 (try clear ho0)
 obtain ⟨Ao13, co13, eo13⟩ := Kd.R_slice HO434.out
 (first | subst eo13 | (injection eo13 with f1_ f2_ f3_; have f4_ := f1_.symm; have f5_ := f3_.symm; clear f1_ f2_ f3_; subst f4_; subst f5_))
 refine hK.out _ _ ((blk_cell BK427.out 0).trans rfl) (fun hHeld => ?_)
 clear hK K
 refine norm_ (a' := ?_) ?_ ?_
 rotate_left
 ·show Act.put _ (some 15) _ = _
  simp only [Act.put, List.setIfInBounds_toArray, List.set_cons_zero, List.set_cons_succ, i64_w, i32_w]
  rfl
 refine pv_ 11 16 rr11 HT_ ?_
 refine pv_ 12 17 rr12 HT_ ?_
 refine pv_ 13 18 rr13 HT_ ?_
 refine pv_ 14 4 rr14 HT_ ?_
 refine done_ (done_of HT_.out (by kernel_rfl)) ?_
 try go_wp2
 go_ret
 exact ⟨by first | rfl | (simp [errW_none, errW_some] <;> rfl) | (simp [*, errW_none, errW_some] <;> rfl), by repeat (first | (with_reducible first | exact HB.out | apply ba | apply pb | apply bd | refine below_set ?_ GE427.out) | exact HB.out)⟩
end Go.Proofs.Ytjgdalhdiohclaa.Q
end
/-! Part QResetOf -/
section
namespace Go.Proofs.Ytjgdalhdiohclaa.Q
attribute [local go_sem] max2_int min2_int max_two min_two max_three min_three max_four min_four
set_option linter.unusedVariables false
set_option linter.unusedSimpArgs false
def reset_of.f (a0 : Int) (a1 : Int) : Option (Int × Int) := some (mn a0 a1, mx a0 a1)
set_option maxHeartbeats 8000000 in
set_option maxRecDepth 100000 in
theorem reset_of.calls (a0 : Int) (a1 : Int) (r1 : Int) (r2 : Int) (w : World) (h : reset_of.f a0 a1 = some (r1, r2)) :
  Calls Try.prog 132 #[.int .i64 a0, .int .i64 a1] w fun e w' => e = .returned (.agg #[.int .i64 r1, .int .i64 r2]) ∧ Below w.heap.size w w' := by
 have hu97 := Try.underlying97
 have HB := am (Below.refl w.heap.size w)
 have H : (some (mn a0 a1, mx a0 a1)) = some (r1, r2) := h
 clear h
 obtain ⟨ji3, hji3⟩ : ∃ j_ : Int, (mn a0 a1) = j_ := ⟨_, rfl⟩
 replace H : (some (ji3, mx a0 a1)) = some (r1, r2) := by first | (rw [hji3] at H; exact H) | (simp only [hji3] at H ⊢; exact H)
 have hji3_ : (if a1 < a0 then a1 else a0) = ji3 := hji3
 obtain ⟨ji4, hji4⟩ : ∃ j_ : Int, (mx a0 a1) = j_ := ⟨_, rfl⟩
 replace H : (some (ji3, ji4)) = some (r1, r2) := by first | (rw [hji4] at H; exact H) | (simp only [hji4] at H ⊢; exact H)
 have hji4_ : (if a0 < a1 then a1 else a0) = ji4 := hji4
 simp only [Option.some.injEq, Prod.mk.injEq] at H
 obtain ⟨rfl, rfl⟩ := H
 go_enter Try.func132, Try.ntmps132
 go_wp2_with (first | ((with_reducible refine gate_dst (N := 4) rfl ?_); refine box_event ?hg (N := 4) ?hd (cs := #[.int .i64 0, .int .i64 0]) (t := 97) ?hr ?_; (case hd => rfl); (case hg => rfl); (case hr => first | (go_simp; done) | (go_simp; rfl)); intro gb373 hg w5 hbox hb; have BK373 := am (hbox); have GW373 := am ((by rw [hg]; exact (below_size (bw HB.out)) : w.heap.size ≤ gb373)); have GE373 := am ((by rw [hg]; exact (below_size (bw HB.out)) : w.heap.size ≤ gb373)); replace HB := am (below_step (bw HB.out) hb); clear hb hbox hg; have hcz6_0 : w5.cell? ⟨gb373, 0, none⟩ = some (.int .i64 0) := (blk_cell BK373.out 0).trans rfl; have hcz6_1 : w5.cell? ⟨gb373, 1, none⟩ = some (.int .i64 0) := (blk_cell BK373.out 1).trans rfl; have hfz6_0 := blk_frozen BK373.out 0; have hfz6_1 := blk_frozen BK373.out 1))
 refine bodyPost_ret (results_cell_row rfl _ _ gb373 97 #[.int .i64 ji3, .int .i64 ji4] (0, 0) _ rfl (by (with_reducible repeat (first | refine blk_drewN ?_ _ | refine blk_drew ?_ | refine blk_alloc ?_ _)); refine blk_put (cs := #[.int .i64 ji3, .int .i64 0]) ?_ 1 _ rfl; (with_reducible repeat (first | refine blk_drewN ?_ _ | refine blk_drew ?_ | refine blk_alloc ?_ _)); refine blk_put (cs := #[.int .i64 0, .int .i64 0]) ?_ 0 _ rfl; (with_reducible repeat (first | refine blk_drewN ?_ _ | refine blk_drew ?_ | refine blk_alloc ?_ _)); exact BK373.out) Try.underlying97 rfl (by kernel_rfl)) rfl ?_
 exact ⟨by first | rfl | (simp [errW_none, errW_some] <;> rfl) | (simp only [← hji3, ← hji4]; first | rfl | (simp [errW_none, errW_some] <;> rfl)) | (simp [*, errW_none, errW_some] <;> rfl), by repeat (first | (with_reducible first | exact HB.out | apply ba | apply pb | apply bd | refine below_set ?_ GE373.out) | exact HB.out)⟩
end Go.Proofs.Ytjgdalhdiohclaa.Q
end
/-! Part QAutoState -/
section
namespace Go.Proofs.Ytjgdalhdiohclaa.Q
attribute [local go_sem] max2_int min2_int max_two min_two max_three min_three max_four min_four
set_option linter.unusedVariables false
set_option linter.unusedSimpArgs false
def auto_State.f (l0_0 : List (List Int)) (a1 : Int) : Option (Bool) := if a1 ≥ 0 then (some (decide (a1 < (l0_0.length : Int)))) else (some false)
set_option maxHeartbeats 8000000 in
set_option maxRecDepth 100000 in
theorem auto_State.calls (A0_0 : Option Addr) (c0_0 : Nat) (l0_0 : List (List Int)) (a1 : Int) (r : Bool) (w : World) (hr0_0 : Kd.C (Kd.slice 3 (Kd.int .i64)) w A0_0 l0_0.length l0_0) (hc0_0 : l0_0.length ≤ c0_0) (h : auto_State.f l0_0 a1 = some r) :
  Calls Try.prog 65 #[.agg #[.slice A0_0 l0_0.length c0_0], .int .i64 a1] w fun e w' => e = .returned (.bool r) ∧ Below w.heap.size w w' := by
 have hu24 := Try.underlying24
 have HR0_0 := am hr0_0
 have HC0_0 := am hc0_0
 clear hr0_0 hc0_0
 have HB := am (Below.refl w.heap.size w)
 have H : (if a1 ≥ 0 then (some (decide (a1 < (l0_0.length : Int)))) else (some false)) = some r := h
 clear h
 by_cases c3 : a1 ≥ 0
 ·rw [if_pos c3] at H
  have c3b0 : decide (0 ≤ a1) = true := decide_eq_true c3
  clear c3
  obtain rfl := Option.some.inj H
  go_enter Try.func65, Try.ntmps65
  go_wp2_with (first | ((with_reducible refine gate_dst (N := 2) rfl ?_); (try (refine gate_guard (by rfl) ?_; dsimp only)); refine box_event ?hg (N := 2) ?hd (cs := #[.slice A0_0 l0_0.length c0_0]) (t := 24) ?hr ?_; (case hd => rfl); (case hg => rfl); (case hr => first | (go_simp; done) | (go_simp; rfl)); intro gb615 hg w4 hbox hb; have BK615 := am (hbox); have GW615 := am ((by rw [hg]; exact (below_size (bw HB.out)) : w.heap.size ≤ gb615)); have GE615 := am ((by rw [hg]; exact (below_size (bw HB.out)) : w.heap.size ≤ gb615)); replace HB := am (below_step (bw HB.out) hb); clear hb hbox hg; have hcz5_0 : w4.cell? ⟨gb615, 0, none⟩ = some (.slice A0_0 l0_0.length c0_0) := (blk_cell BK615.out 0).trans rfl; have hfz5_0 := blk_frozen BK615.out 0))
  go_ret
  exact ⟨by first | rfl | (simp [errW_none, errW_some] <;> rfl) | (simp [*, errW_none, errW_some] <;> rfl), by repeat (first | (with_reducible first | exact HB.out | apply ba | apply pb | apply bd | refine below_set ?_ GE615.out) | exact HB.out)⟩
 ·rw [if_neg c3] at H
  have c3b0 : decide (0 ≤ a1) = false := decide_eq_false c3
  clear c3
  obtain rfl := Option.some.inj H
  go_enter Try.func65, Try.ntmps65
  go_wp2_with (first | ((with_reducible refine gate_dst (N := 2) rfl ?_); (try (refine gate_guard (by rfl) ?_; dsimp only)); refine box_event ?hg (N := 2) ?hd (cs := #[.slice A0_0 l0_0.length c0_0]) (t := 24) ?hr ?_; (case hd => rfl); (case hg => rfl); (case hr => first | (go_simp; done) | (go_simp; rfl)); intro gb615 hg w6 hbox hb; have BK615 := am (hbox); have GW615 := am ((by rw [hg]; exact (below_size (bw HB.out)) : w.heap.size ≤ gb615)); have GE615 := am ((by rw [hg]; exact (below_size (bw HB.out)) : w.heap.size ≤ gb615)); replace HB := am (below_step (bw HB.out) hb); clear hb hbox hg))
  go_ret
  exact ⟨by first | rfl | (simp [errW_none, errW_some] <;> rfl) | (simp [*, errW_none, errW_some] <;> rfl), by repeat (first | (with_reducible first | exact HB.out | apply ba | apply pb | apply bd | refine below_set ?_ GE615.out) | exact HB.out)⟩
end Go.Proofs.Ytjgdalhdiohclaa.Q
end
/-! Part QAutoAll -/
section
namespace Go.Proofs.Ytjgdalhdiohclaa.Q
attribute [local go_sem] max2_int min2_int max_two min_two max_three min_three max_four min_four
set_option linter.unusedVariables false
set_option linter.unusedSimpArgs false
def auto_All.l0 : Nat → List Int → Int → Int → Option (List Int)
 | 0, _, _, _ => none
 | k + 1, x3, x8, x9 => if x9 < x8 then (if x3.length < 17592186044416 then (auto_All.l0 k (x3 ++ [x9]) x8 (wrap64 (x9 + 1))) else (none)) else (some x3)
def auto_All.f (k : Nat) (l0_0 : List (List Int)) : Option (List Int) := auto_All.l0 k (([] : List Int)) (l0_0.length : Int) 0
theorem auto_All.mono_l : ∀ k, (∀ y0 y1 y2, LeO (auto_All.l0 k y0 y1 y2) (auto_All.l0 (k + 1) y0 y1 y2))
 | 0 => fun _ _ _ r h => by simp [auto_All.l0] at h
 | k + 1 => by
  have ih0 := auto_All.mono_l k
  ·intro y0 y1 y2
   unfold auto_All.l0
   repeat' first
   | (with_reducible exact ih0 _ _ _)
   | (with_reducible exact LeO.refl _)
   | (with_reducible exact LeO.none _)
   | (with_reducible refine LeO.ite ?_ ?_)
   | (with_reducible refine LeO.bind ?_ (fun _ => ?_))
   | exact ih0 _ _ _
   | exact LeO.none _
   | refine LeO.ite ?_ ?_
   | refine LeO.bind ?_ (fun _ => ?_)
theorem auto_All.mono : ∀ a0 k, LeO (auto_All.f k a0) (auto_All.f (k + 1) a0) := by
 intro a0 k
 have ih0 := auto_All.mono_l k
 unfold auto_All.f
 repeat' first
   | (with_reducible exact ih0 _ _ _)
   | (with_reducible exact LeO.refl _)
   | (with_reducible exact LeO.none _)
   | (with_reducible refine LeO.ite ?_ ?_)
   | (with_reducible refine LeO.bind ?_ (fun _ => ?_))
   | exact ih0 _ _ _
   | exact LeO.none _
   | refine LeO.ite ?_ ?_
   | refine LeO.bind ?_ (fun _ => ?_)
set_option maxHeartbeats 8000000 in
set_option maxRecDepth 100000 in
theorem auto_All.calls (k : Nat) (A0_0 : Option Addr) (c0_0 : Nat) (l0_0 : List (List Int)) (r : List Int) (w : World) (hr0_0 : Kd.C (Kd.slice 3 (Kd.int .i64)) w A0_0 l0_0.length l0_0) (hc0_0 : l0_0.length ≤ c0_0) (h : auto_All.f k l0_0 = some r) :
  Calls Try.prog 93 #[.agg #[.slice A0_0 l0_0.length c0_0]] w fun e w' => ∃ v0_ : Value, e = .returned (v0_) ∧ Kd.R (Kd.int .i64) 3 w' w.heap.size (fun _ => True) v0_ r ∧ Below w.heap.size w w' := by
 have hu24 := Try.underlying24
 have HR0_0 := am hr0_0
 have HC0_0 := am hc0_0
 clear hr0_0 hc0_0
 have HB := am (Below.refl w.heap.size w)
 have H : (auto_All.l0 k (([] : List Int)) (l0_0.length : Int) 0) = some r := h
 clear h
 obtain ⟨y383, hy383⟩ : ∃ y_ : List Int, y_ = (([] : List Int)) := ⟨_, rfl⟩
 replace H : (auto_All.l0 k y383 (l0_0.length : Int) 0) = some r := by first | (rw [hy383]; with_reducible exact H) | (have H2_ := (Option.bind_some _ _).symm.trans H; rw [hy383]; with_reducible exact H2_) | (have H2_ := (Option.bind_some _ _).symm.trans H; with_reducible exact H2_) | with_reducible exact H | (rw [hy383]; exact H) | exact H
 have Ny383 := am hy383
 clear hy383
 have H' := am H
 clear H
 go_enter Try.func93, Try.ntmps93
 go_wp2_with (first | ((with_reducible refine gate_dst (N := 1) rfl ?_); refine box_event ?hg (N := 1) ?hd (cs := #[.slice A0_0 l0_0.length c0_0]) (t := 24) ?hr ?_; (case hd => rfl); (case hg => rfl); (case hr => first | (go_simp; done) | (go_simp; rfl)); intro gb382 hg w2 hbox hb; have BK382 := am (hbox); have GW382 := am ((by rw [hg]; exact (below_size (bw HB.out)) : w.heap.size ≤ gb382)); have GE382 := am ((by rw [hg]; exact (below_size (bw HB.out)) : w.heap.size ≤ gb382)); replace HB := am (below_step (bw HB.out) hb); clear hb hbox hg) | ((with_reducible refine gate_dst (N := 5) rfl ?_); refine Kd.R_lit (Kd.int .i64) _ 3 ?hg (N := 5) ?hd (xs := ([] : List Int)) (inner := []) (ok := fun _ => True) (okp := fun _ => True) ?hr ?hp (fun _ hk => hk) trivial (Below.refl _ _) (Nat.le_refl _) (by simp) ?_; (case hd => rfl); (case hg => rfl); (case hr => first | (go_simp; done) | (go_simp; rfl)); (case hp => exact (Reps.none _ _)); intro v384 w3 ho4 hb hg_ hnew_; clear hg_ hnew_; (first | rw [← Ny383.out] at ho4 | (simp only [Int.reduceToNat] at ho4; rw [← Ny383.out] at ho4)); have HO385 := am (Kd.R_lower ho4 (below_size (bs HB.out))); replace BK382 := am (blk_below (g := gb382) (o := .cells #[.slice A0_0 l0_0.length c0_0] 24 (0, 0)) (kb BK382.out) hb); replace HB := am (below_step (bs HB.out) hb); clear hb ho4; have hcz5_0 : w3.cell? ⟨gb382, 0, none⟩ = some (.slice A0_0 l0_0.length c0_0) := (blk_cell BK382.out 0).trans rfl; have hfz5_0 := blk_frozen BK382.out 0))
 go_loopg [3, 9] k (fun kq v3 v9 w' => ∃ (x3_1 : List Int) (x9_1 : Int), v9 = .int .i64 x9_1 ∧ Aside0 (auto_All.l0 kq x3_1 (l0_0.length : Int) x9_1 = some r) ∧ Aside0 (kq ≤ k) ∧ Aside0 (Kd.R (Kd.int .i64) 3 w' w.heap.size (fun _ => True) v3 x3_1) ∧ Aside0 (w'.heap[gb382]? = some (.cells #[(.slice A0_0 l0_0.length c0_0)] 24 (0, 0))) ∧ Aside0 (Below w.heap.size w w'))
 case atStart => exact ⟨(y383), (0), zz3, H', ⟨Nat.le_refl _⟩, ⟨by (with_reducible repeat (first | apply Kd.R_alloc | apply Kd.R_drewN | apply Kd.R_drew)); exact HO385.out⟩, ⟨by (with_reducible repeat (first | refine blk_drewN ?_ _ | refine blk_drew ?_ | refine blk_alloc ?_ _)); exact BK382.out⟩, ⟨by repeat (first | (with_reducible first | exact HB.out | apply ba | apply pb | apply bd | refine below_set ?_ GE382.out) | exact HB.out)⟩⟩
 case round =>
  clear H'
  try clear p2
  try clear hcz5_0
  try clear hfz5_0
  obtain ⟨x3_1, x9_1, rfl, HA, HK1, HO_3, BK382, HB⟩ := hrel
  cases gk with
  | zero => exact absurd HA.out (by simp [auto_All.l0])
  | succ k1 =>
   have H := HA.out
   clear HA
   simp only [auto_All.l0] at H
   by_cases c6 : x9_1 < (l0_0.length : Int)
   ·rw [if_pos c6] at H
    have c6b0 : decide (x9_1 < (l0_0.length : Int)) = true := decide_eq_true c6
    clear c6
    by_cases c7 : x3_1.length < 17592186044416
    ·rw [if_pos c7] at H
     have LMc7 := am c7
     clear c7
     obtain ⟨y386, hy386⟩ : ∃ y_ : List Int, y_ = (x3_1 ++ [x9_1]) := ⟨_, rfl⟩
     replace H : (auto_All.l0 k1 y386 (l0_0.length : Int) (wrap64 (x9_1 + 1))) = some r := by first | (rw [hy386]; with_reducible exact H) | (have H2_ := (Option.bind_some _ _).symm.trans H; rw [hy386]; with_reducible exact H2_) | (have H2_ := (Option.bind_some _ _).symm.trans H; with_reducible exact H2_) | with_reducible exact H | (rw [hy386]; exact H) | exact H
     have Ny386 := am hy386
     clear hy386
     have H' := am H
     clear H
     go_wp2_with (first | ((with_reducible refine gate_builtin (b := .append) (xs := #[.tmp 12, .tmp 14]) rfl ?_); at_builtin; refine Kd.R_append (Kd.int .i64) (w0 := w) w.heap.size rfl (.tmp 12) (.tmp 14) 28 3 (.int .i64 0) 8 rfl Try.underlying28 info3 rfl (by decide) (by omega) u3 x3_1 x9_1 [.int .i64 x9_1] (fun _ => True) (fun _ => False) rfl rfl ?aP (fun _ hk => hk.elim) ?aF ?aO ?aB ?aS ?aL ?_; (case aP => exact rfl); (case aB => exact (bs HB.out)); (case aF => exact (fun _ _ => trivial)); (case aO => exact (kR HO_3.out)); (case aS => exact (below_size (bs HB.out))); (case aL => have := LMc7.out; omega); intro v387 w8 ho hb hg hat; rw [← Ny386.out] at ho; have n0_ := am (blk_grown (g := gb382) (o := .cells #[.slice A0_0 l0_0.length c0_0] 24 (0, 0)) (kb BK382.out) hg (Kd.R_ne HO_3.out BK382.out (by decide))); have n1_ := am (hb); have n2_ := am (ho); clear BK382; clear HB; clear HO_3; have BK382 := n0_; have HB := n1_; have HO388 := n2_; clear n0_ n1_ n2_; clear ho hb hg hat))
     go_roundg k1
     case measure => have := HK1.out; omega
     case rel => exact ⟨(y386), (wrap64 (x9_1 + 1)), zz3, H', ⟨by have := HK1.out; omega⟩, ⟨by (with_reducible repeat (first | apply Kd.R_alloc | apply Kd.R_drewN | apply Kd.R_drew)); exact HO388.out⟩, ⟨by (with_reducible repeat (first | refine blk_drewN ?_ _ | refine blk_drew ?_ | refine blk_alloc ?_ _)); exact BK382.out⟩, ⟨by repeat (first | (with_reducible first | exact HB.out | apply ba | apply pb | apply bd | refine below_set ?_ GE382.out) | exact HB.out)⟩⟩
    ·rw [if_neg c7] at H
     exact absurd H (by simp)
   ·rw [if_neg c6] at H
    have c6b0 : decide (x9_1 < (l0_0.length : Int)) = false := decide_eq_false c6
    clear c6
    obtain rfl := Option.some.inj H
    go_wp2
    go_ret
    exact ⟨_, by first | rfl | (simp [errW_none, errW_some] <;> rfl) | (simp [*, errW_none, errW_some] <;> rfl), by (with_reducible repeat (first | apply Kd.R_alloc | apply Kd.R_drewN | apply Kd.R_drew)); exact HO_3.out, by repeat (first | (with_reducible first | exact HB.out | apply ba | apply pb | apply bd | refine below_set ?_ GE382.out) | exact HB.out)⟩
end Go.Proofs.Ytjgdalhdiohclaa.Q
end
/-! Part QAutoLead -/
section
namespace Go.Proofs.Ytjgdalhdiohclaa.Q
attribute [local go_sem] max2_int min2_int max_two min_two max_three min_three max_four min_four
set_option linter.unusedVariables false
set_option linter.unusedSimpArgs false
def auto_Lead.l0 : Nat → Int → List Int → Int → Int → List (List Int) → Option (Int)
 | 0, _, _, _, _, _ => none
 | k + 1, x1, x9, x10, x11, x356000 => if x11 < x10 then (if 0 ≤ x11 then (if x11 < (x9.length : Int) then (if 0 ≤ x1 then (if x1 < (x356000.length : Int) then (if 0 ≤ (rd x9 x11) then (if (rd x9 x11) < ((rd_L1 x356000 x1).length : Int) then (auto_Lead.l0 k (rd (rd_L1 x356000 x1) (rd x9 x11)) x9 x10 (wrap64 (x11 + 1)) x356000) else (none)) else (none)) else (none)) else (none)) else (none)) else (none)) else (some x1)
def auto_Lead.f (k : Nat) (l0_0 : List (List Int)) (a1 : Int) (l2 : List Int) : Option (Int) := auto_Lead.l0 k a1 l2 (l2.length : Int) 0 l0_0
theorem auto_Lead.mono_l : ∀ k, (∀ y0 y1 y2 y3 y4, LeO (auto_Lead.l0 k y0 y1 y2 y3 y4) (auto_Lead.l0 (k + 1) y0 y1 y2 y3 y4))
 | 0 => fun _ _ _ _ _ r h => by simp [auto_Lead.l0] at h
 | k + 1 => by
  have ih0 := auto_Lead.mono_l k
  ·intro y0 y1 y2 y3 y4
   unfold auto_Lead.l0
   repeat' first
   | (with_reducible exact ih0 _ _ _ _ _)
   | (with_reducible exact LeO.refl _)
   | (with_reducible exact LeO.none _)
   | (with_reducible refine LeO.ite ?_ ?_)
   | (with_reducible refine LeO.bind ?_ (fun _ => ?_))
   | exact ih0 _ _ _ _ _
   | exact LeO.none _
   | refine LeO.ite ?_ ?_
   | refine LeO.bind ?_ (fun _ => ?_)
theorem auto_Lead.mono : ∀ a0 a1 a2 k, LeO (auto_Lead.f k a0 a1 a2) (auto_Lead.f (k + 1) a0 a1 a2) := by
 intro a0 a1 a2 k
 have ih0 := auto_Lead.mono_l k
 unfold auto_Lead.f
 repeat' first
   | (with_reducible exact ih0 _ _ _ _ _)
   | (with_reducible exact LeO.refl _)
   | (with_reducible exact LeO.none _)
   | (with_reducible refine LeO.ite ?_ ?_)
   | (with_reducible refine LeO.bind ?_ (fun _ => ?_))
   | exact ih0 _ _ _ _ _
   | exact LeO.none _
   | refine LeO.ite ?_ ?_
   | refine LeO.bind ?_ (fun _ => ?_)
set_option maxHeartbeats 8000000 in
set_option maxRecDepth 100000 in
theorem auto_Lead.calls (k : Nat) (A0_0 : Option Addr) (c0_0 : Nat) (l0_0 : List (List Int)) (a1 : Int) (A2 : Option Addr) (c2 : Nat) (l2 : List Int) (r : Int) (w : World) (hr0_0 : Kd.C (Kd.slice 3 (Kd.int .i64)) w A0_0 l0_0.length l0_0) (hc0_0 : l0_0.length ≤ c0_0) (hr2 : Kd.C (Kd.int .i64) w A2 l2.length l2) (hc2 : l2.length ≤ c2) (h : auto_Lead.f k l0_0 a1 l2 = some r) :
  Calls Try.prog 74 #[.agg #[.slice A0_0 l0_0.length c0_0], .int .i64 a1, .slice A2 l2.length c2] w fun e w' => e = .returned (.int .i64 r) ∧ Below w.heap.size w w' := by
 have hu24 := Try.underlying24
 have HR0_0 := am hr0_0
 have HC0_0 := am hc0_0
 clear hr0_0 hc0_0
 have HR2 := am hr2
 have HC2 := am hc2
 clear hr2 hc2
 have HB := am (Below.refl w.heap.size w)
 have H : (auto_Lead.l0 k a1 l2 (l2.length : Int) 0 l0_0) = some r := h
 clear h
 have H' := am H
 clear H
 go_enter Try.func74, Try.ntmps74
 go_wp2_with (first | ((with_reducible refine gate_dst (N := 3) rfl ?_); refine box_event ?hg (N := 3) ?hd (cs := #[.slice A0_0 l0_0.length c0_0]) (t := 24) ?hr ?_; (case hd => rfl); (case hg => rfl); (case hr => first | (go_simp; done) | (go_simp; rfl)); intro gb355 hg w4 hbox hb; have BK355 := am (hbox); have GW355 := am ((by rw [hg]; exact (below_size (bw HB.out)) : w.heap.size ≤ gb355)); have GE355 := am ((by rw [hg]; exact (below_size (bw HB.out)) : w.heap.size ≤ gb355)); replace HB := am (below_step (bw HB.out) hb); clear hb hbox hg))
 go_loopg [1, 11] k (fun kq v1 v11 w' => ∃ (x1_1 : Int) (x11_1 : Int), v1 = .int .i64 x1_1 ∧ v11 = .int .i64 x11_1 ∧ Aside0 (auto_Lead.l0 kq x1_1 l2 (l2.length : Int) x11_1 l0_0 = some r) ∧ Aside0 (kq ≤ k) ∧ Aside0 (w'.heap[gb355]? = some (.cells #[(.slice A0_0 l0_0.length c0_0)] 24 (0, 0))) ∧ Aside0 (Below w.heap.size w w'))
 case atStart => exact ⟨(a1), (0), zz3, zz3, H', ⟨Nat.le_refl _⟩, ⟨by (with_reducible repeat (first | refine blk_drewN ?_ _ | refine blk_drew ?_ | refine blk_alloc ?_ _)); exact BK355.out⟩, ⟨by repeat (first | (with_reducible first | exact HB.out | apply ba | apply pb | apply bd | refine below_set ?_ GE355.out) | exact HB.out)⟩⟩
 case round =>
  clear H'
  try clear c2
  try clear p2
  obtain ⟨x1_1, x11_1, rfl, rfl, HA, HK1, BK355, HB⟩ := hrel
  cases gk with
  | zero => exact absurd HA.out (by simp [auto_Lead.l0])
  | succ k1 =>
   have H := HA.out
   clear HA
   simp only [auto_Lead.l0] at H
   by_cases c5 : x11_1 < (l2.length : Int)
   ·rw [if_pos c5] at H
    have c5b0 : decide (x11_1 < (l2.length : Int)) = true := decide_eq_true c5
    clear c5
    by_cases c6 : 0 ≤ x11_1
    ·rw [if_pos c6] at H
     have c6b0 : decide (0 ≤ x11_1) = true := decide_eq_true c6
     clear c6
     by_cases c7 : x11_1 < (l2.length : Int)
     ·rw [if_pos c7] at H
      have c7b0 : decide (x11_1 < (l2.length : Int)) = true := decide_eq_true c7
      clear c7
      by_cases c8 : 0 ≤ x1_1
      ·rw [if_pos c8] at H
       have c8b0 : decide (0 ≤ x1_1) = true := decide_eq_true c8
       clear c8
       by_cases c9 : x1_1 < (l0_0.length : Int)
       ·rw [if_pos c9] at H
        have c9b0 : decide (x1_1 < (l0_0.length : Int)) = true := decide_eq_true c9
        clear c9
        by_cases c10 : 0 ≤ (rd l2 x11_1)
        ·rw [if_pos c10] at H
         have c10b0 : decide (0 ≤ (rd l2 x11_1)) = true := decide_eq_true c10
         clear c10
         by_cases c11 : (rd l2 x11_1) < ((rd_L1 l0_0 x1_1).length : Int)
         ·rw [if_pos c11] at H
          have c11b0 : decide ((rd l2 x11_1) < ((rd_L1 l0_0 x1_1).length : Int)) = true := decide_eq_true c11
          clear c11
          have H' := am H
          clear H
          have p356 : 0 ≤ (x11_1 : Int) := od zz2
          have q356 : x11_1 < (l2.length : Int) := od zz2
          obtain ⟨ad356, e356, hx356_0⟩ := Kd.at_int HR2.out x11_1 p356 q356
          cases e356
          replace hx356_0 := (HB.out.cell (World.block_lt_of_cell? w _ hx356_0)).trans hx356_0
          replace p356 := eq_true p356
          replace q356 := eq_true q356
          have hcz12_0 : wr.cell? ⟨gb355, 0, none⟩ = some (.slice A0_0 l0_0.length c0_0) := (blk_cell BK355.out 0).trans rfl
          have hfz12_0 := blk_frozen BK355.out 0
          have p357 : 0 ≤ (x1_1 : Int) := od zz2
          have q357 : x1_1 < (l0_0.length : Int) := od zz2
          obtain ⟨ad357, A357_0, c357_0, e357, hx357_0, hl357_0, hi357_0⟩ := at_L1 HR0_0.out x1_1 p357 q357
          cases e357
          replace hx357_0 := (HB.out.cell (World.block_lt_of_cell? w _ hx357_0)).trans hx357_0
          have HR357_0 := am hi357_0
          have HC357_0 := am hl357_0
          clear hi357_0 hl357_0
          replace p357 := eq_true p357
          replace q357 := eq_true q357
          have p358 : 0 ≤ ((rd l2 x11_1) : Int) := od zz2
          have q358 : (rd l2 x11_1) < ((rd_L1 l0_0 x1_1).length : Int) := od zz2
          obtain ⟨ad358, e358, hx358_0⟩ := Kd.at_int HR357_0.out (rd l2 x11_1) p358 q358
          cases e358
          replace hx358_0 := (HB.out.cell (World.block_lt_of_cell? w _ hx358_0)).trans hx358_0
          replace p358 := eq_true p358
          replace q358 := eq_true q358
          go_wp2
          go_roundg k1
          case measure => have := HK1.out; omega
          case rel => exact ⟨(rd (rd_L1 l0_0 x1_1) (rd l2 x11_1)), (wrap64 (x11_1 + 1)), zz3, zz3, H', ⟨by have := HK1.out; omega⟩, ⟨by (with_reducible repeat (first | refine blk_drewN ?_ _ | refine blk_drew ?_ | refine blk_alloc ?_ _)); exact BK355.out⟩, ⟨by repeat (first | (with_reducible first | exact HB.out | apply ba | apply pb | apply bd | refine below_set ?_ GE355.out) | exact HB.out)⟩⟩
         ·rw [if_neg c11] at H
          exact absurd H (by simp)
        ·rw [if_neg c10] at H
         exact absurd H (by simp)
       ·rw [if_neg c9] at H
        exact absurd H (by simp)
      ·rw [if_neg c8] at H
       exact absurd H (by simp)
     ·rw [if_neg c7] at H
      exact absurd H (by simp)
    ·rw [if_neg c6] at H
     exact absurd H (by simp)
   ·rw [if_neg c5] at H
    have c5b0 : decide (x11_1 < (l2.length : Int)) = false := decide_eq_false c5
    clear c5
    obtain rfl := Option.some.inj H
    go_wp2
    go_ret
    exact ⟨by first | rfl | (simp [errW_none, errW_some] <;> rfl) | (simp [*, errW_none, errW_some] <;> rfl), by repeat (first | (with_reducible first | exact HB.out | apply ba | apply pb | apply bd | refine below_set ?_ GE355.out) | exact HB.out)⟩
end Go.Proofs.Ytjgdalhdiohclaa.Q
end
/-! Part QAutoWord -/
section
namespace Go.Proofs.Ytjgdalhdiohclaa.Q
attribute [local go_sem] max2_int min2_int max_two min_two max_three min_three max_four min_four
set_option linter.unusedVariables false
set_option linter.unusedSimpArgs false
def auto_Word.f (l0_0 : List (List Int)) (l1 : List Int) : Option (Bool) := if (l1.length : Int) ≤ 40000 then ((auto_Letters.f l0_0).bind fun t613 => ((auto_within_int.f l1 t613).bind fun t614 => (some t614))) else (some false)
set_option maxHeartbeats 8000000 in
set_option maxRecDepth 100000 in
theorem auto_Word.calls (A0_0 : Option Addr) (c0_0 : Nat) (l0_0 : List (List Int)) (A1 : Option Addr) (c1 : Nat) (l1 : List Int) (r : Bool) (w : World) (hr0_0 : Kd.C (Kd.slice 3 (Kd.int .i64)) w A0_0 l0_0.length l0_0) (hc0_0 : l0_0.length ≤ c0_0) (hr1 : Kd.C (Kd.int .i64) w A1 l1.length l1) (hc1 : l1.length ≤ c1) (h : auto_Word.f l0_0 l1 = some r) :
  Calls Try.prog 73 #[.agg #[.slice A0_0 l0_0.length c0_0], .slice A1 l1.length c1] w fun e w' => e = .returned (.bool r) ∧ Below w.heap.size w w' := by
 have hu24 := Try.underlying24
 have HR0_0 := am hr0_0
 have HC0_0 := am hc0_0
 clear hr0_0 hc0_0
 have HR1 := am hr1
 have HC1 := am hc1
 clear hr1 hc1
 have HB := am (Below.refl w.heap.size w)
 have H : (if (l1.length : Int) ≤ 40000 then ((auto_Letters.f l0_0).bind fun t613 => ((auto_within_int.f l1 t613).bind fun t614 => (some t614))) else (some false)) = some r := h
 clear h
 by_cases c3 : (l1.length : Int) ≤ 40000
 ·rw [if_pos c3] at H
  have c3b0 : decide ((l1.length : Int) ≤ 40000) = true := decide_eq_true c3
  have c3b1 : decide (l1.length ≤ 40000) = true := decide_eq_true (by omega)
  clear c3
  replace H := Option.bind_eq_some_iff.mp H
  obtain ⟨t613, A40, H⟩ := H
  replace H : ((auto_within_int.f l1 t613).bind fun t614 => (some t614)) = some r := H
  have A4 := am A40
  clear A40
  replace H := Option.bind_eq_some_iff.mp H
  obtain ⟨t614, A50, H⟩ := H
  replace H : (some t614) = some r := H
  have A5 := am A50
  clear A50
  obtain rfl := Option.some.inj H
  go_enter Try.func73, Try.ntmps73
  go_wp2_with (first | ((with_reducible refine gate_dst (N := 2) rfl ?_); refine box_event ?hg (N := 2) ?hd (cs := #[.slice A0_0 l0_0.length c0_0]) (t := 24) ?hr ?_; (case hd => rfl); (case hg => rfl); (case hr => first | (go_simp; done) | (go_simp; rfl)); intro gb612 hg w6 hbox hb; have BK612 := am (hbox); have GW612 := am ((by rw [hg]; exact (below_size (bw HB.out)) : w.heap.size ≤ gb612)); have GE612 := am ((by rw [hg]; exact (below_size (bw HB.out)) : w.heap.size ≤ gb612)); replace HB := am (below_step (bw HB.out) hb); clear hb hbox hg; have hcz7_0 : w6.cell? ⟨gb612, 0, none⟩ = some (.slice A0_0 l0_0.length c0_0) := (blk_cell BK612.out 0).trans rfl; have hfz7_0 := blk_frozen BK612.out 0) | (go_at_call 80; (with_reducible refine (auto_Letters.calls _ _ l0_0 t613 _ ?side1 ?side2 A4.out).mono ?_); (case side1 => exact kc (Kd.C_below HR0_0.out HB.out)); (case side2 => exact HC0_0.out); rintro e w8 ⟨rfl, hb⟩; replace BK612 := am (blk_below (g := gb612) (o := .cells #[.slice A0_0 l0_0.length c0_0] 24 (0, 0)) (kb BK612.out) hb); replace HB := am (below_step (bs HB.out) hb); (try clear hb); (try clear hb2); (try clear hk); (try clear hi)) | (go_at_call 101; (with_reducible refine (auto_within_int.calls _ _ l1 t613 t614 _ ?side1 ?side2 A5.out).mono ?_); (case side1 => exact kc (Kd.C_below HR1.out HB.out)); (case side2 => exact HC1.out); rintro e w9 ⟨rfl, hb⟩; replace BK612 := am (blk_below (g := gb612) (o := .cells #[.slice A0_0 l0_0.length c0_0] 24 (0, 0)) (kb BK612.out) hb); replace HB := am (below_step (bs HB.out) hb); (try clear hb); (try clear hb2); (try clear hk); (try clear hi)))
  go_ret
  exact ⟨by first | rfl | (simp [errW_none, errW_some] <;> rfl) | (simp [*, errW_none, errW_some] <;> rfl), by repeat (first | (with_reducible first | exact HB.out | apply ba | apply pb | apply bd | refine below_set ?_ GE612.out) | exact HB.out)⟩
 ·rw [if_neg c3] at H
  have c3b0 : decide ((l1.length : Int) ≤ 40000) = false := decide_eq_false c3
  have c3b1 : decide (l1.length ≤ 40000) = false := decide_eq_false (by omega)
  clear c3
  obtain rfl := Option.some.inj H
  go_enter Try.func73, Try.ntmps73
  go_wp2_with (first | ((with_reducible refine gate_dst (N := 2) rfl ?_); refine box_event ?hg (N := 2) ?hd (cs := #[.slice A0_0 l0_0.length c0_0]) (t := 24) ?hr ?_; (case hd => rfl); (case hg => rfl); (case hr => first | (go_simp; done) | (go_simp; rfl)); intro gb612 hg w10 hbox hb; have BK612 := am (hbox); have GW612 := am ((by rw [hg]; exact (below_size (bw HB.out)) : w.heap.size ≤ gb612)); have GE612 := am ((by rw [hg]; exact (below_size (bw HB.out)) : w.heap.size ≤ gb612)); replace HB := am (below_step (bw HB.out) hb); clear hb hbox hg))
  go_ret
  exact ⟨by first | rfl | (simp [errW_none, errW_some] <;> rfl) | (simp [*, errW_none, errW_some] <;> rfl), by repeat (first | (with_reducible first | exact HB.out | apply ba | apply pb | apply bd | refine below_set ?_ GE612.out) | exact HB.out)⟩
end Go.Proofs.Ytjgdalhdiohclaa.Q
end
/-! Part QAutoSet -/
section
namespace Go.Proofs.Ytjgdalhdiohclaa.Q
attribute [local go_sem] max2_int min2_int max_two min_two max_three min_three max_four min_four
set_option linter.unusedVariables false
set_option linter.unusedSimpArgs false
def auto_Set.l0 : Nat → List Int → List Int → Int → Int → List (List Int) → Option (Bool)
 | 0, _, _, _, _, _ => none
 | k + 1, x1, x7, x8, x9, x617000 => if x9 < x8 then (if 0 ≤ x9 then (if x9 < (x7.length : Int) then ((auto_State.f x617000 (rd x7 x9)).bind fun t618 => (if t618 = true then (if x9 > 0 then (if 0 ≤ (wrap64 (x9 - 1)) then (if (wrap64 (x9 - 1)) < (x1.length : Int) then (if (rd x1 (wrap64 (x9 - 1))) ≥ (rd x7 x9) then (some false) else (auto_Set.l0 k x1 x7 x8 (wrap64 (x9 + 1)) x617000)) else (none)) else (none)) else (auto_Set.l0 k x1 x7 x8 (wrap64 (x9 + 1)) x617000)) else (some false))) else (none)) else (none)) else (some true)
def auto_Set.f (k : Nat) (l0_0 : List (List Int)) (l1 : List Int) : Option (Bool) := auto_Set.l0 k l1 l1 (l1.length : Int) 0 l0_0
theorem auto_Set.mono_l : ∀ k, (∀ y0 y1 y2 y3 y4, LeO (auto_Set.l0 k y0 y1 y2 y3 y4) (auto_Set.l0 (k + 1) y0 y1 y2 y3 y4))
 | 0 => fun _ _ _ _ _ r h => by simp [auto_Set.l0] at h
 | k + 1 => by
  have ih0 := auto_Set.mono_l k
  ·intro y0 y1 y2 y3 y4
   unfold auto_Set.l0
   repeat' first
   | (with_reducible exact ih0 _ _ _ _ _)
   | (with_reducible exact LeO.refl _)
   | (with_reducible exact LeO.none _)
   | (with_reducible refine LeO.ite ?_ ?_)
   | (with_reducible refine LeO.bind ?_ (fun _ => ?_))
   | exact ih0 _ _ _ _ _
   | exact LeO.none _
   | refine LeO.ite ?_ ?_
   | refine LeO.bind ?_ (fun _ => ?_)
theorem auto_Set.mono : ∀ a0 a1 k, LeO (auto_Set.f k a0 a1) (auto_Set.f (k + 1) a0 a1) := by
 intro a0 a1 k
 have ih0 := auto_Set.mono_l k
 unfold auto_Set.f
 repeat' first
   | (with_reducible exact ih0 _ _ _ _ _)
   | (with_reducible exact LeO.refl _)
   | (with_reducible exact LeO.none _)
   | (with_reducible refine LeO.ite ?_ ?_)
   | (with_reducible refine LeO.bind ?_ (fun _ => ?_))
   | exact ih0 _ _ _ _ _
   | exact LeO.none _
   | refine LeO.ite ?_ ?_
   | refine LeO.bind ?_ (fun _ => ?_)
set_option maxHeartbeats 8000000 in
set_option maxRecDepth 100000 in
theorem auto_Set.calls (k : Nat) (A0_0 : Option Addr) (c0_0 : Nat) (l0_0 : List (List Int)) (A1 : Option Addr) (c1 : Nat) (l1 : List Int) (r : Bool) (w : World) (hr0_0 : Kd.C (Kd.slice 3 (Kd.int .i64)) w A0_0 l0_0.length l0_0) (hc0_0 : l0_0.length ≤ c0_0) (hr1 : Kd.C (Kd.int .i64) w A1 l1.length l1) (hc1 : l1.length ≤ c1) (h : auto_Set.f k l0_0 l1 = some r) :
  Calls Try.prog 107 #[.agg #[.slice A0_0 l0_0.length c0_0], .slice A1 l1.length c1] w fun e w' => e = .returned (.bool r) ∧ Below w.heap.size w w' := by
 have hu24 := Try.underlying24
 have HR0_0 := am hr0_0
 have HC0_0 := am hc0_0
 clear hr0_0 hc0_0
 have HR1 := am hr1
 have HC1 := am hc1
 clear hr1 hc1
 have HB := am (Below.refl w.heap.size w)
 have H : (auto_Set.l0 k l1 l1 (l1.length : Int) 0 l0_0) = some r := h
 clear h
 have H' := am H
 clear H
 go_enter Try.func107, Try.ntmps107
 go_wp2_with (first | ((with_reducible refine gate_dst (N := 2) rfl ?_); refine box_event ?hg (N := 2) ?hd (cs := #[.slice A0_0 l0_0.length c0_0]) (t := 24) ?hr ?_; (case hd => rfl); (case hg => rfl); (case hr => first | (go_simp; done) | (go_simp; rfl)); intro gb616 hg w3 hbox hb; have BK616 := am (hbox); have GW616 := am ((by rw [hg]; exact (below_size (bw HB.out)) : w.heap.size ≤ gb616)); have GE616 := am ((by rw [hg]; exact (below_size (bw HB.out)) : w.heap.size ≤ gb616)); replace HB := am (below_step (bw HB.out) hb); clear hb hbox hg))
 go_loopg [9] k (fun kq v9 w' => ∃ (x9_1 : Int), v9 = .int .i64 x9_1 ∧ Aside0 (auto_Set.l0 kq l1 l1 (l1.length : Int) x9_1 l0_0 = some r) ∧ Aside0 (kq ≤ k) ∧ Aside0 (w'.heap[gb616]? = some (.cells #[(.slice A0_0 l0_0.length c0_0)] 24 (0, 0))) ∧ Aside0 (Below w.heap.size w w'))
 case atStart => exact ⟨(0), zz3, H', ⟨Nat.le_refl _⟩, ⟨by (with_reducible repeat (first | refine blk_drewN ?_ _ | refine blk_drew ?_ | refine blk_alloc ?_ _)); exact BK616.out⟩, ⟨by repeat (first | (with_reducible first | exact HB.out | apply ba | apply pb | apply bd | refine below_set ?_ GE616.out) | exact HB.out)⟩⟩
 case round =>
  clear H'
  try clear c1
  try clear p2
  obtain ⟨x9_1, rfl, HA, HK1, BK616, HB⟩ := hrel
  cases gk with
  | zero => exact absurd HA.out (by simp [auto_Set.l0])
  | succ k1 =>
   have H := HA.out
   clear HA
   simp only [auto_Set.l0] at H
   by_cases c4 : x9_1 < (l1.length : Int)
   ·rw [if_pos c4] at H
    have c4b0 : decide (x9_1 < (l1.length : Int)) = true := decide_eq_true c4
    clear c4
    by_cases c5 : 0 ≤ x9_1
    ·rw [if_pos c5] at H
     have c5b0 : decide (0 ≤ x9_1) = true := decide_eq_true c5
     clear c5
     by_cases c6 : x9_1 < (l1.length : Int)
     ·rw [if_pos c6] at H
      have c6b0 : decide (x9_1 < (l1.length : Int)) = true := decide_eq_true c6
      clear c6
      replace H := Option.bind_eq_some_iff.mp H
      obtain ⟨t618, A70, H⟩ := H
      replace H : (if t618 = true then (if x9_1 > 0 then (if 0 ≤ (wrap64 (x9_1 - 1)) then (if (wrap64 (x9_1 - 1)) < (l1.length : Int) then (if (rd l1 (wrap64 (x9_1 - 1))) ≥ (rd l1 x9_1) then (some false) else (auto_Set.l0 k1 l1 l1 (l1.length : Int) (wrap64 (x9_1 + 1)) l0_0)) else (none)) else (none)) else (auto_Set.l0 k1 l1 l1 (l1.length : Int) (wrap64 (x9_1 + 1)) l0_0)) else (some false)) = some r := H
      have A7 := am A70
      clear A70
      by_cases c8 : t618 = true
      ·subst c8
       have H1 : (if x9_1 > 0 then (if 0 ≤ (wrap64 (x9_1 - 1)) then (if (wrap64 (x9_1 - 1)) < (l1.length : Int) then (if (rd l1 (wrap64 (x9_1 - 1))) ≥ (rd l1 x9_1) then (some false) else (auto_Set.l0 k1 l1 l1 (l1.length : Int) (wrap64 (x9_1 + 1)) l0_0)) else (none)) else (none)) else (auto_Set.l0 k1 l1 l1 (l1.length : Int) (wrap64 (x9_1 + 1)) l0_0)) = some r := by rw [if_pos rfl] at H; exact H
       clear H
       have H := H1
       clear H1
       by_cases c9 : x9_1 > 0
       ·rw [if_pos c9] at H
        have c9b0 : decide (0 < x9_1) = true := decide_eq_true c9
        clear c9
        obtain ⟨ji10, hji10⟩ : ∃ j_ : Int, (wrap64 (x9_1 - 1)) = j_ := ⟨_, rfl⟩
        replace H : (if 0 ≤ (ji10) then (if (ji10) < (l1.length : Int) then (if (rd l1 (ji10)) ≥ (rd l1 x9_1) then (some false) else (auto_Set.l0 k1 l1 l1 (l1.length : Int) (wrap64 (x9_1 + 1)) l0_0)) else (none)) else (none)) = some r := by first | (rw [hji10] at H; exact H) | (simp only [hji10] at H ⊢; exact H)
        (try rw [hji10] at A7)
        have hji10w : (IntKind.i64.wrap (x9_1 - 1)) = ji10 := (i64_w _).trans hji10
        by_cases c11 : 0 ≤ (ji10)
        ·rw [if_pos c11] at H
         have c11b0 : decide (0 ≤ (ji10)) = true := decide_eq_true c11
         clear c11
         by_cases c12 : (ji10) < (l1.length : Int)
         ·rw [if_pos c12] at H
          have c12b0 : decide ((ji10) < (l1.length : Int)) = true := decide_eq_true c12
          clear c12
          by_cases c13 : (rd l1 (ji10)) ≥ (rd l1 x9_1)
          ·rw [if_pos c13] at H
           have c13b0 : decide ((rd l1 x9_1) ≤ (rd l1 (ji10))) = true := decide_eq_true c13
           clear c13
           obtain rfl := Option.some.inj H
           have p617 : 0 ≤ (x9_1 : Int) := od zz2
           have q617 : x9_1 < (l1.length : Int) := od zz2
           obtain ⟨ad617, e617, hx617_0⟩ := Kd.at_int HR1.out x9_1 p617 q617
           cases e617
           replace hx617_0 := (HB.out.cell (World.block_lt_of_cell? w _ hx617_0)).trans hx617_0
           replace p617 := eq_true p617
           replace q617 := eq_true q617
           have hcz14_0 : wr.cell? ⟨gb616, 0, none⟩ = some (.slice A0_0 l0_0.length c0_0) := (blk_cell BK616.out 0).trans rfl
           have hfz14_0 := blk_frozen BK616.out 0
           go_wp2_with (first | ((with_reducible refine gate_callee (f := 65) rfl ?_); refine goesL_ (some 16) rfl rfl Try.func65 (by kernel_rfl) rfl #[.agg #[.slice A0_0 l0_0.length c0_0], .int .i64 (rd l1 x9_1)] rfl zz1 ?_; (with_reducible refine (auto_State.calls _ _ l0_0 (rd l1 x9_1) true _ ?side1 ?side2 A7.out).mono ?_); (case side1 => exact kc (Kd.C_below HR0_0.out HB.out)); (case side2 => exact HC0_0.out); rintro e w15 ⟨rfl, hb⟩; refine ⟨_, rfl, ?_⟩; replace BK616 := am (blk_below (g := gb616) (o := .cells #[.slice A0_0 l0_0.length c0_0] 24 (0, 0)) (kb BK616.out) hb); replace HB := am (below_step (bs HB.out) hb); (try clear hb); (try clear hb2); (try clear hk); (try clear hi); have p619 : 0 ≤ ((ji10) : Int) := od zz2; have q619 : (ji10) < (l1.length : Int) := od zz2; obtain ⟨ad619, e619, hx619_0⟩ := Kd.at_int HR1.out (ji10) p619 q619; obtain rfl : ad617 = ad619 := (by injection e619); replace hx619_0 := (HB.out.cell (World.block_lt_of_cell? w _ hx619_0)).trans hx619_0; replace p619 := eq_true p619; replace q619 := eq_true q619))
           go_ret
           exact ⟨by first | rfl | (simp [errW_none, errW_some] <;> rfl) | (simp only [← hji10]; first | rfl | (simp [errW_none, errW_some] <;> rfl)) | (simp [*, errW_none, errW_some] <;> rfl), by repeat (first | (with_reducible first | exact HB.out | apply ba | apply pb | apply bd | refine below_set ?_ GE616.out) | exact HB.out)⟩
          ·rw [if_neg c13] at H
           have c13b0 : decide ((rd l1 x9_1) ≤ (rd l1 (ji10))) = false := decide_eq_false c13
           clear c13
           have H' := am H
           clear H
           have p617 : 0 ≤ (x9_1 : Int) := od zz2
           have q617 : x9_1 < (l1.length : Int) := od zz2
           obtain ⟨ad617, e617, hx617_0⟩ := Kd.at_int HR1.out x9_1 p617 q617
           cases e617
           replace hx617_0 := (HB.out.cell (World.block_lt_of_cell? w _ hx617_0)).trans hx617_0
           replace p617 := eq_true p617
           replace q617 := eq_true q617
           have hcz16_0 : wr.cell? ⟨gb616, 0, none⟩ = some (.slice A0_0 l0_0.length c0_0) := (blk_cell BK616.out 0).trans rfl
           have hfz16_0 := blk_frozen BK616.out 0
           go_wp2_with (first | ((with_reducible refine gate_callee (f := 65) rfl ?_); refine goesL_ (some 16) rfl rfl Try.func65 (by kernel_rfl) rfl #[.agg #[.slice A0_0 l0_0.length c0_0], .int .i64 (rd l1 x9_1)] rfl zz1 ?_; (with_reducible refine (auto_State.calls _ _ l0_0 (rd l1 x9_1) true _ ?side1 ?side2 A7.out).mono ?_); (case side1 => exact kc (Kd.C_below HR0_0.out HB.out)); (case side2 => exact HC0_0.out); rintro e w17 ⟨rfl, hb⟩; refine ⟨_, rfl, ?_⟩; replace BK616 := am (blk_below (g := gb616) (o := .cells #[.slice A0_0 l0_0.length c0_0] 24 (0, 0)) (kb BK616.out) hb); replace HB := am (below_step (bs HB.out) hb); (try clear hb); (try clear hb2); (try clear hk); (try clear hi); have p619 : 0 ≤ ((ji10) : Int) := od zz2; have q619 : (ji10) < (l1.length : Int) := od zz2; obtain ⟨ad619, e619, hx619_0⟩ := Kd.at_int HR1.out (ji10) p619 q619; obtain rfl : ad617 = ad619 := (by injection e619); replace hx619_0 := (HB.out.cell (World.block_lt_of_cell? w _ hx619_0)).trans hx619_0; replace p619 := eq_true p619; replace q619 := eq_true q619))
           go_roundg k1
           case measure => have := HK1.out; omega
           case rel => exact ⟨(wrap64 (x9_1 + 1)), zz3, H', ⟨by have := HK1.out; omega⟩, ⟨by (with_reducible repeat (first | refine blk_drewN ?_ _ | refine blk_drew ?_ | refine blk_alloc ?_ _)); exact BK616.out⟩, ⟨by repeat (first | (with_reducible first | exact HB.out | apply ba | apply pb | apply bd | refine below_set ?_ GE616.out) | exact HB.out)⟩⟩
         ·rw [if_neg c12] at H
          exact absurd H (by simp)
        ·rw [if_neg c11] at H
         exact absurd H (by simp)
       ·rw [if_neg c9] at H
        have c9b0 : decide (0 < x9_1) = false := decide_eq_false c9
        clear c9
        have H' := am H
        clear H
        have p617 : 0 ≤ (x9_1 : Int) := od zz2
        have q617 : x9_1 < (l1.length : Int) := od zz2
        obtain ⟨ad617, e617, hx617_0⟩ := Kd.at_int HR1.out x9_1 p617 q617
        cases e617
        replace hx617_0 := (HB.out.cell (World.block_lt_of_cell? w _ hx617_0)).trans hx617_0
        replace p617 := eq_true p617
        replace q617 := eq_true q617
        have hcz18_0 : wr.cell? ⟨gb616, 0, none⟩ = some (.slice A0_0 l0_0.length c0_0) := (blk_cell BK616.out 0).trans rfl
        have hfz18_0 := blk_frozen BK616.out 0
        go_wp2_with (first | ((with_reducible refine gate_callee (f := 65) rfl ?_); refine goesL_ (some 16) rfl rfl Try.func65 (by kernel_rfl) rfl #[.agg #[.slice A0_0 l0_0.length c0_0], .int .i64 (rd l1 x9_1)] rfl zz1 ?_; (with_reducible refine (auto_State.calls _ _ l0_0 (rd l1 x9_1) true _ ?side1 ?side2 A7.out).mono ?_); (case side1 => exact kc (Kd.C_below HR0_0.out HB.out)); (case side2 => exact HC0_0.out); rintro e w19 ⟨rfl, hb⟩; refine ⟨_, rfl, ?_⟩; replace BK616 := am (blk_below (g := gb616) (o := .cells #[.slice A0_0 l0_0.length c0_0] 24 (0, 0)) (kb BK616.out) hb); replace HB := am (below_step (bs HB.out) hb); (try clear hb); (try clear hb2); (try clear hk); (try clear hi)))
        go_roundg k1
        case measure => have := HK1.out; omega
        case rel => exact ⟨(wrap64 (x9_1 + 1)), zz3, H', ⟨by have := HK1.out; omega⟩, ⟨by (with_reducible repeat (first | refine blk_drewN ?_ _ | refine blk_drew ?_ | refine blk_alloc ?_ _)); exact BK616.out⟩, ⟨by repeat (first | (with_reducible first | exact HB.out | apply ba | apply pb | apply bd | refine below_set ?_ GE616.out) | exact HB.out)⟩⟩
      ·replace c8 := Bool.eq_false_iff.mpr c8
       subst c8
       have H1 : (some false) = some r := by rw [if_neg (show ¬ (false = true) by decide)] at H; exact H
       clear H
       have H := H1
       clear H1
       obtain rfl := Option.some.inj H
       have p617 : 0 ≤ (x9_1 : Int) := od zz2
       have q617 : x9_1 < (l1.length : Int) := od zz2
       obtain ⟨ad617, e617, hx617_0⟩ := Kd.at_int HR1.out x9_1 p617 q617
       cases e617
       replace hx617_0 := (HB.out.cell (World.block_lt_of_cell? w _ hx617_0)).trans hx617_0
       replace p617 := eq_true p617
       replace q617 := eq_true q617
       have hcz20_0 : wr.cell? ⟨gb616, 0, none⟩ = some (.slice A0_0 l0_0.length c0_0) := (blk_cell BK616.out 0).trans rfl
       have hfz20_0 := blk_frozen BK616.out 0
       go_wp2_with (first | ((with_reducible refine gate_callee (f := 65) rfl ?_); refine goesL_ (some 16) rfl rfl Try.func65 (by kernel_rfl) rfl #[.agg #[.slice A0_0 l0_0.length c0_0], .int .i64 (rd l1 x9_1)] rfl zz1 ?_; (with_reducible refine (auto_State.calls _ _ l0_0 (rd l1 x9_1) false _ ?side1 ?side2 A7.out).mono ?_); (case side1 => exact kc (Kd.C_below HR0_0.out HB.out)); (case side2 => exact HC0_0.out); rintro e w21 ⟨rfl, hb⟩; refine ⟨_, rfl, ?_⟩; replace BK616 := am (blk_below (g := gb616) (o := .cells #[.slice A0_0 l0_0.length c0_0] 24 (0, 0)) (kb BK616.out) hb); replace HB := am (below_step (bs HB.out) hb); (try clear hb); (try clear hb2); (try clear hk); (try clear hi)))
       go_ret
       exact ⟨by first | rfl | (simp [errW_none, errW_some] <;> rfl) | (simp [*, errW_none, errW_some] <;> rfl), by repeat (first | (with_reducible first | exact HB.out | apply ba | apply pb | apply bd | refine below_set ?_ GE616.out) | exact HB.out)⟩
     ·rw [if_neg c6] at H
      exact absurd H (by simp)
    ·rw [if_neg c5] at H
     exact absurd H (by simp)
   ·rw [if_neg c4] at H
    have c4b0 : decide (x9_1 < (l1.length : Int)) = false := decide_eq_false c4
    clear c4
    obtain rfl := Option.some.inj H
    go_wp2
    go_ret
    exact ⟨by first | rfl | (simp [errW_none, errW_some] <;> rfl) | (simp [*, errW_none, errW_some] <;> rfl), by repeat (first | (with_reducible first | exact HB.out | apply ba | apply pb | apply bd | refine below_set ?_ GE616.out) | exact HB.out)⟩
end Go.Proofs.Ytjgdalhdiohclaa.Q
end
/-! Part QRef05Colored -/
section
namespace Go.Proofs.Ytjgdalhdiohclaa.Q
attribute [local go_sem] max2_int min2_int max_two min_two max_three min_three max_four min_four
set_option linter.unusedVariables false
set_option linter.unusedSimpArgs false
end Go.Proofs.Ytjgdalhdiohclaa.Q
end
/-! Part QRef02Only -/
section
namespace Go.Proofs.Ytjgdalhdiohclaa.Q
attribute [local go_sem] max2_int min2_int max_two min_two max_three min_three max_four min_four
set_option linter.unusedVariables false
set_option linter.unusedSimpArgs false
end Go.Proofs.Ytjgdalhdiohclaa.Q
end
/-! Part QRef02Step -/
section
namespace Go.Proofs.Ytjgdalhdiohclaa.Q
attribute [local go_sem] max2_int min2_int max_two min_two max_three min_three max_four min_four
set_option linter.unusedVariables false
set_option linter.unusedSimpArgs false
end Go.Proofs.Ytjgdalhdiohclaa.Q
end
/-! Part QRef02Reach -/
section
namespace Go.Proofs.Ytjgdalhdiohclaa.Q
attribute [local go_sem] max2_int min2_int max_two min_two max_three min_three max_four min_four
set_option linter.unusedVariables false
set_option linter.unusedSimpArgs false
end Go.Proofs.Ytjgdalhdiohclaa.Q
end
/-! Part QRef02Full -/
section
namespace Go.Proofs.Ytjgdalhdiohclaa.Q
attribute [local go_sem] max2_int min2_int max_two min_two max_three min_three max_four min_four
set_option linter.unusedVariables false
set_option linter.unusedSimpArgs false
end Go.Proofs.Ytjgdalhdiohclaa.Q
end
/-! Part QRef02Connected -/
section
namespace Go.Proofs.Ytjgdalhdiohclaa.Q
attribute [local go_sem] max2_int min2_int max_two min_two max_three min_three max_four min_four
set_option linter.unusedVariables false
set_option linter.unusedSimpArgs false
end Go.Proofs.Ytjgdalhdiohclaa.Q
end
/-! Part QRef02Common -/
section
namespace Go.Proofs.Ytjgdalhdiohclaa.Q
attribute [local go_sem] max2_int min2_int max_two min_two max_three min_three max_four min_four
set_option linter.unusedVariables false
set_option linter.unusedSimpArgs false
end Go.Proofs.Ytjgdalhdiohclaa.Q
end
/-! Part QRef02Period -/
section
namespace Go.Proofs.Ytjgdalhdiohclaa.Q
attribute [local go_sem] max2_int min2_int max_two min_two max_three min_three max_four min_four
set_option linter.unusedVariables false
set_option linter.unusedSimpArgs false
end Go.Proofs.Ytjgdalhdiohclaa.Q
end
