/- Colorings returns the number of different colourings, or the documented error, for any automaton. (text 8 of 28) -/
import Derived.Test.YtjgdalhdiohclaaZColorCountsg
open Go.RowKit Go.Proofs.YtjgdalhdiohclaaW.PrintWords Go.Proofs.YtjgdalhdiohclaaW.PrintLast Go.Proofs.YtjgdalhdiohclaaW.PrintMore
/-! Part QResetOf -/
section
namespace Go.Proofs.Ytjgdalhdiohclaa.Q
attribute [local go_sem] max2_int min2_int max_two min_two max_three min_three max_four min_four
set_option linter.unusedVariables false
set_option linter.unusedSimpArgs false
def reset_of.f (a0 : Int) (a1 : Int) : Option (Int × Int) := some (mn a0 a1, mx a0 a1)
set_option maxHeartbeats 8000000 in
set_option maxRecDepth 100000 in
theorem reset_of.calls (a0 : Int) (a1 : Int) (r1 : Int) (r2 : Int) (w : World) (h : reset_of.f a0 a1 = some (r1, r2)) :
  Calls Try.prog 132 #[.int .i64 a0, .int .i64 a1] w fun e w' => e = .returned (.agg #[.int .i64 r1, .int .i64 r2]) ∧ Below w.heap.size w w' := by
 have hu97 := Try.underlying97
 have HB := am (Below.refl w.heap.size w)
 have H : (some (mn a0 a1, mx a0 a1)) = some (r1, r2) := h
 clear h
 obtain ⟨ji3, hji3⟩ : ∃ j_ : Int, (mn a0 a1) = j_ := ⟨_, rfl⟩
 replace H : (some (ji3, mx a0 a1)) = some (r1, r2) := by first | (rw [hji3] at H; exact H) | (simp only [hji3] at H ⊢; exact H)
 have hji3_ : (if a1 < a0 then a1 else a0) = ji3 := hji3
 obtain ⟨ji4, hji4⟩ : ∃ j_ : Int, (mx a0 a1) = j_ := ⟨_, rfl⟩
 replace H : (some (ji3, ji4)) = some (r1, r2) := by first | (rw [hji4] at H; exact H) | (simp only [hji4] at H ⊢; exact H)
 have hji4_ : (if a0 < a1 then a1 else a0) = ji4 := hji4
 simp only [Option.some.injEq, Prod.mk.injEq] at H
 obtain ⟨rfl, rfl⟩ := H
 go_enter Try.func132, Try.ntmps132
 go_wp2_with (first | ((with_reducible refine gate_dst (N := 4) rfl ?_); refine box_event ?hg (N := 4) ?hd (cs := #[.int .i64 0, .int .i64 0]) (t := 97) ?hr ?_; (case hd => rfl); (case hg => rfl); (case hr => first | (go_simp; done) | (go_simp; rfl)); intro gb373 hg w5 hbox hb; have BK373 := am (hbox); have GW373 := am ((by rw [hg]; exact (below_size (bw HB.out)) : w.heap.size ≤ gb373)); have GE373 := am ((by rw [hg]; exact (below_size (bw HB.out)) : w.heap.size ≤ gb373)); replace HB := am (below_step (bw HB.out) hb); clear hb hbox hg; have hcz6_0 : w5.cell? ⟨gb373, 0, none⟩ = some (.int .i64 0) := (blk_cell BK373.out 0).trans rfl; have hcz6_1 : w5.cell? ⟨gb373, 1, none⟩ = some (.int .i64 0) := (blk_cell BK373.out 1).trans rfl; have hfz6_0 := blk_frozen BK373.out 0; have hfz6_1 := blk_frozen BK373.out 1))
 refine bodyPost_ret (results_cell_row rfl _ _ gb373 97 #[.int .i64 ji3, .int .i64 ji4] (0, 0) _ rfl (by (with_reducible repeat (first | refine blk_drewN ?_ _ | refine blk_drew ?_ | refine blk_alloc ?_ _)); refine blk_put (cs := #[.int .i64 ji3, .int .i64 0]) ?_ 1 _ rfl; (with_reducible repeat (first | refine blk_drewN ?_ _ | refine blk_drew ?_ | refine blk_alloc ?_ _)); refine blk_put (cs := #[.int .i64 0, .int .i64 0]) ?_ 0 _ rfl; (with_reducible repeat (first | refine blk_drewN ?_ _ | refine blk_drew ?_ | refine blk_alloc ?_ _)); exact BK373.out) Try.underlying97 rfl (by kernel_rfl)) rfl ?_
 exact ⟨by first | rfl | (simp [errW_none, errW_some] <;> rfl) | (simp only [← hji3, ← hji4]; first | rfl | (simp [errW_none, errW_some] <;> rfl)) | (simp [*, errW_none, errW_some] <;> rfl), by repeat (first | (with_reducible first | exact HB.out | apply ba | apply pb | apply bd | refine below_set ?_ GE373.out) | exact HB.out)⟩
end Go.Proofs.Ytjgdalhdiohclaa.Q
end
/-! Part QAutoAll -/
section
namespace Go.Proofs.Ytjgdalhdiohclaa.Q
attribute [local go_sem] max2_int min2_int max_two min_two max_three min_three max_four min_four
set_option linter.unusedVariables false
set_option linter.unusedSimpArgs false
def auto_All.l0 : Nat → List Int → Int → Int → Option (List Int)
 | 0, _, _, _ => none
 | k + 1, x3, x8, x9 => if x9 < x8 then (if x3.length < 17592186044416 then (auto_All.l0 k (x3 ++ [x9]) x8 (wrap64 (x9 + 1))) else (none)) else (some x3)
def auto_All.f (k : Nat) (l0_0 : List (List Int)) : Option (List Int) := auto_All.l0 k (([] : List Int)) (l0_0.length : Int) 0
theorem auto_All.mono_l : ∀ k, (∀ y0 y1 y2, LeO (auto_All.l0 k y0 y1 y2) (auto_All.l0 (k + 1) y0 y1 y2))
 | 0 => fun _ _ _ r h => by simp [auto_All.l0] at h
 | k + 1 => by
  have ih0 := auto_All.mono_l k
  ·intro y0 y1 y2
   unfold auto_All.l0
   repeat' first
   | (with_reducible exact ih0 _ _ _)
   | (with_reducible exact LeO.refl _)
   | (with_reducible exact LeO.none _)
   | (with_reducible refine LeO.ite ?_ ?_)
   | (with_reducible refine LeO.bind ?_ (fun _ => ?_))
   | exact ih0 _ _ _
   | exact LeO.none _
   | refine LeO.ite ?_ ?_
   | refine LeO.bind ?_ (fun _ => ?_)
theorem auto_All.mono : ∀ a0 k, LeO (auto_All.f k a0) (auto_All.f (k + 1) a0) := by
 intro a0 k
 have ih0 := auto_All.mono_l k
 unfold auto_All.f
 repeat' first
   | (with_reducible exact ih0 _ _ _)
   | (with_reducible exact LeO.refl _)
   | (with_reducible exact LeO.none _)
   | (with_reducible refine LeO.ite ?_ ?_)
   | (with_reducible refine LeO.bind ?_ (fun _ => ?_))
   | exact ih0 _ _ _
   | exact LeO.none _
   | refine LeO.ite ?_ ?_
   | refine LeO.bind ?_ (fun _ => ?_)
set_option maxHeartbeats 8000000 in
set_option maxRecDepth 100000 in
theorem auto_All.calls (k : Nat) (A0_0 : Option Addr) (c0_0 : Nat) (l0_0 : List (List Int)) (r : List Int) (w : World) (hr0_0 : Kd.C (Kd.slice 3 (Kd.int .i64)) w A0_0 l0_0.length l0_0) (hc0_0 : l0_0.length ≤ c0_0) (h : auto_All.f k l0_0 = some r) :
  Calls Try.prog 93 #[.agg #[.slice A0_0 l0_0.length c0_0]] w fun e w' => ∃ v0_ : Value, e = .returned (v0_) ∧ Kd.R (Kd.int .i64) 3 w' w.heap.size (fun _ => True) v0_ r ∧ Below w.heap.size w w' := by
 have hu24 := Try.underlying24
 have HR0_0 := am hr0_0
 have HC0_0 := am hc0_0
 clear hr0_0 hc0_0
 have HB := am (Below.refl w.heap.size w)
 have H : (auto_All.l0 k (([] : List Int)) (l0_0.length : Int) 0) = some r := h
 clear h
 obtain ⟨y383, hy383⟩ : ∃ y_ : List Int, y_ = (([] : List Int)) := ⟨_, rfl⟩
 replace H : (auto_All.l0 k y383 (l0_0.length : Int) 0) = some r := by first | (rw [hy383]; with_reducible exact H) | (have H2_ := (Option.bind_some _ _).symm.trans H; rw [hy383]; with_reducible exact H2_) | (have H2_ := (Option.bind_some _ _).symm.trans H; with_reducible exact H2_) | with_reducible exact H | (rw [hy383]; exact H) | exact H
 have Ny383 := am hy383
 clear hy383
 have H' := am H
 clear H
 go_enter Try.func93, Try.ntmps93
 go_wp2_with (first | ((with_reducible refine gate_dst (N := 1) rfl ?_); refine box_event ?hg (N := 1) ?hd (cs := #[.slice A0_0 l0_0.length c0_0]) (t := 24) ?hr ?_; (case hd => rfl); (case hg => rfl); (case hr => first | (go_simp; done) | (go_simp; rfl)); intro gb382 hg w2 hbox hb; have BK382 := am (hbox); have GW382 := am ((by rw [hg]; exact (below_size (bw HB.out)) : w.heap.size ≤ gb382)); have GE382 := am ((by rw [hg]; exact (below_size (bw HB.out)) : w.heap.size ≤ gb382)); replace HB := am (below_step (bw HB.out) hb); clear hb hbox hg) | ((with_reducible refine gate_dst (N := 5) rfl ?_); refine Kd.R_lit (Kd.int .i64) _ 3 ?hg (N := 5) ?hd (xs := ([] : List Int)) (inner := []) (ok := fun _ => True) (okp := fun _ => True) ?hr ?hp (fun _ hk => hk) trivial (Below.refl _ _) (Nat.le_refl _) (by simp) ?_; (case hd => rfl); (case hg => rfl); (case hr => first | (go_simp; done) | (go_simp; rfl)); (case hp => exact (Reps.none _ _)); intro v384 w3 ho4 hb hg_ hnew_; clear hg_ hnew_; (first | rw [← Ny383.out] at ho4 | (simp only [Int.reduceToNat] at ho4; rw [← Ny383.out] at ho4)); have HO385 := am (Kd.R_lower ho4 (below_size (bs HB.out))); replace BK382 := am (blk_below (g := gb382) (o := .cells #[.slice A0_0 l0_0.length c0_0] 24 (0, 0)) (kb BK382.out) hb); replace HB := am (below_step (bs HB.out) hb); clear hb ho4; have hcz5_0 : w3.cell? ⟨gb382, 0, none⟩ = some (.slice A0_0 l0_0.length c0_0) := (blk_cell BK382.out 0).trans rfl; have hfz5_0 := blk_frozen BK382.out 0))
 go_loopg [3, 9] k (fun kq v3 v9 w' => ∃ (x3_1 : List Int) (x9_1 : Int), v9 = .int .i64 x9_1 ∧ Aside0 (auto_All.l0 kq x3_1 (l0_0.length : Int) x9_1 = some r) ∧ Aside0 (kq ≤ k) ∧ Aside0 (Kd.R (Kd.int .i64) 3 w' w.heap.size (fun _ => True) v3 x3_1) ∧ Aside0 (w'.heap[gb382]? = some (.cells #[(.slice A0_0 l0_0.length c0_0)] 24 (0, 0))) ∧ Aside0 (Below w.heap.size w w'))
 case atStart => exact ⟨(y383), (0), zz3, H', ⟨Nat.le_refl _⟩, ⟨by (with_reducible repeat (first | apply Kd.R_alloc | apply Kd.R_drewN | apply Kd.R_drew)); exact HO385.out⟩, ⟨by (with_reducible repeat (first | refine blk_drewN ?_ _ | refine blk_drew ?_ | refine blk_alloc ?_ _)); exact BK382.out⟩, ⟨by repeat (first | (with_reducible first | exact HB.out | apply ba | apply pb | apply bd | refine below_set ?_ GE382.out) | exact HB.out)⟩⟩
 case round =>
  clear H'
  try clear p2
  try clear hcz5_0
  try clear hfz5_0
  obtain ⟨x3_1, x9_1, rfl, HA, HK1, HO_3, BK382, HB⟩ := hrel
  cases gk with
  | zero => exact absurd HA.out (by simp [auto_All.l0])
  | succ k1 =>
   have H := HA.out
   clear HA
   simp only [auto_All.l0] at H
   by_cases c6 : x9_1 < (l0_0.length : Int)
   ·rw [if_pos c6] at H
    have c6b0 : decide (x9_1 < (l0_0.length : Int)) = true := decide_eq_true c6
    clear c6
    by_cases c7 : x3_1.length < 17592186044416
    ·rw [if_pos c7] at H
     have LMc7 := am c7
     clear c7
     obtain ⟨y386, hy386⟩ : ∃ y_ : List Int, y_ = (x3_1 ++ [x9_1]) := ⟨_, rfl⟩
     replace H : (auto_All.l0 k1 y386 (l0_0.length : Int) (wrap64 (x9_1 + 1))) = some r := by first | (rw [hy386]; with_reducible exact H) | (have H2_ := (Option.bind_some _ _).symm.trans H; rw [hy386]; with_reducible exact H2_) | (have H2_ := (Option.bind_some _ _).symm.trans H; with_reducible exact H2_) | with_reducible exact H | (rw [hy386]; exact H) | exact H
     have Ny386 := am hy386
     clear hy386
     have H' := am H
     clear H
     go_wp2_with (first | ((with_reducible refine gate_builtin (b := .append) (xs := #[.tmp 12, .tmp 14]) rfl ?_); at_builtin; refine Kd.R_append (Kd.int .i64) (w0 := w) w.heap.size rfl (.tmp 12) (.tmp 14) 28 3 (.int .i64 0) 8 rfl Try.underlying28 info3 rfl (by decide) (by omega) u3 x3_1 x9_1 [.int .i64 x9_1] (fun _ => True) (fun _ => False) rfl rfl ?aP (fun _ hk => hk.elim) ?aF ?aO ?aB ?aS ?aL ?_; (case aP => exact rfl); (case aB => exact (bs HB.out)); (case aF => exact (fun _ _ => trivial)); (case aO => exact (kR HO_3.out)); (case aS => exact (below_size (bs HB.out))); (case aL => have := LMc7.out; omega); intro v387 w8 ho hb hg hat; rw [← Ny386.out] at ho; have n0_ := am (blk_grown (g := gb382) (o := .cells #[.slice A0_0 l0_0.length c0_0] 24 (0, 0)) (kb BK382.out) hg (Kd.R_ne HO_3.out BK382.out (by decide))); have n1_ := am (hb); have n2_ := am (ho); clear BK382; clear HB; clear HO_3; have BK382 := n0_; have HB := n1_; have HO388 := n2_; clear n0_ n1_ n2_; clear ho hb hg hat))
     go_roundg k1
     case measure => have := HK1.out; omega
     case rel => exact ⟨(y386), (wrap64 (x9_1 + 1)), zz3, H', ⟨by have := HK1.out; omega⟩, ⟨by (with_reducible repeat (first | apply Kd.R_alloc | apply Kd.R_drewN | apply Kd.R_drew)); exact HO388.out⟩, ⟨by (with_reducible repeat (first | refine blk_drewN ?_ _ | refine blk_drew ?_ | refine blk_alloc ?_ _)); exact BK382.out⟩, ⟨by repeat (first | (with_reducible first | exact HB.out | apply ba | apply pb | apply bd | refine below_set ?_ GE382.out) | exact HB.out)⟩⟩
    ·rw [if_neg c7] at H
     exact absurd H (by simp)
   ·rw [if_neg c6] at H
    have c6b0 : decide (x9_1 < (l0_0.length : Int)) = false := decide_eq_false c6
    clear c6
    obtain rfl := Option.some.inj H
    go_wp2
    go_ret
    exact ⟨_, by first | rfl | (simp [errW_none, errW_some] <;> rfl) | (simp [*, errW_none, errW_some] <;> rfl), by (with_reducible repeat (first | apply Kd.R_alloc | apply Kd.R_drewN | apply Kd.R_drew)); exact HO_3.out, by repeat (first | (with_reducible first | exact HB.out | apply ba | apply pb | apply bd | refine below_set ?_ GE382.out) | exact HB.out)⟩
end Go.Proofs.Ytjgdalhdiohclaa.Q
end
/-! Part QAutoLead -/
section
namespace Go.Proofs.Ytjgdalhdiohclaa.Q
attribute [local go_sem] max2_int min2_int max_two min_two max_three min_three max_four min_four
set_option linter.unusedVariables false
set_option linter.unusedSimpArgs false
def auto_Lead.l0 : Nat → Int → List Int → Int → Int → List (List Int) → Option (Int)
 | 0, _, _, _, _, _ => none
 | k + 1, x1, x9, x10, x11, x356000 => if x11 < x10 then (if 0 ≤ x11 then (if x11 < (x9.length : Int) then (if 0 ≤ x1 then (if x1 < (x356000.length : Int) then (if 0 ≤ (rd x9 x11) then (if (rd x9 x11) < ((rd_L1 x356000 x1).length : Int) then (auto_Lead.l0 k (rd (rd_L1 x356000 x1) (rd x9 x11)) x9 x10 (wrap64 (x11 + 1)) x356000) else (none)) else (none)) else (none)) else (none)) else (none)) else (none)) else (some x1)
def auto_Lead.f (k : Nat) (l0_0 : List (List Int)) (a1 : Int) (l2 : List Int) : Option (Int) := auto_Lead.l0 k a1 l2 (l2.length : Int) 0 l0_0
theorem auto_Lead.mono_l : ∀ k, (∀ y0 y1 y2 y3 y4, LeO (auto_Lead.l0 k y0 y1 y2 y3 y4) (auto_Lead.l0 (k + 1) y0 y1 y2 y3 y4))
 | 0 => fun _ _ _ _ _ r h => by simp [auto_Lead.l0] at h
 | k + 1 => by
  have ih0 := auto_Lead.mono_l k
  ·intro y0 y1 y2 y3 y4
   unfold auto_Lead.l0
   repeat' first
   | (with_reducible exact ih0 _ _ _ _ _)
   | (with_reducible exact LeO.refl _)
   | (with_reducible exact LeO.none _)
   | (with_reducible refine LeO.ite ?_ ?_)
   | (with_reducible refine LeO.bind ?_ (fun _ => ?_))
   | exact ih0 _ _ _ _ _
   | exact LeO.none _
   | refine LeO.ite ?_ ?_
   | refine LeO.bind ?_ (fun _ => ?_)
theorem auto_Lead.mono : ∀ a0 a1 a2 k, LeO (auto_Lead.f k a0 a1 a2) (auto_Lead.f (k + 1) a0 a1 a2) := by
 intro a0 a1 a2 k
 have ih0 := auto_Lead.mono_l k
 unfold auto_Lead.f
 repeat' first
   | (with_reducible exact ih0 _ _ _ _ _)
   | (with_reducible exact LeO.refl _)
   | (with_reducible exact LeO.none _)
   | (with_reducible refine LeO.ite ?_ ?_)
   | (with_reducible refine LeO.bind ?_ (fun _ => ?_))
   | exact ih0 _ _ _ _ _
   | exact LeO.none _
   | refine LeO.ite ?_ ?_
   | refine LeO.bind ?_ (fun _ => ?_)
set_option maxHeartbeats 8000000 in
set_option maxRecDepth 100000 in
theorem auto_Lead.calls (k : Nat) (A0_0 : Option Addr) (c0_0 : Nat) (l0_0 : List (List Int)) (a1 : Int) (A2 : Option Addr) (c2 : Nat) (l2 : List Int) (r : Int) (w : World) (hr0_0 : Kd.C (Kd.slice 3 (Kd.int .i64)) w A0_0 l0_0.length l0_0) (hc0_0 : l0_0.length ≤ c0_0) (hr2 : Kd.C (Kd.int .i64) w A2 l2.length l2) (hc2 : l2.length ≤ c2) (h : auto_Lead.f k l0_0 a1 l2 = some r) :
  Calls Try.prog 74 #[.agg #[.slice A0_0 l0_0.length c0_0], .int .i64 a1, .slice A2 l2.length c2] w fun e w' => e = .returned (.int .i64 r) ∧ Below w.heap.size w w' := by
 have hu24 := Try.underlying24
 have HR0_0 := am hr0_0
 have HC0_0 := am hc0_0
 clear hr0_0 hc0_0
 have HR2 := am hr2
 have HC2 := am hc2
 clear hr2 hc2
 have HB := am (Below.refl w.heap.size w)
 have H : (auto_Lead.l0 k a1 l2 (l2.length : Int) 0 l0_0) = some r := h
 clear h
 have H' := am H
 clear H
 go_enter Try.func74, Try.ntmps74
 go_wp2_with (first | ((with_reducible refine gate_dst (N := 3) rfl ?_); refine box_event ?hg (N := 3) ?hd (cs := #[.slice A0_0 l0_0.length c0_0]) (t := 24) ?hr ?_; (case hd => rfl); (case hg => rfl); (case hr => first | (go_simp; done) | (go_simp; rfl)); intro gb355 hg w4 hbox hb; have BK355 := am (hbox); have GW355 := am ((by rw [hg]; exact (below_size (bw HB.out)) : w.heap.size ≤ gb355)); have GE355 := am ((by rw [hg]; exact (below_size (bw HB.out)) : w.heap.size ≤ gb355)); replace HB := am (below_step (bw HB.out) hb); clear hb hbox hg))
 go_loopg [1, 11] k (fun kq v1 v11 w' => ∃ (x1_1 : Int) (x11_1 : Int), v1 = .int .i64 x1_1 ∧ v11 = .int .i64 x11_1 ∧ Aside0 (auto_Lead.l0 kq x1_1 l2 (l2.length : Int) x11_1 l0_0 = some r) ∧ Aside0 (kq ≤ k) ∧ Aside0 (w'.heap[gb355]? = some (.cells #[(.slice A0_0 l0_0.length c0_0)] 24 (0, 0))) ∧ Aside0 (Below w.heap.size w w'))
 case atStart => exact ⟨(a1), (0), zz3, zz3, H', ⟨Nat.le_refl _⟩, ⟨by (with_reducible repeat (first | refine blk_drewN ?_ _ | refine blk_drew ?_ | refine blk_alloc ?_ _)); exact BK355.out⟩, ⟨by repeat (first | (with_reducible first | exact HB.out | apply ba | apply pb | apply bd | refine below_set ?_ GE355.out) | exact HB.out)⟩⟩
 case round =>
  clear H'
  try clear c2
  try clear p2
  obtain ⟨x1_1, x11_1, rfl, rfl, HA, HK1, BK355, HB⟩ := hrel
  cases gk with
  | zero => exact absurd HA.out (by simp [auto_Lead.l0])
  | succ k1 =>
   have H := HA.out
   clear HA
   simp only [auto_Lead.l0] at H
   by_cases c5 : x11_1 < (l2.length : Int)
   ·rw [if_pos c5] at H
    have c5b0 : decide (x11_1 < (l2.length : Int)) = true := decide_eq_true c5
    clear c5
    by_cases c6 : 0 ≤ x11_1
    ·rw [if_pos c6] at H
     have c6b0 : decide (0 ≤ x11_1) = true := decide_eq_true c6
     clear c6
     by_cases c7 : x11_1 < (l2.length : Int)
     ·rw [if_pos c7] at H
      have c7b0 : decide (x11_1 < (l2.length : Int)) = true := decide_eq_true c7
      clear c7
      by_cases c8 : 0 ≤ x1_1
      ·rw [if_pos c8] at H
       have c8b0 : decide (0 ≤ x1_1) = true := decide_eq_true c8
       clear c8
       by_cases c9 : x1_1 < (l0_0.length : Int)
       ·rw [if_pos c9] at H
        have c9b0 : decide (x1_1 < (l0_0.length : Int)) = true := decide_eq_true c9
        clear c9
        by_cases c10 : 0 ≤ (rd l2 x11_1)
        ·rw [if_pos c10] at H
         have c10b0 : decide (0 ≤ (rd l2 x11_1)) = true := decide_eq_true c10
         clear c10
         by_cases c11 : (rd l2 x11_1) < ((rd_L1 l0_0 x1_1).length : Int)
         ·rw [if_pos c11] at H
          have c11b0 : decide ((rd l2 x11_1) < ((rd_L1 l0_0 x1_1).length : Int)) = true := decide_eq_true c11
          clear c11
          have H' := am H
          clear H
          have p356 : 0 ≤ (x11_1 : Int) := od zz2
          have q356 : x11_1 < (l2.length : Int) := od zz2
          obtain ⟨ad356, e356, hx356_0⟩ := Kd.at_int HR2.out x11_1 p356 q356
          cases e356
          replace hx356_0 := (HB.out.cell (World.block_lt_of_cell? w _ hx356_0)).trans hx356_0
          replace p356 := eq_true p356
          replace q356 := eq_true q356
          have hcz12_0 : wr.cell? ⟨gb355, 0, none⟩ = some (.slice A0_0 l0_0.length c0_0) := (blk_cell BK355.out 0).trans rfl
          have hfz12_0 := blk_frozen BK355.out 0
          have p357 : 0 ≤ (x1_1 : Int) := od zz2
          have q357 : x1_1 < (l0_0.length : Int) := od zz2
          obtain ⟨ad357, A357_0, c357_0, e357, hx357_0, hl357_0, hi357_0⟩ := at_L1 HR0_0.out x1_1 p357 q357
          cases e357
          replace hx357_0 := (HB.out.cell (World.block_lt_of_cell? w _ hx357_0)).trans hx357_0
          have HR357_0 := am hi357_0
          have HC357_0 := am hl357_0
          clear hi357_0 hl357_0
          replace p357 := eq_true p357
          replace q357 := eq_true q357
          have p358 : 0 ≤ ((rd l2 x11_1) : Int) := od zz2
          have q358 : (rd l2 x11_1) < ((rd_L1 l0_0 x1_1).length : Int) := od zz2
          obtain ⟨ad358, e358, hx358_0⟩ := Kd.at_int HR357_0.out (rd l2 x11_1) p358 q358
          cases e358
          replace hx358_0 := (HB.out.cell (World.block_lt_of_cell? w _ hx358_0)).trans hx358_0
          replace p358 := eq_true p358
          replace q358 := eq_true q358
          go_wp2
          go_roundg k1
          case measure => have := HK1.out; omega
          case rel => exact ⟨(rd (rd_L1 l0_0 x1_1) (rd l2 x11_1)), (wrap64 (x11_1 + 1)), zz3, zz3, H', ⟨by have := HK1.out; omega⟩, ⟨by (with_reducible repeat (first | refine blk_drewN ?_ _ | refine blk_drew ?_ | refine blk_alloc ?_ _)); exact BK355.out⟩, ⟨by repeat (first | (with_reducible first | exact HB.out | apply ba | apply pb | apply bd | refine below_set ?_ GE355.out) | exact HB.out)⟩⟩
         ·rw [if_neg c11] at H
          exact absurd H (by simp)
        ·rw [if_neg c10] at H
         exact absurd H (by simp)
       ·rw [if_neg c9] at H
        exact absurd H (by simp)
      ·rw [if_neg c8] at H
       exact absurd H (by simp)
     ·rw [if_neg c7] at H
      exact absurd H (by simp)
    ·rw [if_neg c6] at H
     exact absurd H (by simp)
   ·rw [if_neg c5] at H
    have c5b0 : decide (x11_1 < (l2.length : Int)) = false := decide_eq_false c5
    clear c5
    obtain rfl := Option.some.inj H
    go_wp2
    go_ret
    exact ⟨by first | rfl | (simp [errW_none, errW_some] <;> rfl) | (simp [*, errW_none, errW_some] <;> rfl), by repeat (first | (with_reducible first | exact HB.out | apply ba | apply pb | apply bd | refine below_set ?_ GE355.out) | exact HB.out)⟩
end Go.Proofs.Ytjgdalhdiohclaa.Q
end
/-! Part QSlicesIndexBoolBool -/
section
namespace Go.Proofs.Ytjgdalhdiohclaa.Q
attribute [local go_sem] max2_int min2_int max_two min_two max_three min_three max_four min_four
set_option linter.unusedVariables false
set_option linter.unusedSimpArgs false
def slices_Index_bool_bool.l0 : Nat → List Bool → Bool → Int → Int → Option (Int)
 | 0, _, _, _, _ => none
 | k + 1, x0, x1, x7, x8 => if x8 < x7 then (if 0 ≤ x8 then (if x8 < (x0.length : Int) then (if (x1 == (rdOf false x0 x8)) = true then (some x8) else (slices_Index_bool_bool.l0 k x0 x1 x7 (wrap64 (x8 + 1)))) else (none)) else (none)) else (some (-1))
def slices_Index_bool_bool.f (k : Nat) (l0 : List Bool) (a1 : Bool) : Option (Int) := slices_Index_bool_bool.l0 k l0 a1 (l0.length : Int) 0
theorem slices_Index_bool_bool.mono_l : ∀ k, (∀ y0 y1 y2 y3, LeO (slices_Index_bool_bool.l0 k y0 y1 y2 y3) (slices_Index_bool_bool.l0 (k + 1) y0 y1 y2 y3))
 | 0 => fun _ _ _ _ r h => by simp [slices_Index_bool_bool.l0] at h
 | k + 1 => by
  have ih0 := slices_Index_bool_bool.mono_l k
  ·intro y0 y1 y2 y3
   unfold slices_Index_bool_bool.l0
   repeat' first
   | (with_reducible exact ih0 _ _ _ _)
   | (with_reducible exact LeO.refl _)
   | (with_reducible exact LeO.none _)
   | (with_reducible refine LeO.ite ?_ ?_)
   | (with_reducible refine LeO.bind ?_ (fun _ => ?_))
   | exact ih0 _ _ _ _
   | exact LeO.none _
   | refine LeO.ite ?_ ?_
   | refine LeO.bind ?_ (fun _ => ?_)
theorem slices_Index_bool_bool.mono : ∀ a0 a1 k, LeO (slices_Index_bool_bool.f k a0 a1) (slices_Index_bool_bool.f (k + 1) a0 a1) := by
 intro a0 a1 k
 have ih0 := slices_Index_bool_bool.mono_l k
 unfold slices_Index_bool_bool.f
 repeat' first
   | (with_reducible exact ih0 _ _ _ _)
   | (with_reducible exact LeO.refl _)
   | (with_reducible exact LeO.none _)
   | (with_reducible refine LeO.ite ?_ ?_)
   | (with_reducible refine LeO.bind ?_ (fun _ => ?_))
   | exact ih0 _ _ _ _
   | exact LeO.none _
   | refine LeO.ite ?_ ?_
   | refine LeO.bind ?_ (fun _ => ?_)
set_option maxHeartbeats 8000000 in
set_option maxRecDepth 100000 in
theorem slices_Index_bool_bool.calls (k : Nat) (A0 : Option Addr) (c0 : Nat) (l0 : List Bool) (a1 : Bool) (r : Int) (w : World) (hr0 : Kd.C Kd.bool w A0 l0.length l0) (hc0 : l0.length ≤ c0) (h : slices_Index_bool_bool.f k l0 a1 = some r) :
  Calls Try.prog 117 #[.slice A0 l0.length c0, .bool a1] w fun e w' => e = .returned (.int .i64 r) ∧ Drawn0 w w' := by
 have HR0 := am hr0
 have HC0 := am hc0
 clear hr0 hc0
 have H : (slices_Index_bool_bool.l0 k l0 a1 (l0.length : Int) 0) = some r := h
 clear h
 have H' := am H
 clear H
 go_enter Try.func117, Try.ntmps117
 go_wp2
 go_loopg [8] k (fun kq v8 w' => ∃ (x8_1 : Int), v8 = .int .i64 x8_1 ∧ Aside0 (slices_Index_bool_bool.l0 kq l0 a1 (l0.length : Int) x8_1 = some r) ∧ Aside0 (kq ≤ k) ∧ Drawn0 w w')
 case atStart => exact ⟨(0), zz3, H', ⟨Nat.le_refl _⟩, by repeat (first | exact Drawn0.refl _ | apply Drawn0.step)⟩
 case round =>
  clear H'
  try clear c1
  try clear p2
  obtain ⟨x8_1, rfl, HA, HK1, ⟨m1, rfl⟩⟩ := hrel
  cases gk with
  | zero => exact absurd HA.out (by simp [slices_Index_bool_bool.l0])
  | succ k1 =>
   have H := HA.out
   clear HA
   simp only [slices_Index_bool_bool.l0] at H
   by_cases c3 : x8_1 < (l0.length : Int)
   ·rw [if_pos c3] at H
    have c3b0 : decide (x8_1 < (l0.length : Int)) = true := decide_eq_true c3
    clear c3
    by_cases c4 : 0 ≤ x8_1
    ·rw [if_pos c4] at H
     have c4b0 : decide (0 ≤ x8_1) = true := decide_eq_true c4
     clear c4
     by_cases c5 : x8_1 < (l0.length : Int)
     ·rw [if_pos c5] at H
      have c5b0 : decide (x8_1 < (l0.length : Int)) = true := decide_eq_true c5
      clear c5
      by_cases c6 : (a1 == (rdOf false l0 x8_1)) = true
      ·rw [if_pos c6] at H
       have c6b0 : (a1 == (rdOf false l0 x8_1)) = true := c6
       (try (have c6b1 : decide (a1 = (rdOf false l0 x8_1)) = true := by simpa using c6))
       (try (have c6b2 : (a1 == (rdOf false l0 x8_1)) = true := by simpa using c6))
       clear c6
       obtain rfl := Option.some.inj H
       have p313 : 0 ≤ (x8_1 : Int) := od zz2
       have q313 : x8_1 < (l0.length : Int) := od zz2
       obtain ⟨ad313, e313, hx313_0⟩ := Kd.at_bool HR0.out x8_1 p313 q313
       cases e313
       replace p313 := eq_true p313
       replace q313 := eq_true q313
       go_wp2
       go_ret
       exact ⟨by first | rfl | (simp; done) | (simp [*]; done), by repeat (first | exact Drawn0.refl _ | apply Drawn0.step)⟩
      ·rw [if_neg c6] at H
       have c6b0 : (a1 == (rdOf false l0 x8_1)) = false := by simpa using c6
       (try (have c6b1 : decide (a1 = (rdOf false l0 x8_1)) = false := by simpa using c6))
       (try (have c6b2 : (a1 == (rdOf false l0 x8_1)) = false := by simpa using c6))
       (try (have c6b3 : ¬ (a1 = (rdOf false l0 x8_1)) := by simpa using c6))
       clear c6
       have H' := am H
       clear H
       have p313 : 0 ≤ (x8_1 : Int) := od zz2
       have q313 : x8_1 < (l0.length : Int) := od zz2
       obtain ⟨ad313, e313, hx313_0⟩ := Kd.at_bool HR0.out x8_1 p313 q313
       cases e313
       replace p313 := eq_true p313
       replace q313 := eq_true q313
       go_wp2
       go_roundg k1
       case measure => have := HK1.out; omega
       case rel => exact ⟨(wrap64 (x8_1 + 1)), zz3, H', ⟨by have := HK1.out; omega⟩, by repeat (first | exact Drawn0.refl _ | apply Drawn0.step)⟩
     ·rw [if_neg c5] at H
      exact absurd H (by simp)
    ·rw [if_neg c4] at H
     exact absurd H (by simp)
   ·rw [if_neg c3] at H
    have c3b0 : decide (x8_1 < (l0.length : Int)) = false := decide_eq_false c3
    clear c3
    obtain rfl := Option.some.inj H
    go_wp2
    go_ret
    exact ⟨by first | rfl | (simp; done) | (simp [*]; done), by repeat (first | exact Drawn0.refl _ | apply Drawn0.step)⟩
end Go.Proofs.Ytjgdalhdiohclaa.Q
end
/-! Part QSlicesContainsBoolBool -/
section
namespace Go.Proofs.Ytjgdalhdiohclaa.Q
attribute [local go_sem] max2_int min2_int max_two min_two max_three min_three max_four min_four
set_option linter.unusedVariables false
set_option linter.unusedSimpArgs false
def slices_Contains_bool_bool.f (k : Nat) (l0 : List Bool) (a1 : Bool) : Option (Bool) := (slices_Index_bool_bool.f k l0 a1).bind fun t314 => (some (decide (t314 ≥ 0)))
theorem slices_Contains_bool_bool.mono : ∀ a0 a1 k, LeO (slices_Contains_bool_bool.f k a0 a1) (slices_Contains_bool_bool.f (k + 1) a0 a1) := by
 intro a0 a1 k
 unfold slices_Contains_bool_bool.f
 repeat' first
   | (with_reducible exact slices_Index_bool_bool.mono _ _ _)
   | (with_reducible exact LeO.refl _)
   | (with_reducible exact LeO.none _)
   | (with_reducible refine LeO.ite ?_ ?_)
   | (with_reducible refine LeO.bind ?_ (fun _ => ?_))
   | exact slices_Index_bool_bool.mono _ _ _
   | exact LeO.none _
   | refine LeO.ite ?_ ?_
   | refine LeO.bind ?_ (fun _ => ?_)
set_option maxHeartbeats 8000000 in
set_option maxRecDepth 100000 in
theorem slices_Contains_bool_bool.calls (k : Nat) (A0 : Option Addr) (c0 : Nat) (l0 : List Bool) (a1 : Bool) (r : Bool) (w : World) (hr0 : Kd.C Kd.bool w A0 l0.length l0) (hc0 : l0.length ≤ c0) (h : slices_Contains_bool_bool.f k l0 a1 = some r) :
  Calls Try.prog 102 #[.slice A0 l0.length c0, .bool a1] w fun e w' => e = .returned (.bool r) ∧ Drawn0 w w' := by
 have HR0 := am hr0
 have HC0 := am hc0
 clear hr0 hc0
 have H : ((slices_Index_bool_bool.f k l0 a1).bind fun t314 => (some (decide (t314 ≥ 0)))) = some r := h
 clear h
 replace H := Option.bind_eq_some_iff.mp H
 obtain ⟨t314, A30, H⟩ := H
 replace H : (some (decide (t314 ≥ 0))) = some r := H
 have A3 := am A30
 clear A30
 obtain rfl := Option.some.inj H
 go_enter Try.func102, Try.ntmps102
 go_wp2_with (first | ((with_reducible refine gate_callee (f := 117) rfl ?_); refine goesL_ (some 7) rfl rfl Try.func117 (by kernel_rfl) rfl #[.slice A0 l0.length c0, .bool a1] rfl zz1 ?_; (with_reducible refine (slices_Index_bool_bool.calls k _ _ l0 a1 t314 _ ?side1 ?side2 A3.out).mono ?_); (case side1 => exact kc HR0.out); (case side2 => exact HC0.out); rintro e w' ⟨rfl, ⟨nd, rfl⟩⟩; refine ⟨_, rfl, ?_⟩))
 go_ret
 exact ⟨by first | rfl | (simp; done) | (simp [*]; done), by repeat (first | exact Drawn0.refl _ | apply Drawn0.step)⟩
end Go.Proofs.Ytjgdalhdiohclaa.Q
end
/-! Part QNetLengths -/
section
namespace Go.Proofs.Ytjgdalhdiohclaa.Q
attribute [local go_sem] max2_int min2_int max_two min_two max_three min_three max_four min_four
set_option linter.unusedVariables false
set_option linter.unusedSimpArgs false
mutual
def net_lengths.l0 : Nat → List Int → List Bool → List Int → Int → List (List Int) → Option (List Int)
 | 0, _, _, _, _, _ => none
 | k + 1, x3, x4, x5, x6, x321000 => if x6 < (x5.length : Int) then (if 0 ≤ x6 then (if 0 ≤ (rd x5 x6) then (if (rd x5 x6) < (x321000.length : Int) then (net_lengths.l1 k x3 x4 x5 x6 (rd_L1 x321000 (rd x5 x6)) ((rd_L1 x321000 (rd x5 x6)).length : Int) 0 x321000) else (none)) else (none)) else (none)) else (some x3)
def net_lengths.l1 : Nat → List Int → List Bool → List Int → Int → List Int → Int → Int → List (List Int) → Option (List Int)
 | 0, _, _, _, _, _, _, _, _ => none
 | k + 1, x3, x4, x5, x6, x33, x34, x35, x321000 => if x35 < x34 then (if 0 ≤ x35 then (if x35 < (x33.length : Int) then (if 0 ≤ (rd x33 x35) then (if (rd x33 x35) < (x4.length : Int) then (if (rdOf false x4 (rd x33 x35) = true) then (net_lengths.l1 k x3 x4 x5 x6 x33 x34 (wrap64 (x35 + 1)) x321000) else (if 0 ≤ x6 then (if x6 < (x5.length : Int) then (if 0 ≤ (rd x5 x6) then (if (rd x5 x6) < (x3.length : Int) then (if (rd x33 x35) < (x3.length : Int) then (if x5.length < 17592186044416 then (net_lengths.l1 k (x3.set ((rd x33 x35) : Int).toNat (wrap64 ((rd x3 (rd x5 x6)) + 1))) (x4.set ((rd x33 x35) : Int).toNat true) (x5 ++ [rd x33 x35]) x6 x33 x34 (wrap64 (x35 + 1)) x321000) else (none)) else (none)) else (none)) else (none)) else (none)) else (none))) else (none)) else (none)) else (none)) else (none)) else (net_lengths.l0 k x3 x4 x5 (wrap64 (x6 + 1)) x321000)
end
def net_lengths.f (k : Nat) (l0_0 : List (List Int)) : Option (List Int) := if 0 ≤ (l0_0.length : Int) then (if ((l0_0.length : Int) : Int).toNat ≤ 35184372088832 then (if ((l0_0.length : Int) : Int).toNat ≤ 281474976710656 then ((some (List.replicate ((l0_0.length : Int) : Int).toNat false : List Bool)).bind fun y324 => (if 0 < (y324.length : Int) then (net_lengths.l0 k (List.replicate ((l0_0.length : Int) : Int).toNat 0) (y324.set (0 : Int).toNat true) (([0] : List Int)) 0 l0_0) else (none))) else (none)) else (none)) else (none)
theorem net_lengths.mono_l : ∀ k, (∀ y0 y1 y2 y3 y4, LeO (net_lengths.l0 k y0 y1 y2 y3 y4) (net_lengths.l0 (k + 1) y0 y1 y2 y3 y4)) ∧ (∀ y0 y1 y2 y3 y4 y5 y6 y7, LeO (net_lengths.l1 k y0 y1 y2 y3 y4 y5 y6 y7) (net_lengths.l1 (k + 1) y0 y1 y2 y3 y4 y5 y6 y7))
 | 0 => ⟨fun _ _ _ _ _ r h => by simp [net_lengths.l0] at h, fun _ _ _ _ _ _ _ _ r h => by simp [net_lengths.l1] at h⟩
 | k + 1 => by
  obtain ⟨ih0, ih1⟩ := net_lengths.mono_l k
  refine ⟨?_, ?_⟩
  ·intro y0 y1 y2 y3 y4
   unfold net_lengths.l0
   repeat' first
   | (with_reducible exact ih0 _ _ _ _ _)
   | (with_reducible exact ih1 _ _ _ _ _ _ _ _)
   | (with_reducible exact LeO.refl _)
   | (with_reducible exact LeO.none _)
   | (with_reducible refine LeO.ite ?_ ?_)
   | (with_reducible refine LeO.bind ?_ (fun _ => ?_))
   | exact ih0 _ _ _ _ _
   | exact ih1 _ _ _ _ _ _ _ _
   | exact LeO.none _
   | refine LeO.ite ?_ ?_
   | refine LeO.bind ?_ (fun _ => ?_)
  ·intro y0 y1 y2 y3 y4 y5 y6 y7
   unfold net_lengths.l1
   repeat' first
   | (with_reducible exact ih0 _ _ _ _ _)
   | (with_reducible exact ih1 _ _ _ _ _ _ _ _)
   | (with_reducible exact LeO.refl _)
   | (with_reducible exact LeO.none _)
   | (with_reducible refine LeO.ite ?_ ?_)
   | (with_reducible refine LeO.bind ?_ (fun _ => ?_))
   | exact ih0 _ _ _ _ _
   | exact ih1 _ _ _ _ _ _ _ _
   | exact LeO.none _
   | refine LeO.ite ?_ ?_
   | refine LeO.bind ?_ (fun _ => ?_)
theorem net_lengths.mono : ∀ a0 k, LeO (net_lengths.f k a0) (net_lengths.f (k + 1) a0) := by
 intro a0 k
 obtain ⟨ih0, ih1⟩ := net_lengths.mono_l k
 unfold net_lengths.f
 repeat' first
   | (with_reducible exact ih0 _ _ _ _ _)
   | (with_reducible exact ih1 _ _ _ _ _ _ _ _)
   | (with_reducible exact LeO.refl _)
   | (with_reducible exact LeO.none _)
   | (with_reducible refine LeO.ite ?_ ?_)
   | (with_reducible refine LeO.bind ?_ (fun _ => ?_))
   | exact ih0 _ _ _ _ _
   | exact ih1 _ _ _ _ _ _ _ _
   | exact LeO.none _
   | refine LeO.ite ?_ ?_
   | refine LeO.bind ?_ (fun _ => ?_)
set_option maxHeartbeats 8000000 in
set_option maxRecDepth 100000 in
theorem net_lengths.calls (k : Nat) (A0_0 : Option Addr) (c0_0 : Nat) (l0_0 : List (List Int)) (r : List Int) (w : World) (hr0_0 : Kd.C (Kd.slice 3 (Kd.int .i64)) w A0_0 l0_0.length l0_0) (hc0_0 : l0_0.length ≤ c0_0) (h : net_lengths.f k l0_0 = some r) :
    Calls Try.prog 71 #[.agg #[.slice A0_0 l0_0.length c0_0]] w fun e w' => ∃ v0_ : Value, e = .returned (v0_) ∧ Kd.R (Kd.int .i64) 3 w' w.heap.size (fun _ => True) v0_ r ∧ Below w.heap.size w w' := by
 have hu24 := Try.underlying24
 have HR0_0 := am hr0_0
 have HC0_0 := am hc0_0
 clear hr0_0 hc0_0
 have HB := am (Below.refl w.heap.size w)
 have H : (if 0 ≤ (l0_0.length : Int) then (if ((l0_0.length : Int) : Int).toNat ≤ 35184372088832 then (if ((l0_0.length : Int) : Int).toNat ≤ 281474976710656 then ((some (List.replicate ((l0_0.length : Int) : Int).toNat false : List Bool)).bind fun y324 => (if 0 < (y324.length : Int) then (net_lengths.l0 k (List.replicate ((l0_0.length : Int) : Int).toNat 0) (y324.set (0 : Int).toNat true) (([0] : List Int)) 0 l0_0) else (none))) else (none)) else (none)) else (none)) = some r := h
 clear h
 by_cases c2 : 0 ≤ (l0_0.length : Int)
 rotate_left
 ·rw [if_neg c2] at H
  exact absurd H (by simp)
 rw [if_pos c2] at H
 have c2b0 := eq_true c2
 have c2b1 : decide (0 ≤ (l0_0.length : Int)) = true := decide_eq_true c2
 clear c2
 by_cases c3 : ((l0_0.length : Int) : Int).toNat ≤ 35184372088832
 rotate_left
 ·rw [if_neg c3] at H
  exact absurd H (by simp)
 rw [if_pos c3] at H
 have c3b0 := eq_true c3
 have c3b1 : decide (((l0_0.length : Int) : Int).toNat ≤ 35184372088832) = true := decide_eq_true c3
 clear c3
 obtain ⟨y321, hy321⟩ : ∃ y_ : List Int, y_ = (List.replicate ((l0_0.length : Int) : Int).toNat 0) := ⟨_, rfl⟩
 replace H : (if ((l0_0.length : Int) : Int).toNat ≤ 281474976710656 then ((some (List.replicate ((l0_0.length : Int) : Int).toNat false : List Bool)).bind fun y324 => (if 0 < (y324.length : Int) then (net_lengths.l0 k y321 (y324.set (0 : Int).toNat true) (([0] : List Int)) 0 l0_0) else (none))) else (none)) = some r := by first | (rw [hy321]; with_reducible exact H) | (have H2_ := (Option.bind_some _ _).symm.trans H; rw [hy321]; with_reducible exact H2_) | (have H2_ := (Option.bind_some _ _).symm.trans H; with_reducible exact H2_) | with_reducible exact H | (rw [hy321]; exact H) | exact H
 have Ny321 := am hy321
 clear hy321
 by_cases c4 : ((l0_0.length : Int) : Int).toNat ≤ 281474976710656
 rotate_left
 ·rw [if_neg c4] at H
  exact absurd H (by simp)
 rw [if_pos c4] at H
 have c4b0 := eq_true c4
 have c4b1 : decide (((l0_0.length : Int) : Int).toNat ≤ 281474976710656) = true := decide_eq_true c4
 clear c4
 obtain ⟨y324, hy324⟩ : ∃ y_ : List Bool, y_ = (List.replicate ((l0_0.length : Int) : Int).toNat false) := ⟨_, rfl⟩
 replace H : (if 0 < (y324.length : Int) then (net_lengths.l0 k y321 (y324.set (0 : Int).toNat true) (([0] : List Int)) 0 l0_0) else (none)) = some r := by first | (rw [hy324]; with_reducible exact H) | (have H2_ := (Option.bind_some _ _).symm.trans H; rw [hy324]; with_reducible exact H2_) | (have H2_ := (Option.bind_some _ _).symm.trans H; with_reducible exact H2_) | with_reducible exact H | (rw [hy324]; exact H) | exact H
 have Ny324 := am hy324
 clear hy324
 by_cases c5 : 0 < (y324.length : Int)
 rotate_left
 ·rw [if_neg c5] at H
  exact absurd H (by simp)
 rw [if_pos c5] at H
 have c5b0 : decide (0 < (y324.length : Int)) = true := decide_eq_true c5
 have c5b1 : decide (0 < y324.length) = true := decide_eq_true (by omega)
 clear c5
 obtain ⟨y327, hy327⟩ : ∃ y_ : List Bool, y_ = (y324.set (0 : Int).toNat true) := ⟨_, rfl⟩
 replace H : (net_lengths.l0 k y321 y327 (([0] : List Int)) 0 l0_0) = some r := by first | (rw [hy327]; with_reducible exact H) | (have H2_ := (Option.bind_some _ _).symm.trans H; rw [hy327]; with_reducible exact H2_) | (have H2_ := (Option.bind_some _ _).symm.trans H; with_reducible exact H2_) | with_reducible exact H | (rw [hy327]; exact H) | exact H
 have Ny327 := am hy327
 clear hy327
 obtain ⟨y328, hy328⟩ : ∃ y_ : List Int, y_ = (([0] : List Int)) := ⟨_, rfl⟩
 replace H : (net_lengths.l0 k y321 y327 y328 0 l0_0) = some r := by first | (rw [hy328]; with_reducible exact H) | (have H2_ := (Option.bind_some _ _).symm.trans H; rw [hy328]; with_reducible exact H2_) | (have H2_ := (Option.bind_some _ _).symm.trans H; with_reducible exact H2_) | with_reducible exact H | (rw [hy328]; exact H) | exact H
 have Ny328 := am hy328
 clear hy328
 have H' := am H
 clear H
 go_enter Try.func71, Try.ntmps71
 go_wp2_with (first | ((with_reducible refine gate_dst (N := 1) rfl ?_); refine box_event ?hg (N := 1) ?hd (cs := #[.slice A0_0 l0_0.length c0_0]) (t := 24) ?hr ?_; (case hd => rfl); (case hg => rfl); (case hr => first | (go_simp; done) | (go_simp; rfl)); intro gb320 hg w7 hbox hb; have BK320 := am (hbox); have GW320 := am ((by rw [hg]; exact (below_size (bw HB.out)) : w.heap.size ≤ gb320)); have GE320 := am ((by rw [hg]; exact (below_size (bw HB.out)) : w.heap.size ≤ gb320)); replace HB := am (below_step (bw HB.out) hb); clear hb hbox hg; have hcz8_0 : w7.cell? ⟨gb320, 0, none⟩ = some (.slice A0_0 l0_0.length c0_0) := (blk_cell BK320.out 0).trans rfl; have hfz8_0 := blk_frozen BK320.out 0) | ((with_reducible refine gate_dst (N := 12) rfl ?_); refine Kd.R_make (Kd.int .i64) _ 3 rfl (N := 12) rfl 28 _ _ rfl (l0_0.length : Int) rfl rfl Try.underlying28 (.int .i64 0) 8 info3 rfl (by decide) (by omega) 0 (ok := fun _ => True) (okp := fun _ => True) rfl (fun _ hk => hk) trivial (od zz2) (Nat.le_trans (Nat.mul_le_mul_right _ (od zz2 : (l0_0.length : Int).toNat ≤ 35184372088832)) (by omega)) (Below.refl _ _) (Nat.le_refl _) ?_; intro v322 w9 ho10 hb hg_ hnew_; clear hg_ hnew_; (first | rw [← Ny321.out] at ho10 | (simp only [Int.reduceToNat] at ho10; rw [← Ny321.out] at ho10)); have HO323 := am (Kd.R_lower ho10 (below_size (bs HB.out))); replace BK320 := am (blk_below (g := gb320) (o := .cells #[.slice A0_0 l0_0.length c0_0] 24 (0, 0)) (kb BK320.out) hb); replace HB := am (below_step (bs HB.out) hb); clear hb ho10; have hcz11_0 : w9.cell? ⟨gb320, 0, none⟩ = some (.slice A0_0 l0_0.length c0_0) := (blk_cell BK320.out 0).trans rfl; have hfz11_0 := blk_frozen BK320.out 0) | ((with_reducible refine gate_dst (N := 16) rfl ?_); refine Kd.R_make Kd.bool _ 4 rfl (N := 16) rfl 47 _ _ rfl (l0_0.length : Int) rfl rfl Try.underlying47 (.bool false) 1 info4 rfl (by decide) (by omega) false (ok := fun _ => True) (okp := fun _ => True) rfl (fun _ hk => hk) trivial (od zz2) (Nat.le_trans (Nat.mul_le_mul_right _ (od zz2 : (l0_0.length : Int).toNat ≤ 281474976710656)) (by omega)) (Below.refl _ _) (Nat.le_refl _) ?_; intro v325 w12 ho13 hb hg_ hnew_; clear hg_ hnew_; (first | rw [← Ny324.out] at ho13 | (simp only [Int.reduceToNat] at ho13; rw [← Ny324.out] at ho13)); replace HO323 := am (Kd.R_below (kR HO323.out) hb); have HO326 := am (Kd.R_lower ho13 (below_size (bs HB.out))); replace BK320 := am (blk_below (g := gb320) (o := .cells #[.slice A0_0 l0_0.length c0_0] 24 (0, 0)) (kb BK320.out) hb); replace HB := am (below_step (bs HB.out) hb); clear hb ho13; have p6 : 0 ≤ (0 : Int) := (by omega); have q6 : (0 : Int) < ((y324.length : Int) : Int) := od zz2; have qi6 : (0 < y324.length) = True := eq_true (by omega); obtain ⟨go6, co6, eo6, gb6, gl6, cl6, HG6⟩ := Kd.R_form HO326.out (by omega); (first | cases eo6 | (injection eo6 with ea_ en_ ec_; (first | subst ea_ | (injection ea_ with ea_; subst ea_)); subst ec_; clear en_)); have GB6 := am gb6; have GG6 := am HG6; clear gb6 gl6 HG6; obtain ⟨hx6_0, hf6_0⟩ := Kd.R_celln false HO326.out (0 : Int) p6 q6; (try rw [show ((0 : Int)).toNat = 0 from rfl] at hx6_0); (try simp only [Nat.reduceMul, Nat.zero_mul, Nat.zero_add, Nat.reduceAdd] at hx6_0); (try rw [show ((0 : Int)).toNat = 0 from rfl] at hf6_0); (try simp only [Nat.reduceMul, Nat.zero_mul, Nat.zero_add, Nat.reduceAdd] at hf6_0); replace p6 := eq_true p6; replace q6 := eq_true q6; obtain ⟨hy14_, hz14_⟩ := Kd.R_celln false HO326.out (0 : Int) (by omega) (od zz2); (try simp only [Int.reduceToNat, Int.toNat_zero, Int.toNat_ofNat, Nat.reduceMul, Nat.zero_mul, Nat.zero_add] at hy14_ hz14_); (try rw [show ((0 : Int)).toNat = 0 from rfl] at hy14_); (try rw [show ((0 : Int)).toNat = 0 from rfl] at hz14_); have HP14 := Kd.R_putg HO326.out (0 : Int) true) | ((with_reducible refine gate_store (t := 4) (p := 18) rfl ?_); (try (rw [drewN_self w12]; generalize hq_ : World.drewN w12 _ = w12; have n0_ := am (Kd.R_at hq_ HO323.out); have n1_ := am (Kd.R_at hq_ HO326.out); have n2_ := am (blk_at hq_ BK320.out); have n3_ := am (below_at hq_ HB.out); clear hq_ HO323 HO326 BK320 HB; have HO323 := n0_; have HO326 := n1_; have BK320 := n2_; have HB := n3_; clear n0_ n1_ n2_ n3_; (try (obtain ⟨hy14_, hz14_⟩ := Kd.R_celln false HO326.out (0 : Int) (by omega) (od zz2))); (try (try simp only [Int.reduceToNat, Int.toNat_zero, Int.toNat_ofNat, Nat.reduceMul, Nat.zero_mul, Nat.zero_add] at hy14_ hz14_)); (try (try rw [show ((0 : Int)).toNat = 0 from rfl] at hy14_)); (try (try rw [show ((0 : Int)).toNat = 0 from rfl] at hz14_)); (try (have HP14 := Kd.R_putg HO326.out (0 : Int) true)))); refine store_event (t := 4) (p := 18) (v := ?vo_w15) (w1 := (w12.setCell ⟨go6, (0 : Int).toNat, none⟩ (.bool true))) ?hg ?ho ?hn ?hr ?_; (case ho => rfl); (case hg => rfl); (case hn => rfl); (case hr => first | (go_simp; done) | (go_simp; rfl)); intro w15 hw; have hg : w12.grownBy w15 (some go6) := (by rw [hw]; exact HP14.2); have hp_ : Kd.R Kd.bool 4 w15 w.heap.size (fun _ => True) (.slice (some ⟨go6, 0, none⟩) y324.length co6) y327 := (by rw [hw, Ny327.out]; exact HP14.1); clear HP14; replace BK320 := am (blk_grown (g := gb320) (o := .cells #[.slice A0_0 l0_0.length c0_0] 24 (0, 0)) (kb BK320.out) hg (Kd.R_ne HO326.out BK320.out (by decide))); replace HO323 := am (Kd.R_over' (v := (.slice (some ⟨go6, 0, none⟩) y324.length co6)) (kR HO323.out) (Kd.R_typed HO326.out) (by decide) hg); replace HO326 := am (hp_); replace HB := am ((by rw [hw]; exact below_set (HB.out) GB6.out : Below w.heap.size w w15)); clear hg hw hp_) | ((with_reducible refine gate_dst (N := 19) rfl ?_); refine Kd.R_lit (Kd.int .i64) _ 3 ?hg (N := 19) ?hd (xs := ([0] : List Int)) (inner := [.int .i64 0]) (ok := fun _ => True) (okp := fun _ => True) ?hr ?hp (fun _ hk => hk) trivial (Below.refl _ _) (Nat.le_refl _) (by simp) ?_; (case hd => rfl); (case hg => rfl); (case hr => first | (go_simp; done) | (go_simp; rfl)); (case hp => exact (Reps.one (show Kd.M (Kd.int .i64) _ _ _ 0 [.int .i64 0] from rfl) (Reps.none _ _))); intro v329 w16 ho17 hb hg_ hnew_; clear hg_ hnew_; (first | rw [← Ny328.out] at ho17 | (simp only [Int.reduceToNat] at ho17; rw [← Ny328.out] at ho17)); replace HO326 := am (Kd.R_below (kR HO326.out) hb); have HO330 := am (Kd.R_lower (Kd.R_new' ho17 (Kd.R_lt (kR HO323.out))) (below_size (bs HB.out))); replace HO323 := am (Kd.R_elder' (kR HO323.out) (Kd.R_base ho17) hb); replace BK320 := am (blk_below (g := gb320) (o := .cells #[.slice A0_0 l0_0.length c0_0] 24 (0, 0)) (kb BK320.out) hb); replace HB := am (below_step (bs HB.out) hb); clear hb ho17))
 repeat (go_quiet (first | ((with_reducible refine gate_dst (N := 1) rfl ?_); refine box_event ?hg (N := 1) ?hd (cs := #[.slice A0_0 l0_0.length c0_0]) (t := 24) ?hr ?_; (case hd => rfl); (case hg => rfl); (case hr => first | (go_simp; done) | (go_simp; rfl)); intro gb320 hg w7 hbox hb; have BK320 := am (hbox); have GW320 := am ((by rw [hg]; exact (below_size (bw HB.out)) : w.heap.size ≤ gb320)); have GE320 := am ((by rw [hg]; exact (below_size (bw HB.out)) : w.heap.size ≤ gb320)); replace HB := am (below_step (bw HB.out) hb); clear hb hbox hg; have hcz8_0 : w7.cell? ⟨gb320, 0, none⟩ = some (.slice A0_0 l0_0.length c0_0) := (blk_cell BK320.out 0).trans rfl; have hfz8_0 := blk_frozen BK320.out 0) | ((with_reducible refine gate_dst (N := 12) rfl ?_); refine Kd.R_make (Kd.int .i64) _ 3 rfl (N := 12) rfl 28 _ _ rfl (l0_0.length : Int) rfl rfl Try.underlying28 (.int .i64 0) 8 info3 rfl (by decide) (by omega) 0 (ok := fun _ => True) (okp := fun _ => True) rfl (fun _ hk => hk) trivial (od zz2) (Nat.le_trans (Nat.mul_le_mul_right _ (od zz2 : (l0_0.length : Int).toNat ≤ 35184372088832)) (by omega)) (Below.refl _ _) (Nat.le_refl _) ?_; intro v322 w9 ho10 hb hg_ hnew_; clear hg_ hnew_; (first | rw [← Ny321.out] at ho10 | (simp only [Int.reduceToNat] at ho10; rw [← Ny321.out] at ho10)); have HO323 := am (Kd.R_lower ho10 (below_size (bs HB.out))); replace BK320 := am (blk_below (g := gb320) (o := .cells #[.slice A0_0 l0_0.length c0_0] 24 (0, 0)) (kb BK320.out) hb); replace HB := am (below_step (bs HB.out) hb); clear hb ho10; have hcz11_0 : w9.cell? ⟨gb320, 0, none⟩ = some (.slice A0_0 l0_0.length c0_0) := (blk_cell BK320.out 0).trans rfl; have hfz11_0 := blk_frozen BK320.out 0) | ((with_reducible refine gate_dst (N := 16) rfl ?_); refine Kd.R_make Kd.bool _ 4 rfl (N := 16) rfl 47 _ _ rfl (l0_0.length : Int) rfl rfl Try.underlying47 (.bool false) 1 info4 rfl (by decide) (by omega) false (ok := fun _ => True) (okp := fun _ => True) rfl (fun _ hk => hk) trivial (od zz2) (Nat.le_trans (Nat.mul_le_mul_right _ (od zz2 : (l0_0.length : Int).toNat ≤ 281474976710656)) (by omega)) (Below.refl _ _) (Nat.le_refl _) ?_; intro v325 w12 ho13 hb hg_ hnew_; clear hg_ hnew_; (first | rw [← Ny324.out] at ho13 | (simp only [Int.reduceToNat] at ho13; rw [← Ny324.out] at ho13)); replace HO323 := am (Kd.R_below (kR HO323.out) hb); have HO326 := am (Kd.R_lower ho13 (below_size (bs HB.out))); replace BK320 := am (blk_below (g := gb320) (o := .cells #[.slice A0_0 l0_0.length c0_0] 24 (0, 0)) (kb BK320.out) hb); replace HB := am (below_step (bs HB.out) hb); clear hb ho13; have p6 : 0 ≤ (0 : Int) := (by omega); have q6 : (0 : Int) < ((y324.length : Int) : Int) := od zz2; have qi6 : (0 < y324.length) = True := eq_true (by omega); obtain ⟨go6, co6, eo6, gb6, gl6, cl6, HG6⟩ := Kd.R_form HO326.out (by omega); (first | cases eo6 | (injection eo6 with ea_ en_ ec_; (first | subst ea_ | (injection ea_ with ea_; subst ea_)); subst ec_; clear en_)); have GB6 := am gb6; have GG6 := am HG6; clear gb6 gl6 HG6; obtain ⟨hx6_0, hf6_0⟩ := Kd.R_celln false HO326.out (0 : Int) p6 q6; (try rw [show ((0 : Int)).toNat = 0 from rfl] at hx6_0); (try simp only [Nat.reduceMul, Nat.zero_mul, Nat.zero_add, Nat.reduceAdd] at hx6_0); (try rw [show ((0 : Int)).toNat = 0 from rfl] at hf6_0); (try simp only [Nat.reduceMul, Nat.zero_mul, Nat.zero_add, Nat.reduceAdd] at hf6_0); replace p6 := eq_true p6; replace q6 := eq_true q6; obtain ⟨hy14_, hz14_⟩ := Kd.R_celln false HO326.out (0 : Int) (by omega) (od zz2); (try simp only [Int.reduceToNat, Int.toNat_zero, Int.toNat_ofNat, Nat.reduceMul, Nat.zero_mul, Nat.zero_add] at hy14_ hz14_); (try rw [show ((0 : Int)).toNat = 0 from rfl] at hy14_); (try rw [show ((0 : Int)).toNat = 0 from rfl] at hz14_); have HP14 := Kd.R_putg HO326.out (0 : Int) true) | ((with_reducible refine gate_store (t := 4) (p := 18) rfl ?_); (try (rw [drewN_self w12]; generalize hq_ : World.drewN w12 _ = w12; have n0_ := am (Kd.R_at hq_ HO323.out); have n1_ := am (Kd.R_at hq_ HO326.out); have n2_ := am (blk_at hq_ BK320.out); have n3_ := am (below_at hq_ HB.out); clear hq_ HO323 HO326 BK320 HB; have HO323 := n0_; have HO326 := n1_; have BK320 := n2_; have HB := n3_; clear n0_ n1_ n2_ n3_; (try (obtain ⟨hy14_, hz14_⟩ := Kd.R_celln false HO326.out (0 : Int) (by omega) (od zz2))); (try (try simp only [Int.reduceToNat, Int.toNat_zero, Int.toNat_ofNat, Nat.reduceMul, Nat.zero_mul, Nat.zero_add] at hy14_ hz14_)); (try (try rw [show ((0 : Int)).toNat = 0 from rfl] at hy14_)); (try (try rw [show ((0 : Int)).toNat = 0 from rfl] at hz14_)); (try (have HP14 := Kd.R_putg HO326.out (0 : Int) true)))); refine store_event (t := 4) (p := 18) (v := ?vo_w15) (w1 := (w12.setCell ⟨go6, (0 : Int).toNat, none⟩ (.bool true))) ?hg ?ho ?hn ?hr ?_; (case ho => rfl); (case hg => rfl); (case hn => rfl); (case hr => first | (go_simp; done) | (go_simp; rfl)); intro w15 hw; have hg : w12.grownBy w15 (some go6) := (by rw [hw]; exact HP14.2); have hp_ : Kd.R Kd.bool 4 w15 w.heap.size (fun _ => True) (.slice (some ⟨go6, 0, none⟩) y324.length co6) y327 := (by rw [hw, Ny327.out]; exact HP14.1); clear HP14; replace BK320 := am (blk_grown (g := gb320) (o := .cells #[.slice A0_0 l0_0.length c0_0] 24 (0, 0)) (kb BK320.out) hg (Kd.R_ne HO326.out BK320.out (by decide))); replace HO323 := am (Kd.R_over' (v := (.slice (some ⟨go6, 0, none⟩) y324.length co6)) (kR HO323.out) (Kd.R_typed HO326.out) (by decide) hg); replace HO326 := am (hp_); replace HB := am ((by rw [hw]; exact below_set (HB.out) GB6.out : Below w.heap.size w w15)); clear hg hw hp_) | ((with_reducible refine gate_dst (N := 19) rfl ?_); refine Kd.R_lit (Kd.int .i64) _ 3 ?hg (N := 19) ?hd (xs := ([0] : List Int)) (inner := [.int .i64 0]) (ok := fun _ => True) (okp := fun _ => True) ?hr ?hp (fun _ hk => hk) trivial (Below.refl _ _) (Nat.le_refl _) (by simp) ?_; (case hd => rfl); (case hg => rfl); (case hr => first | (go_simp; done) | (go_simp; rfl)); (case hp => exact (Reps.one (show Kd.M (Kd.int .i64) _ _ _ 0 [.int .i64 0] from rfl) (Reps.none _ _))); intro v329 w16 ho17 hb hg_ hnew_; clear hg_ hnew_; (first | rw [← Ny328.out] at ho17 | (simp only [Int.reduceToNat] at ho17; rw [← Ny328.out] at ho17)); replace HO326 := am (Kd.R_below (kR HO326.out) hb); have HO330 := am (Kd.R_lower (Kd.R_new' ho17 (Kd.R_lt (kR HO323.out))) (below_size (bs HB.out))); replace HO323 := am (Kd.R_elder' (kR HO323.out) (Kd.R_base ho17) hb); replace BK320 := am (blk_below (g := gb320) (o := .cells #[.slice A0_0 l0_0.length c0_0] 24 (0, 0)) (kb BK320.out) hb); replace HB := am (below_step (bs HB.out) hb); clear hb ho17)); try go_wp2_with (first | ((with_reducible refine gate_dst (N := 1) rfl ?_); refine box_event ?hg (N := 1) ?hd (cs := #[.slice A0_0 l0_0.length c0_0]) (t := 24) ?hr ?_; (case hd => rfl); (case hg => rfl); (case hr => first | (go_simp; done) | (go_simp; rfl)); intro gb320 hg w7 hbox hb; have BK320 := am (hbox); have GW320 := am ((by rw [hg]; exact (below_size (bw HB.out)) : w.heap.size ≤ gb320)); have GE320 := am ((by rw [hg]; exact (below_size (bw HB.out)) : w.heap.size ≤ gb320)); replace HB := am (below_step (bw HB.out) hb); clear hb hbox hg; have hcz8_0 : w7.cell? ⟨gb320, 0, none⟩ = some (.slice A0_0 l0_0.length c0_0) := (blk_cell BK320.out 0).trans rfl; have hfz8_0 := blk_frozen BK320.out 0) | ((with_reducible refine gate_dst (N := 12) rfl ?_); refine Kd.R_make (Kd.int .i64) _ 3 rfl (N := 12) rfl 28 _ _ rfl (l0_0.length : Int) rfl rfl Try.underlying28 (.int .i64 0) 8 info3 rfl (by decide) (by omega) 0 (ok := fun _ => True) (okp := fun _ => True) rfl (fun _ hk => hk) trivial (od zz2) (Nat.le_trans (Nat.mul_le_mul_right _ (od zz2 : (l0_0.length : Int).toNat ≤ 35184372088832)) (by omega)) (Below.refl _ _) (Nat.le_refl _) ?_; intro v322 w9 ho10 hb hg_ hnew_; clear hg_ hnew_; (first | rw [← Ny321.out] at ho10 | (simp only [Int.reduceToNat] at ho10; rw [← Ny321.out] at ho10)); have HO323 := am (Kd.R_lower ho10 (below_size (bs HB.out))); replace BK320 := am (blk_below (g := gb320) (o := .cells #[.slice A0_0 l0_0.length c0_0] 24 (0, 0)) (kb BK320.out) hb); replace HB := am (below_step (bs HB.out) hb); clear hb ho10; have hcz11_0 : w9.cell? ⟨gb320, 0, none⟩ = some (.slice A0_0 l0_0.length c0_0) := (blk_cell BK320.out 0).trans rfl; have hfz11_0 := blk_frozen BK320.out 0) | ((with_reducible refine gate_dst (N := 16) rfl ?_); refine Kd.R_make Kd.bool _ 4 rfl (N := 16) rfl 47 _ _ rfl (l0_0.length : Int) rfl rfl Try.underlying47 (.bool false) 1 info4 rfl (by decide) (by omega) false (ok := fun _ => True) (okp := fun _ => True) rfl (fun _ hk => hk) trivial (od zz2) (Nat.le_trans (Nat.mul_le_mul_right _ (od zz2 : (l0_0.length : Int).toNat ≤ 281474976710656)) (by omega)) (Below.refl _ _) (Nat.le_refl _) ?_; intro v325 w12 ho13 hb hg_ hnew_; clear hg_ hnew_; (first | rw [← Ny324.out] at ho13 | (simp only [Int.reduceToNat] at ho13; rw [← Ny324.out] at ho13)); replace HO323 := am (Kd.R_below (kR HO323.out) hb); have HO326 := am (Kd.R_lower ho13 (below_size (bs HB.out))); replace BK320 := am (blk_below (g := gb320) (o := .cells #[.slice A0_0 l0_0.length c0_0] 24 (0, 0)) (kb BK320.out) hb); replace HB := am (below_step (bs HB.out) hb); clear hb ho13; have p6 : 0 ≤ (0 : Int) := (by omega); have q6 : (0 : Int) < ((y324.length : Int) : Int) := od zz2; have qi6 : (0 < y324.length) = True := eq_true (by omega); obtain ⟨go6, co6, eo6, gb6, gl6, cl6, HG6⟩ := Kd.R_form HO326.out (by omega); (first | cases eo6 | (injection eo6 with ea_ en_ ec_; (first | subst ea_ | (injection ea_ with ea_; subst ea_)); subst ec_; clear en_)); have GB6 := am gb6; have GG6 := am HG6; clear gb6 gl6 HG6; obtain ⟨hx6_0, hf6_0⟩ := Kd.R_celln false HO326.out (0 : Int) p6 q6; (try rw [show ((0 : Int)).toNat = 0 from rfl] at hx6_0); (try simp only [Nat.reduceMul, Nat.zero_mul, Nat.zero_add, Nat.reduceAdd] at hx6_0); (try rw [show ((0 : Int)).toNat = 0 from rfl] at hf6_0); (try simp only [Nat.reduceMul, Nat.zero_mul, Nat.zero_add, Nat.reduceAdd] at hf6_0); replace p6 := eq_true p6; replace q6 := eq_true q6; obtain ⟨hy14_, hz14_⟩ := Kd.R_celln false HO326.out (0 : Int) (by omega) (od zz2); (try simp only [Int.reduceToNat, Int.toNat_zero, Int.toNat_ofNat, Nat.reduceMul, Nat.zero_mul, Nat.zero_add] at hy14_ hz14_); (try rw [show ((0 : Int)).toNat = 0 from rfl] at hy14_); (try rw [show ((0 : Int)).toNat = 0 from rfl] at hz14_); have HP14 := Kd.R_putg HO326.out (0 : Int) true) | ((with_reducible refine gate_store (t := 4) (p := 18) rfl ?_); (try (rw [drewN_self w12]; generalize hq_ : World.drewN w12 _ = w12; have n0_ := am (Kd.R_at hq_ HO323.out); have n1_ := am (Kd.R_at hq_ HO326.out); have n2_ := am (blk_at hq_ BK320.out); have n3_ := am (below_at hq_ HB.out); clear hq_ HO323 HO326 BK320 HB; have HO323 := n0_; have HO326 := n1_; have BK320 := n2_; have HB := n3_; clear n0_ n1_ n2_ n3_; (try (obtain ⟨hy14_, hz14_⟩ := Kd.R_celln false HO326.out (0 : Int) (by omega) (od zz2))); (try (try simp only [Int.reduceToNat, Int.toNat_zero, Int.toNat_ofNat, Nat.reduceMul, Nat.zero_mul, Nat.zero_add] at hy14_ hz14_)); (try (try rw [show ((0 : Int)).toNat = 0 from rfl] at hy14_)); (try (try rw [show ((0 : Int)).toNat = 0 from rfl] at hz14_)); (try (have HP14 := Kd.R_putg HO326.out (0 : Int) true)))); refine store_event (t := 4) (p := 18) (v := ?vo_w15) (w1 := (w12.setCell ⟨go6, (0 : Int).toNat, none⟩ (.bool true))) ?hg ?ho ?hn ?hr ?_; (case ho => rfl); (case hg => rfl); (case hn => rfl); (case hr => first | (go_simp; done) | (go_simp; rfl)); intro w15 hw; have hg : w12.grownBy w15 (some go6) := (by rw [hw]; exact HP14.2); have hp_ : Kd.R Kd.bool 4 w15 w.heap.size (fun _ => True) (.slice (some ⟨go6, 0, none⟩) y324.length co6) y327 := (by rw [hw, Ny327.out]; exact HP14.1); clear HP14; replace BK320 := am (blk_grown (g := gb320) (o := .cells #[.slice A0_0 l0_0.length c0_0] 24 (0, 0)) (kb BK320.out) hg (Kd.R_ne HO326.out BK320.out (by decide))); replace HO323 := am (Kd.R_over' (v := (.slice (some ⟨go6, 0, none⟩) y324.length co6)) (kR HO323.out) (Kd.R_typed HO326.out) (by decide) hg); replace HO326 := am (hp_); replace HB := am ((by rw [hw]; exact below_set (HB.out) GB6.out : Below w.heap.size w w15)); clear hg hw hp_) | ((with_reducible refine gate_dst (N := 19) rfl ?_); refine Kd.R_lit (Kd.int .i64) _ 3 ?hg (N := 19) ?hd (xs := ([0] : List Int)) (inner := [.int .i64 0]) (ok := fun _ => True) (okp := fun _ => True) ?hr ?hp (fun _ hk => hk) trivial (Below.refl _ _) (Nat.le_refl _) (by simp) ?_; (case hd => rfl); (case hg => rfl); (case hr => first | (go_simp; done) | (go_simp; rfl)); (case hp => exact (Reps.one (show Kd.M (Kd.int .i64) _ _ _ 0 [.int .i64 0] from rfl) (Reps.none _ _))); intro v329 w16 ho17 hb hg_ hnew_; clear hg_ hnew_; (first | rw [← Ny328.out] at ho17 | (simp only [Int.reduceToNat] at ho17; rw [← Ny328.out] at ho17)); replace HO326 := am (Kd.R_below (kR HO326.out) hb); have HO330 := am (Kd.R_lower (Kd.R_new' ho17 (Kd.R_lt (kR HO323.out))) (below_size (bs HB.out))); replace HO323 := am (Kd.R_elder' (kR HO323.out) (Kd.R_base ho17) hb); replace BK320 := am (blk_below (g := gb320) (o := .cells #[.slice A0_0 l0_0.length c0_0] 24 (0, 0)) (kb BK320.out) hb); replace HB := am (below_step (bs HB.out) hb); clear hb ho17)))
 go_loopg [5, 6] k (fun kq v5 v6 w' => ∃ (x3_1 : List Int) (x4_1 : List Bool) (x5_1 : List Int) (x6_1 : Int), v6 = .int .i64 x6_1 ∧ Aside0 (net_lengths.l0 kq x3_1 x4_1 x5_1 x6_1 l0_0 = some r) ∧ Aside0 (kq ≤ k) ∧ Aside0 (Kd.R (Kd.int .i64) 3 w' w.heap.size (fun k_ => some k_ ≠ (v5 : Value).ownBlock) v322 x3_1) ∧ Aside0 (Kd.R Kd.bool 4 w' w.heap.size (fun _ => True) (.slice (some ⟨go6, 0, none⟩) y324.length co6) x4_1) ∧ Aside0 (Kd.R (Kd.int .i64) 3 w' w.heap.size (fun k_ => some k_ ≠ (v322 : Value).ownBlock) v5 x5_1) ∧ Aside0 (w'.heap[gb320]? = some (.cells #[(.slice A0_0 l0_0.length c0_0)] 24 (0, 0))) ∧ Aside0 (Below w.heap.size w w'))
 case atStart => exact ⟨(y321), (y327), (y328), (0), zz3, H', ⟨Nat.le_refl _⟩, ⟨by (with_reducible repeat (first | apply Kd.R_alloc | apply Kd.R_drewN | apply Kd.R_drew)); exact Kd.R_mono HO323.out (fun _ hk => hk.2)⟩, ⟨by (with_reducible repeat (first | apply Kd.R_alloc | apply Kd.R_drewN | apply Kd.R_drew)); exact HO326.out⟩, ⟨by (with_reducible repeat (first | apply Kd.R_alloc | apply Kd.R_drewN | apply Kd.R_drew)); exact Kd.R_mono HO330.out (fun _ hk => hk.2)⟩, ⟨by (with_reducible repeat (first | refine blk_drewN ?_ _ | refine blk_drew ?_ | refine blk_alloc ?_ _)); exact BK320.out⟩, ⟨by repeat (first | (with_reducible first | exact HB.out | apply ba | apply pb | apply bd | refine below_set ?_ GE320.out) | exact HB.out)⟩⟩
 case round =>
  clear H'
  try clear c2
  try clear c2b0
  try clear c2b1
  try clear p2
  try clear c3
  try clear c3b0
  try clear c3b1
  try clear c4
  try clear c4b0
  try clear c4b1
  try clear c5
  try clear c5b0
  try clear c5b1
  try clear p6
  try clear q6
  try clear hx6
  try clear qi6
  try clear hf6
  try clear c7
  try clear hcz11_0
  try clear hcz8_0
  try clear hfz11_0
  try clear hfz8_0
  try clear hx6_0
  try clear p6
  try clear q6
  obtain ⟨x3_1, x4_1, x5_1, x6_1, rfl, HA, HK1, HO_3, HO_4, HO_5, BK320, HB⟩ := hrel
  have hl4_1 := (Kd.R_reads' HO_4.out).1
  rw [hl4_1] at HO_4
  (try simp only [hl4_1])
  (try simp only [hl4_1] at BK320)
  (try simp only [hl4_1] at HO_3)
  (try simp only [hl4_1] at HO_5)
  cases gk with
  | zero => exact absurd HA.out (by simp [net_lengths.l0])
  | succ k1 =>
   have H := HA.out
   clear HA
   simp only [net_lengths.l0] at H
   by_cases c18 : x6_1 < (x5_1.length : Int)
   rotate_left
   ·rw [if_neg c18] at H
    have c18b0 : decide (x6_1 < (x5_1.length : Int)) = false := decide_eq_false c18
    clear c18
    obtain rfl := Option.some.inj H
    obtain ⟨Ao46, co46, eo46⟩ := Kd.R_slice HO_5.out
    subst eo46
    go_wp2
    repeat (go_quiet (fail); try go_wp2)
    go_ret
    exact ⟨_, by first | rfl | (simp [errW_none, errW_some] <;> rfl) | (simp [*, errW_none, errW_some] <;> rfl), by (with_reducible repeat (first | apply Kd.R_alloc | apply Kd.R_drewN | apply Kd.R_drew)); exact Kd.R_mono HO_3.out (fun _ hk => trivial), by repeat (first | (with_reducible first | exact HB.out | apply ba | apply pb | apply bd | refine below_set ?_ GE320.out) | exact HB.out)⟩
   rw [if_pos c18] at H
   have c18b0 : decide (x6_1 < (x5_1.length : Int)) = true := decide_eq_true c18
   clear c18
   by_cases c19 : 0 ≤ x6_1
   rotate_left
   ·rw [if_neg c19] at H
    exact absurd H (by simp)
   rw [if_pos c19] at H
   have c19b0 : decide (0 ≤ x6_1) = true := decide_eq_true c19
   clear c19
   by_cases c20 : 0 ≤ (rd x5_1 x6_1)
   rotate_left
   ·rw [if_neg c20] at H
    exact absurd H (by simp)
   rw [if_pos c20] at H
   have c20b0 : decide (0 ≤ (rd x5_1 x6_1)) = true := decide_eq_true c20
   clear c20
   by_cases c21 : (rd x5_1 x6_1) < (l0_0.length : Int)
   rotate_left
   ·rw [if_neg c21] at H
    exact absurd H (by simp)
   rw [if_pos c21] at H
   have c21b0 : decide ((rd x5_1 x6_1) < (l0_0.length : Int)) = true := decide_eq_true c21
   clear c21
   have H' := am H
   clear H
   obtain ⟨Ao22, co22, eo22⟩ := Kd.R_slice HO_5.out
   subst eo22
   have hcz23_0 : wr.cell? ⟨gb320, 0, none⟩ = some (.slice A0_0 l0_0.length c0_0) := (blk_cell BK320.out 0).trans rfl
   have hfz23_0 := blk_frozen BK320.out 0
   have p331 : 0 ≤ (x6_1 : Int) := od zz2
   have q331 : x6_1 < (x5_1.length : Int) := od zz2
   obtain ⟨ad331, e331, hx331_0⟩ := Kd.at_int (Kd.R_reads' HO_5.out).2.2 x6_1 p331 q331
   cases e331
   replace p331 := eq_true p331
   replace q331 := eq_true q331
   have p332 : 0 ≤ ((rd x5_1 x6_1) : Int) := od zz2
   have q332 : (rd x5_1 x6_1) < (l0_0.length : Int) := od zz2
   obtain ⟨ad332, A332_0, c332_0, e332, hx332_0, hl332_0, hi332_0⟩ := at_L1 HR0_0.out (rd x5_1 x6_1) p332 q332
   cases e332
   replace hx332_0 := (HB.out.cell (World.block_lt_of_cell? w _ hx332_0)).trans hx332_0
   have HR332_0 := am hi332_0
   have HC332_0 := am hl332_0
   clear hi332_0 hl332_0
   replace p332 := eq_true p332
   replace q332 := eq_true q332
   go_wp2
   repeat (go_quiet (fail); try go_wp2)
   go_loopg [5, 35] k1 (fun kq v5 v35 w' => ∃ (x3_2 : List Int) (x4_2 : List Bool) (x5_2 : List Int) (x35_2 : Int), v35 = .int .i64 x35_2 ∧ Aside0 (net_lengths.l1 kq x3_2 x4_2 x5_2 x6_1 (rd_L1 l0_0 (rd x5_1 x6_1)) ((rd_L1 l0_0 (rd x5_1 x6_1)).length : Int) x35_2 l0_0 = some r) ∧ Aside0 (kq ≤ k1) ∧ Aside0 (Kd.R (Kd.int .i64) 3 w' w.heap.size (fun k_ => some k_ ≠ (v5 : Value).ownBlock) v322 x3_2) ∧ Aside0 (Kd.R Kd.bool 4 w' w.heap.size (fun _ => True) (.slice (some ⟨go6, 0, none⟩) x4_1.length co6) x4_2) ∧ Aside0 (Kd.R (Kd.int .i64) 3 w' w.heap.size (fun k_ => some k_ ≠ (v322 : Value).ownBlock) v5 x5_2) ∧ Aside0 (w'.heap[gb320]? = some (.cells #[(.slice (some ad332) l0_0.length c0_0)] 24 (0, 0))) ∧ Aside0 (Below w.heap.size w w'))
   case atStart => exact ⟨(x3_1), (x4_1), (x5_1), (0), zz3, H', ⟨Nat.le_refl _⟩, ⟨by (try simp only [hl4_1]); (with_reducible repeat (first | apply Kd.R_alloc | apply Kd.R_drewN | apply Kd.R_drew)); exact HO_3.out⟩, ⟨by (try simp only [hl4_1]); (with_reducible repeat (first | apply Kd.R_alloc | apply Kd.R_drewN | apply Kd.R_drew)); exact HO_4.out⟩, ⟨by (try simp only [hl4_1]); (with_reducible repeat (first | apply Kd.R_alloc | apply Kd.R_drewN | apply Kd.R_drew)); exact HO_5.out⟩, ⟨by (try simp only [hl4_1]); (with_reducible repeat (first | refine blk_drewN ?_ _ | refine blk_drew ?_ | refine blk_alloc ?_ _)); exact BK320.out⟩, ⟨by repeat (first | (with_reducible first | exact HB.out | apply ba | apply pb | apply bd | refine below_set ?_ GE320.out) | exact HB.out)⟩⟩
   case round =>
    clear H'
    try clear c1
    try clear c2
    try clear c2b0
    try clear c2b1
    try clear p2
    try clear c3
    try clear c3b0
    try clear c3b1
    try clear p3
    try clear q3
    try clear hx3
    try clear c4
    try clear c4b0
    try clear c4b1
    try clear c5
    try clear c5b0
    try clear c5b1
    try clear p6
    try clear q6
    try clear hx6
    try clear qi6
    try clear hf6
    try clear c7
    try clear c18
    try clear c18b0
    try clear c19
    try clear c19b0
    try clear c20
    try clear c20b0
    try clear c21
    try clear c21b0
    try clear hcz11_0
    try clear hcz23_0
    try clear hcz8_0
    try clear hfz11_0
    try clear hfz23_0
    try clear hfz8_0
    try clear hx331_0
    try clear hx332_0
    try clear hx6_0
    try clear p2
    try clear p331
    try clear p332
    try clear p6
    try clear q331
    try clear q332
    try clear q6
    obtain ⟨x3_2, x4_2, x5_2, x35_2, rfl, HA, HK2, HO_3, HO_4, HO_5, BK320, HB⟩ := hrel
    have hl4_2 := (Kd.R_reads' HO_4.out).1
    rw [hl4_2] at HO_4
    (try simp only [hl4_2])
    (try simp only [hl4_2] at BK320)
    (try simp only [hl4_2] at HO_3)
    (try simp only [hl4_2] at HO_5)
    cases gk with
    | zero => exact absurd HA.out (by simp [net_lengths.l1])
    | succ k2 =>
     have H := HA.out
     clear HA
     simp only [net_lengths.l1] at H
     by_cases c24 : x35_2 < ((rd_L1 l0_0 (rd x5_1 x6_1)).length : Int)
     rotate_left
     ·rw [if_neg c24] at H
      have c24b0 : decide (x35_2 < ((rd_L1 l0_0 (rd x5_1 x6_1)).length : Int)) = false := decide_eq_false c24
      clear c24
      have H' := am H
      clear H
      go_wp2
      repeat (go_quiet (fail); try go_wp2)
      (try simp only [← hl4_1, ← hl4_2])
      go_roundg k2
      case measure => have := HK1.out; have := HK2.out; omega
      case rel => exact ⟨(x3_2), (x4_2), (x5_2), (wrap64 (x6_1 + 1)), zz3, H', ⟨by have := HK1.out; have := HK2.out; omega⟩, ⟨by (try simp only [hl4_1]); (try simp only [hl4_2]); (with_reducible repeat (first | apply Kd.R_alloc | apply Kd.R_drewN | apply Kd.R_drew)); exact HO_3.out⟩, ⟨by (try simp only [hl4_1]); (try simp only [hl4_2]); (with_reducible repeat (first | apply Kd.R_alloc | apply Kd.R_drewN | apply Kd.R_drew)); exact HO_4.out⟩, ⟨by (try simp only [hl4_1]); (try simp only [hl4_2]); (with_reducible repeat (first | apply Kd.R_alloc | apply Kd.R_drewN | apply Kd.R_drew)); exact HO_5.out⟩, ⟨by (try simp only [hl4_1]); (try simp only [hl4_2]); (with_reducible repeat (first | refine blk_drewN ?_ _ | refine blk_drew ?_ | refine blk_alloc ?_ _)); exact BK320.out⟩, ⟨by repeat (first | (with_reducible first | exact HB.out | apply ba | apply pb | apply bd | refine below_set ?_ GE320.out) | exact HB.out)⟩⟩
     rw [if_pos c24] at H
     have c24b0 : decide (x35_2 < ((rd_L1 l0_0 (rd x5_1 x6_1)).length : Int)) = true := decide_eq_true c24
     clear c24
     by_cases c25 : 0 ≤ x35_2
     rotate_left
     ·rw [if_neg c25] at H
      exact absurd H (by simp)
     rw [if_pos c25] at H
     have c25b0 : decide (0 ≤ x35_2) = true := decide_eq_true c25
     clear c25
     by_cases c26 : x35_2 < ((rd_L1 l0_0 (rd x5_1 x6_1)).length : Int)
     rotate_left
     ·rw [if_neg c26] at H
      exact absurd H (by simp)
     rw [if_pos c26] at H
     have c26b0 : decide (x35_2 < ((rd_L1 l0_0 (rd x5_1 x6_1)).length : Int)) = true := decide_eq_true c26
     clear c26
     by_cases c27 : 0 ≤ (rd (rd_L1 l0_0 (rd x5_1 x6_1)) x35_2)
     rotate_left
     ·rw [if_neg c27] at H
      exact absurd H (by simp)
     rw [if_pos c27] at H
     have c27b0 : decide (0 ≤ (rd (rd_L1 l0_0 (rd x5_1 x6_1)) x35_2)) = true := decide_eq_true c27
     clear c27
     by_cases c28 : (rd (rd_L1 l0_0 (rd x5_1 x6_1)) x35_2) < (x4_2.length : Int)
     rotate_left
     ·rw [if_neg c28] at H
      exact absurd H (by simp)
     rw [if_pos c28] at H
     have c28b0 : decide ((rd (rd_L1 l0_0 (rd x5_1 x6_1)) x35_2) < (x4_2.length : Int)) = true := decide_eq_true c28
     clear c28
     obtain ⟨bq29, hbq29⟩ : ∃ b_ : Bool, b_ = (rdOf false x4_2 (rd (rd_L1 l0_0 (rd x5_1 x6_1)) x35_2)) := ⟨_, rfl⟩
     replace H : (if (bq29 = true) then (net_lengths.l1 k2 x3_2 x4_2 x5_2 x6_1 (rd_L1 l0_0 (rd x5_1 x6_1)) ((rd_L1 l0_0 (rd x5_1 x6_1)).length : Int) (wrap64 (x35_2 + 1)) l0_0) else (if 0 ≤ x6_1 then (if x6_1 < (x5_2.length : Int) then (if 0 ≤ (rd x5_2 x6_1) then (if (rd x5_2 x6_1) < (x3_2.length : Int) then (if (rd (rd_L1 l0_0 (rd x5_1 x6_1)) x35_2) < (x3_2.length : Int) then (if x5_2.length < 17592186044416 then (net_lengths.l1 k2 (x3_2.set ((rd (rd_L1 l0_0 (rd x5_1 x6_1)) x35_2) : Int).toNat (wrap64 ((rd x3_2 (rd x5_2 x6_1)) + 1))) (x4_2.set ((rd (rd_L1 l0_0 (rd x5_1 x6_1)) x35_2) : Int).toNat true) (x5_2 ++ [rd (rd_L1 l0_0 (rd x5_1 x6_1)) x35_2]) x6_1 (rd_L1 l0_0 (rd x5_1 x6_1)) ((rd_L1 l0_0 (rd x5_1 x6_1)).length : Int) (wrap64 (x35_2 + 1)) l0_0) else (none)) else (none)) else (none)) else (none)) else (none)) else (none))) = some r := by rw [← hbq29] at H; exact H
     have Nbq29 := am hbq29
     clear hbq29
     by_cases c30 : (bq29 = true)
     ·subst c30
      have H1 : (net_lengths.l1 k2 x3_2 x4_2 x5_2 x6_1 (rd_L1 l0_0 (rd x5_1 x6_1)) ((rd_L1 l0_0 (rd x5_1 x6_1)).length : Int) (wrap64 (x35_2 + 1)) l0_0) = some r := by rw [if_pos rfl] at H; exact H
      clear H
      have H := H1
      clear H1
      have H' := am H
      clear H
      have p333 : 0 ≤ (x35_2 : Int) := od zz2
      have q333 : x35_2 < ((rd_L1 l0_0 (rd x5_1 x6_1)).length : Int) := od zz2
      obtain ⟨ad333, e333, hx333_0⟩ := Kd.at_int HR332_0.out x35_2 p333 q333
      cases e333
      replace hx333_0 := (HB.out.cell (World.block_lt_of_cell? w _ hx333_0)).trans hx333_0
      replace p333 := eq_true p333
      replace q333 := eq_true q333
      have p334 : 0 ≤ ((rd (rd_L1 l0_0 (rd x5_1 x6_1)) x35_2) : Int) := od zz2
      have q334 : (rd (rd_L1 l0_0 (rd x5_1 x6_1)) x35_2) < (x4_2.length : Int) := od zz2
      obtain ⟨ad334, e334, hx334_0⟩ := Kd.at_bool (Kd.R_reads' HO_4.out).2.2 (rd (rd_L1 l0_0 (rd x5_1 x6_1)) x35_2) p334 q334
      (try rw [← Nbq29.out] at hx334_0)
      obtain rfl : (⟨go6, 0, none⟩ : Addr) = ad334 := (by injection e334)
      (first | simp only [add_plain] at hx334_0 | simp only [add_at] at hx334_0 | simp only [Addr.add, Nat.zero_add] at hx334_0 | skip)
      replace p334 := eq_true p334
      replace q334 := eq_true q334
      go_wp2
      repeat (go_quiet (fail); try go_wp2)
      (try simp only [← hl4_2])
      go_roundg k2
      case measure => have := HK1.out; have := HK2.out; omega
      case rel => exact ⟨(x3_2), (x4_2), (x5_2), (wrap64 (x35_2 + 1)), zz3, H', ⟨by have := HK1.out; have := HK2.out; omega⟩, ⟨by (try simp only [hl4_1]); (try simp only [hl4_2]); (with_reducible repeat (first | apply Kd.R_alloc | apply Kd.R_drewN | apply Kd.R_drew)); exact HO_3.out⟩, ⟨by (try simp only [hl4_1]); (try simp only [hl4_2]); (with_reducible repeat (first | apply Kd.R_alloc | apply Kd.R_drewN | apply Kd.R_drew)); exact HO_4.out⟩, ⟨by (try simp only [hl4_1]); (try simp only [hl4_2]); (with_reducible repeat (first | apply Kd.R_alloc | apply Kd.R_drewN | apply Kd.R_drew)); exact HO_5.out⟩, ⟨by (try simp only [hl4_1]); (try simp only [hl4_2]); (with_reducible repeat (first | refine blk_drewN ?_ _ | refine blk_drew ?_ | refine blk_alloc ?_ _)); exact BK320.out⟩, ⟨by repeat (first | (with_reducible first | exact HB.out | apply ba | apply pb | apply bd | refine below_set ?_ GE320.out) | exact HB.out)⟩⟩
     replace c30 := Bool.eq_false_iff.mpr c30
     subst c30
     have H1 : (if 0 ≤ x6_1 then (if x6_1 < (x5_2.length : Int) then (if 0 ≤ (rd x5_2 x6_1) then (if (rd x5_2 x6_1) < (x3_2.length : Int) then (if (rd (rd_L1 l0_0 (rd x5_1 x6_1)) x35_2) < (x3_2.length : Int) then (if x5_2.length < 17592186044416 then (net_lengths.l1 k2 (x3_2.set ((rd (rd_L1 l0_0 (rd x5_1 x6_1)) x35_2) : Int).toNat (wrap64 ((rd x3_2 (rd x5_2 x6_1)) + 1))) (x4_2.set ((rd (rd_L1 l0_0 (rd x5_1 x6_1)) x35_2) : Int).toNat true) (x5_2 ++ [rd (rd_L1 l0_0 (rd x5_1 x6_1)) x35_2]) x6_1 (rd_L1 l0_0 (rd x5_1 x6_1)) ((rd_L1 l0_0 (rd x5_1 x6_1)).length : Int) (wrap64 (x35_2 + 1)) l0_0) else (none)) else (none)) else (none)) else (none)) else (none)) else (none)) = some r := by rw [if_neg (show ¬ (false = true) by decide)] at H; exact H
     clear H
     have H := H1
     clear H1
     obtain ⟨y335, hy335⟩ : ∃ y_ : List Bool, y_ = (x4_2.set ((rd (rd_L1 l0_0 (rd x5_1 x6_1)) x35_2) : Int).toNat true) := ⟨_, rfl⟩
     replace H : (if 0 ≤ x6_1 then (if x6_1 < (x5_2.length : Int) then (if 0 ≤ (rd x5_2 x6_1) then (if (rd x5_2 x6_1) < (x3_2.length : Int) then (if (rd (rd_L1 l0_0 (rd x5_1 x6_1)) x35_2) < (x3_2.length : Int) then (if x5_2.length < 17592186044416 then (net_lengths.l1 k2 (x3_2.set ((rd (rd_L1 l0_0 (rd x5_1 x6_1)) x35_2) : Int).toNat (wrap64 ((rd x3_2 (rd x5_2 x6_1)) + 1))) y335 (x5_2 ++ [rd (rd_L1 l0_0 (rd x5_1 x6_1)) x35_2]) x6_1 (rd_L1 l0_0 (rd x5_1 x6_1)) ((rd_L1 l0_0 (rd x5_1 x6_1)).length : Int) (wrap64 (x35_2 + 1)) l0_0) else (none)) else (none)) else (none)) else (none)) else (none)) else (none)) = some r := by first | (rw [hy335]; with_reducible exact H) | (have H2_ := (Option.bind_some _ _).symm.trans H; rw [hy335]; with_reducible exact H2_) | (have H2_ := (Option.bind_some _ _).symm.trans H; with_reducible exact H2_) | with_reducible exact H | (rw [hy335]; exact H) | exact H
     have Ny335 := am hy335
     clear hy335
     by_cases c32 : 0 ≤ x6_1
     rotate_left
     ·rw [if_neg c32] at H
      exact absurd H (by simp)
     rw [if_pos c32] at H
     have c32b0 : decide (0 ≤ x6_1) = true := decide_eq_true c32
     clear c32
     by_cases c33 : x6_1 < (x5_2.length : Int)
     rotate_left
     ·rw [if_neg c33] at H
      exact absurd H (by simp)
     rw [if_pos c33] at H
     have c33b0 : decide (x6_1 < (x5_2.length : Int)) = true := decide_eq_true c33
     clear c33
     by_cases c34 : 0 ≤ (rd x5_2 x6_1)
     rotate_left
     ·rw [if_neg c34] at H
      exact absurd H (by simp)
     rw [if_pos c34] at H
     have c34b0 : decide (0 ≤ (rd x5_2 x6_1)) = true := decide_eq_true c34
     clear c34
     by_cases c35 : (rd x5_2 x6_1) < (x3_2.length : Int)
     rotate_left
     ·rw [if_neg c35] at H
      exact absurd H (by simp)
     rw [if_pos c35] at H
     have c35b0 : decide ((rd x5_2 x6_1) < (x3_2.length : Int)) = true := decide_eq_true c35
     clear c35
     by_cases c36 : (rd (rd_L1 l0_0 (rd x5_1 x6_1)) x35_2) < (x3_2.length : Int)
     rotate_left
     ·rw [if_neg c36] at H
      exact absurd H (by simp)
     rw [if_pos c36] at H
     have c36b0 : decide ((rd (rd_L1 l0_0 (rd x5_1 x6_1)) x35_2) < (x3_2.length : Int)) = true := decide_eq_true c36
     clear c36
     obtain ⟨y338, hy338⟩ : ∃ y_ : List Int, y_ = (x3_2.set ((rd (rd_L1 l0_0 (rd x5_1 x6_1)) x35_2) : Int).toNat (wrap64 ((rd x3_2 (rd x5_2 x6_1)) + 1))) := ⟨_, rfl⟩
     replace H : (if x5_2.length < 17592186044416 then (net_lengths.l1 k2 y338 y335 (x5_2 ++ [rd (rd_L1 l0_0 (rd x5_1 x6_1)) x35_2]) x6_1 (rd_L1 l0_0 (rd x5_1 x6_1)) ((rd_L1 l0_0 (rd x5_1 x6_1)).length : Int) (wrap64 (x35_2 + 1)) l0_0) else (none)) = some r := by first | (rw [hy338]; with_reducible exact H) | (have H2_ := (Option.bind_some _ _).symm.trans H; rw [hy338]; with_reducible exact H2_) | (have H2_ := (Option.bind_some _ _).symm.trans H; with_reducible exact H2_) | with_reducible exact H | (rw [hy338]; exact H) | exact H
     have Ny338 := am hy338
     clear hy338
     by_cases c38 : x5_2.length < 17592186044416
     rotate_left
     ·rw [if_neg c38] at H
      exact absurd H (by simp)
     rw [if_pos c38] at H
     have LMc38 := am c38
     clear c38
     obtain ⟨y339, hy339⟩ : ∃ y_ : List Int, y_ = (x5_2 ++ [rd (rd_L1 l0_0 (rd x5_1 x6_1)) x35_2]) := ⟨_, rfl⟩
     replace H : (net_lengths.l1 k2 y338 y335 y339 x6_1 (rd_L1 l0_0 (rd x5_1 x6_1)) ((rd_L1 l0_0 (rd x5_1 x6_1)).length : Int) (wrap64 (x35_2 + 1)) l0_0) = some r := by first | (rw [hy339]; with_reducible exact H) | (have H2_ := (Option.bind_some _ _).symm.trans H; rw [hy339]; with_reducible exact H2_) | (have H2_ := (Option.bind_some _ _).symm.trans H; with_reducible exact H2_) | with_reducible exact H | (rw [hy339]; exact H) | exact H
     have Ny339 := am hy339
     clear hy339
     have H' := am H
     clear H
     have p333 : 0 ≤ (x35_2 : Int) := od zz2
     have q333 : x35_2 < ((rd_L1 l0_0 (rd x5_1 x6_1)).length : Int) := od zz2
     obtain ⟨ad333, e333, hx333_0⟩ := Kd.at_int HR332_0.out x35_2 p333 q333
     cases e333
     replace hx333_0 := (HB.out.cell (World.block_lt_of_cell? w _ hx333_0)).trans hx333_0
     replace p333 := eq_true p333
     replace q333 := eq_true q333
     have p334 : 0 ≤ ((rd (rd_L1 l0_0 (rd x5_1 x6_1)) x35_2) : Int) := od zz2
     have q334 : (rd (rd_L1 l0_0 (rd x5_1 x6_1)) x35_2) < (x4_2.length : Int) := od zz2
     obtain ⟨ad334, e334, hx334_0⟩ := Kd.at_bool (Kd.R_reads' HO_4.out).2.2 (rd (rd_L1 l0_0 (rd x5_1 x6_1)) x35_2) p334 q334
     (try rw [← Nbq29.out] at hx334_0)
     obtain rfl : (⟨go6, 0, none⟩ : Addr) = ad334 := (by injection e334)
     (first | simp only [add_plain] at hx334_0 | simp only [add_at] at hx334_0 | simp only [Addr.add, Nat.zero_add] at hx334_0 | skip)
     replace p334 := eq_true p334
     replace q334 := eq_true q334
     have p31 : 0 ≤ ((rd (rd_L1 l0_0 (rd x5_1 x6_1)) x35_2) : Int) := od zz2
     have q31 : ((rd (rd_L1 l0_0 (rd x5_1 x6_1)) x35_2) : Int) < ((x4_2.length : Int) : Int) := od zz2
     obtain ⟨hx31_0, hf31_0⟩ := Kd.R_celln false HO_4.out ((rd (rd_L1 l0_0 (rd x5_1 x6_1)) x35_2) : Int) p31 q31
     replace p31 := eq_true p31
     replace q31 := eq_true q31
     have HP39 := Kd.R_putg HO_4.out ((rd (rd_L1 l0_0 (rd x5_1 x6_1)) x35_2) : Int) true
     go_wp2_with (first | ((with_reducible refine gate_store (t := 4) (p := 46) rfl ?_); (try (rw [drewN_self wr]; generalize hq_ : World.drewN wr _ = wr; have n0_ := am (Kd.R_at hq_ HO_3.out); have n1_ := am (Kd.R_at hq_ HO_4.out); have n2_ := am (Kd.R_at hq_ HO_5.out); have n3_ := am (blk_at hq_ BK320.out); have n4_ := am (below_at hq_ HB.out); clear hq_ HO_3 HO_4 HO_5 BK320 HB; have HO_3 := n0_; have HO_4 := n1_; have HO_5 := n2_; have BK320 := n3_; have HB := n4_; clear n0_ n1_ n2_ n3_ n4_; (try (have HP39 := Kd.R_putg HO_4.out ((rd (rd_L1 l0_0 (rd x5_1 x6_1)) x35_2) : Int) true)))); refine store_event (t := 4) (p := 46) (v := ?vo_w40) (w1 := (wr.setCell ⟨go6, ((rd (rd_L1 l0_0 (rd x5_1 x6_1)) x35_2) : Int).toNat, none⟩ (.bool true))) ?hg ?ho ?hn ?hr ?_; (case ho => rfl); (case hg => rfl); (case hn => rfl); (case hr => first | (go_simp; done) | (go_simp; rfl)); intro w40 hw; have hg : wr.grownBy w40 (some go6) := (by rw [hw]; exact HP39.2); have hp_ : Kd.R Kd.bool 4 w40 w.heap.size (fun _ => True) (.slice (some ⟨go6, 0, none⟩) x4_2.length co6) y335 := (by rw [hw, Ny335.out]; exact HP39.1); clear HP39; replace HO_3 := am (Kd.R_over' (v := (.slice (some ⟨go6, 0, none⟩) x4_2.length co6)) (kR HO_3.out) (Kd.R_typed HO_4.out) (by decide) hg); replace HO_5 := am (Kd.R_over' (v := (.slice (some ⟨go6, 0, none⟩) x4_2.length co6)) (kR HO_5.out) (Kd.R_typed HO_4.out) (by decide) hg); replace BK320 := am (blk_grown (g := gb320) (o := .cells #[.slice (some ad332) l0_0.length c0_0] 24 (0, 0)) (kb BK320.out) hg (Kd.R_ne HO_4.out BK320.out (by decide))); replace HO_4 := am (hp_); replace HB := am ((by rw [hw]; exact below_set (HB.out) GB6.out : Below w.heap.size w w40)); clear hg hw hp_; obtain ⟨Ao41, co41, eo41⟩ := Kd.R_slice HO_5.out; subst eo41; have p336 : 0 ≤ (x6_1 : Int) := od zz2; have q336 : x6_1 < (x5_2.length : Int) := od zz2; obtain ⟨ad336, e336, hx336_0⟩ := Kd.at_int (Kd.R_reads' HO_5.out).2.2 x6_1 p336 q336; cases e336; replace p336 := eq_true p336; replace q336 := eq_true q336; obtain ⟨Ao42, co42, eo42⟩ := Kd.R_slice HO_3.out; subst eo42; have p337 : 0 ≤ ((rd x5_2 x6_1) : Int) := od zz2; have q337 : (rd x5_2 x6_1) < (x3_2.length : Int) := od zz2; obtain ⟨ad337, e337, hx337_0⟩ := Kd.at_int (Kd.R_reads' HO_3.out).2.2 (rd x5_2 x6_1) p337 q337; cases e337; replace p337 := eq_true p337; replace q337 := eq_true q337; have p37 : 0 ≤ ((rd (rd_L1 l0_0 (rd x5_1 x6_1)) x35_2) : Int) := od zz2; have q37 : ((rd (rd_L1 l0_0 (rd x5_1 x6_1)) x35_2) : Int) < ((x3_2.length : Int) : Int) := od zz2; obtain ⟨go37, co37, eo37, gb37, gl37, cl37, HG37⟩ := Kd.R_form HO_3.out (by omega); (first | cases eo37 | (injection eo37 with ea_ en_ ec_; (first | subst ea_ | (injection ea_ with ea_; subst ea_)); subst ec_; clear en_)); have GB37 := am gb37; have GG37 := am HG37; clear gb37 gl37 HG37; (first | simp only [add_plain] at hx337_0 | skip); obtain ⟨hx37_0, hf37_0⟩ := Kd.R_celln 0 HO_3.out ((rd (rd_L1 l0_0 (rd x5_1 x6_1)) x35_2) : Int) p37 q37; replace p37 := eq_true p37; replace q37 := eq_true q37; obtain ⟨hy43_, hz43_⟩ := Kd.R_celln 0 HO_3.out ((rd (rd_L1 l0_0 (rd x5_1 x6_1)) x35_2) : Int) (od zz2) (od zz2); have HP43 := Kd.R_putg HO_3.out ((rd (rd_L1 l0_0 (rd x5_1 x6_1)) x35_2) : Int) (wrap64 ((rd x3_2 (rd x5_2 x6_1)) + 1))) | ((with_reducible refine gate_store (t := 3) (p := 57) rfl ?_); (try (rw [drewN_self w40]; generalize hq_ : World.drewN w40 _ = w40; have n0_ := am (Kd.R_at hq_ HO_3.out); have n1_ := am (Kd.R_at hq_ HO_4.out); have n2_ := am (Kd.R_at hq_ HO_5.out); have n3_ := am (blk_at hq_ BK320.out); have n4_ := am (below_at hq_ HB.out); clear hq_ HO_3 HO_4 HO_5 BK320 HB; have HO_3 := n0_; have HO_4 := n1_; have HO_5 := n2_; have BK320 := n3_; have HB := n4_; clear n0_ n1_ n2_ n3_ n4_; (try (obtain ⟨hy43_, hz43_⟩ := Kd.R_celln 0 HO_3.out ((rd (rd_L1 l0_0 (rd x5_1 x6_1)) x35_2) : Int) (od zz2) (od zz2))); (try (have HP43 := Kd.R_putg HO_3.out ((rd (rd_L1 l0_0 (rd x5_1 x6_1)) x35_2) : Int) (wrap64 ((rd x3_2 (rd x5_2 x6_1)) + 1)))))); refine store_event (t := 3) (p := 57) (v := ?vo_w44) (w1 := (w40.setCell ⟨go37, ((rd (rd_L1 l0_0 (rd x5_1 x6_1)) x35_2) : Int).toNat, none⟩ (.int .i64 (wrap64 ((rd x3_2 (rd x5_2 x6_1)) + 1))))) ?hg ?ho ?hn ?hr ?_; (case ho => rfl); (case hg => rfl); (case hn => rfl); (case hr => first | (go_simp; done) | (go_simp; rfl)); intro w44 hw; have hg : w40.grownBy w44 (some go37) := (by rw [hw]; exact HP43.2); have hp_ : Kd.R (Kd.int .i64) 3 w44 w.heap.size (fun k_ => some k_ ≠ (.slice (some ad336) x5_2.length co41 : Value).ownBlock) (.slice (some ⟨go37, 0, none⟩) x3_2.length co42) y338 := (by rw [hw, Ny338.out]; exact HP43.1); clear HP43; replace HO_4 := am (Kd.R_over' (v := (.slice (some ⟨go37, 0, none⟩) x3_2.length co42)) (kR HO_4.out) (Kd.R_typed HO_3.out) (by decide) hg); replace HO_5 := am (Kd.R_after (v := (.slice (some ⟨go37, 0, none⟩) x3_2.length co42)) (v1 := (.slice (some ⟨go37, 0, none⟩) x3_2.length co42)) (ok := (fun _ => True)) (by (with_reducible repeat (first | apply Kd.R_alloc | apply Kd.R_drewN | apply Kd.R_drew)); exact Kd.R_mono HO_5.out (fun _ hk => ⟨trivial, hk⟩)) hg (.inl rfl)); replace BK320 := am (blk_grown (g := gb320) (o := .cells #[.slice (some ad332) l0_0.length c0_0] 24 (0, 0)) (kb BK320.out) hg (Kd.R_ne HO_3.out BK320.out (by decide))); replace HO_3 := am (hp_); replace HB := am ((by rw [hw]; exact below_set (HB.out) GB37.out : Below w.heap.size w w44)); clear hg hw hp_) | ((with_reducible refine gate_builtin (b := .append) (xs := #[.tmp 58, .tmp 60]) rfl ?_); at_builtin; refine Kd.R_append (Kd.int .i64) (w0 := w) w.heap.size rfl (.tmp 58) (.tmp 60) 28 3 (.int .i64 0) 8 rfl Try.underlying28 info3 rfl (by decide) (by omega) (.slice (some ad336) x5_2.length co41) x5_2 (rd (rd_L1 l0_0 (rd x5_1 x6_1)) x35_2) [.int .i64 (rd (rd_L1 l0_0 (rd x5_1 x6_1)) x35_2)] (fun k_ => some k_ ≠ (.slice (some ⟨go37, 0, none⟩) x3_2.length co42 : Value).ownBlock) (fun _ => False) rfl rfl ?aP (fun _ hk => hk.elim) ?aF ?aO ?aB ?aS ?aL ?_; (case aP => exact rfl); (case aB => exact (bs HB.out)); (case aF => exact (fun k_ hk => Kd.fresh' (Kd.R_lt (kR HO_3.out)) k_ hk)); (case aO => exact (by (with_reducible repeat (first | apply Kd.R_alloc | apply Kd.R_drewN | apply Kd.R_drew)); exact Kd.R_mono HO_5.out (fun _ hk => hk.2))); (case aS => exact (below_size (bs HB.out))); (case aL => have := LMc38.out; omega); intro v340 w45 ho hb hg hat; rw [← Ny339.out] at ho; have n0_ := am (Kd.R_after (ok := (fun _ => True)) (by (with_reducible repeat (first | apply Kd.R_alloc | apply Kd.R_drewN | apply Kd.R_drew)); exact Kd.R_mono HO_3.out (fun _ hk => ⟨trivial, hk⟩)) hg hat); have n1_ := am (Kd.R_over' (kR HO_4.out) (Kd.R_typed (kR HO_5.out)) (by decide) hg); have n2_ := am (blk_grown (g := gb320) (o := .cells #[.slice (some ad332) l0_0.length c0_0] 24 (0, 0)) (kb BK320.out) hg (Kd.R_ne HO_5.out BK320.out (by decide))); have n3_ := am (hb); have n4_ := am (ho); clear HO_3; clear HO_4; clear BK320; clear HB; clear HO_5; have HO_3 := n0_; have HO_4 := n1_; have BK320 := n2_; have HB := n3_; have HO341 := n4_; clear n0_ n1_ n2_ n3_ n4_; clear ho hb hg hat))
     repeat (go_quiet (first | ((with_reducible refine gate_store (t := 4) (p := 46) rfl ?_); (try (rw [drewN_self wr]; generalize hq_ : World.drewN wr _ = wr; have n0_ := am (Kd.R_at hq_ HO_3.out); have n1_ := am (Kd.R_at hq_ HO_4.out); have n2_ := am (Kd.R_at hq_ HO_5.out); have n3_ := am (blk_at hq_ BK320.out); have n4_ := am (below_at hq_ HB.out); clear hq_ HO_3 HO_4 HO_5 BK320 HB; have HO_3 := n0_; have HO_4 := n1_; have HO_5 := n2_; have BK320 := n3_; have HB := n4_; clear n0_ n1_ n2_ n3_ n4_; (try (have HP39 := Kd.R_putg HO_4.out ((rd (rd_L1 l0_0 (rd x5_1 x6_1)) x35_2) : Int) true)))); refine store_event (t := 4) (p := 46) (v := ?vo_w40) (w1 := (wr.setCell ⟨go6, ((rd (rd_L1 l0_0 (rd x5_1 x6_1)) x35_2) : Int).toNat, none⟩ (.bool true))) ?hg ?ho ?hn ?hr ?_; (case ho => rfl); (case hg => rfl); (case hn => rfl); (case hr => first | (go_simp; done) | (go_simp; rfl)); intro w40 hw; have hg : wr.grownBy w40 (some go6) := (by rw [hw]; exact HP39.2); have hp_ : Kd.R Kd.bool 4 w40 w.heap.size (fun _ => True) (.slice (some ⟨go6, 0, none⟩) x4_2.length co6) y335 := (by rw [hw, Ny335.out]; exact HP39.1); clear HP39; replace HO_3 := am (Kd.R_over' (v := (.slice (some ⟨go6, 0, none⟩) x4_2.length co6)) (kR HO_3.out) (Kd.R_typed HO_4.out) (by decide) hg); replace HO_5 := am (Kd.R_over' (v := (.slice (some ⟨go6, 0, none⟩) x4_2.length co6)) (kR HO_5.out) (Kd.R_typed HO_4.out) (by decide) hg); replace BK320 := am (blk_grown (g := gb320) (o := .cells #[.slice (some ad332) l0_0.length c0_0] 24 (0, 0)) (kb BK320.out) hg (Kd.R_ne HO_4.out BK320.out (by decide))); replace HO_4 := am (hp_); replace HB := am ((by rw [hw]; exact below_set (HB.out) GB6.out : Below w.heap.size w w40)); clear hg hw hp_; obtain ⟨Ao41, co41, eo41⟩ := Kd.R_slice HO_5.out; subst eo41; have p336 : 0 ≤ (x6_1 : Int) := od zz2; have q336 : x6_1 < (x5_2.length : Int) := od zz2; obtain ⟨ad336, e336, hx336_0⟩ := Kd.at_int (Kd.R_reads' HO_5.out).2.2 x6_1 p336 q336; cases e336; replace p336 := eq_true p336; replace q336 := eq_true q336; obtain ⟨Ao42, co42, eo42⟩ := Kd.R_slice HO_3.out; subst eo42; have p337 : 0 ≤ ((rd x5_2 x6_1) : Int) := od zz2; have q337 : (rd x5_2 x6_1) < (x3_2.length : Int) := od zz2; obtain ⟨ad337, e337, hx337_0⟩ := Kd.at_int (Kd.R_reads' HO_3.out).2.2 (rd x5_2 x6_1) p337 q337; cases e337; replace p337 := eq_true p337; replace q337 := eq_true q337; have p37 : 0 ≤ ((rd (rd_L1 l0_0 (rd x5_1 x6_1)) x35_2) : Int) := od zz2; have q37 : ((rd (rd_L1 l0_0 (rd x5_1 x6_1)) x35_2) : Int) < ((x3_2.length : Int) : Int) := od zz2; obtain ⟨go37, co37, eo37, gb37, gl37, cl37, HG37⟩ := Kd.R_form HO_3.out (by omega); (first | cases eo37 | (injection eo37 with ea_ en_ ec_; (first | subst ea_ | (injection ea_ with ea_; subst ea_)); subst ec_; clear en_)); have GB37 := am gb37; have GG37 := am HG37; clear gb37 gl37 HG37; (first | simp only [add_plain] at hx337_0 | skip); obtain ⟨hx37_0, hf37_0⟩ := Kd.R_celln 0 HO_3.out ((rd (rd_L1 l0_0 (rd x5_1 x6_1)) x35_2) : Int) p37 q37; replace p37 := eq_true p37; replace q37 := eq_true q37; obtain ⟨hy43_, hz43_⟩ := Kd.R_celln 0 HO_3.out ((rd (rd_L1 l0_0 (rd x5_1 x6_1)) x35_2) : Int) (od zz2) (od zz2); have HP43 := Kd.R_putg HO_3.out ((rd (rd_L1 l0_0 (rd x5_1 x6_1)) x35_2) : Int) (wrap64 ((rd x3_2 (rd x5_2 x6_1)) + 1))) | ((with_reducible refine gate_store (t := 3) (p := 57) rfl ?_); (try (rw [drewN_self w40]; generalize hq_ : World.drewN w40 _ = w40; have n0_ := am (Kd.R_at hq_ HO_3.out); have n1_ := am (Kd.R_at hq_ HO_4.out); have n2_ := am (Kd.R_at hq_ HO_5.out); have n3_ := am (blk_at hq_ BK320.out); have n4_ := am (below_at hq_ HB.out); clear hq_ HO_3 HO_4 HO_5 BK320 HB; have HO_3 := n0_; have HO_4 := n1_; have HO_5 := n2_; have BK320 := n3_; have HB := n4_; clear n0_ n1_ n2_ n3_ n4_; (try (obtain ⟨hy43_, hz43_⟩ := Kd.R_celln 0 HO_3.out ((rd (rd_L1 l0_0 (rd x5_1 x6_1)) x35_2) : Int) (od zz2) (od zz2))); (try (have HP43 := Kd.R_putg HO_3.out ((rd (rd_L1 l0_0 (rd x5_1 x6_1)) x35_2) : Int) (wrap64 ((rd x3_2 (rd x5_2 x6_1)) + 1)))))); refine store_event (t := 3) (p := 57) (v := ?vo_w44) (w1 := (w40.setCell ⟨go37, ((rd (rd_L1 l0_0 (rd x5_1 x6_1)) x35_2) : Int).toNat, none⟩ (.int .i64 (wrap64 ((rd x3_2 (rd x5_2 x6_1)) + 1))))) ?hg ?ho ?hn ?hr ?_; (case ho => rfl); (case hg => rfl); (case hn => rfl); (case hr => first | (go_simp; done) | (go_simp; rfl)); intro w44 hw; have hg : w40.grownBy w44 (some go37) := (by rw [hw]; exact HP43.2); have hp_ : Kd.R (Kd.int .i64) 3 w44 w.heap.size (fun k_ => some k_ ≠ (.slice (some ad336) x5_2.length co41 : Value).ownBlock) (.slice (some ⟨go37, 0, none⟩) x3_2.length co42) y338 := (by rw [hw, Ny338.out]; exact HP43.1); clear HP43; replace HO_4 := am (Kd.R_over' (v := (.slice (some ⟨go37, 0, none⟩) x3_2.length co42)) (kR HO_4.out) (Kd.R_typed HO_3.out) (by decide) hg); replace HO_5 := am (Kd.R_after (v := (.slice (some ⟨go37, 0, none⟩) x3_2.length co42)) (v1 := (.slice (some ⟨go37, 0, none⟩) x3_2.length co42)) (ok := (fun _ => True)) (by (with_reducible repeat (first | apply Kd.R_alloc | apply Kd.R_drewN | apply Kd.R_drew)); exact Kd.R_mono HO_5.out (fun _ hk => ⟨trivial, hk⟩)) hg (.inl rfl)); replace BK320 := am (blk_grown (g := gb320) (o := .cells #[.slice (some ad332) l0_0.length c0_0] 24 (0, 0)) (kb BK320.out) hg (Kd.R_ne HO_3.out BK320.out (by decide))); replace HO_3 := am (hp_); replace HB := am ((by rw [hw]; exact below_set (HB.out) GB37.out : Below w.heap.size w w44)); clear hg hw hp_) | ((with_reducible refine gate_builtin (b := .append) (xs := #[.tmp 58, .tmp 60]) rfl ?_); at_builtin; refine Kd.R_append (Kd.int .i64) (w0 := w) w.heap.size rfl (.tmp 58) (.tmp 60) 28 3 (.int .i64 0) 8 rfl Try.underlying28 info3 rfl (by decide) (by omega) (.slice (some ad336) x5_2.length co41) x5_2 (rd (rd_L1 l0_0 (rd x5_1 x6_1)) x35_2) [.int .i64 (rd (rd_L1 l0_0 (rd x5_1 x6_1)) x35_2)] (fun k_ => some k_ ≠ (.slice (some ⟨go37, 0, none⟩) x3_2.length co42 : Value).ownBlock) (fun _ => False) rfl rfl ?aP (fun _ hk => hk.elim) ?aF ?aO ?aB ?aS ?aL ?_; (case aP => exact rfl); (case aB => exact (bs HB.out)); (case aF => exact (fun k_ hk => Kd.fresh' (Kd.R_lt (kR HO_3.out)) k_ hk)); (case aO => exact (by (with_reducible repeat (first | apply Kd.R_alloc | apply Kd.R_drewN | apply Kd.R_drew)); exact Kd.R_mono HO_5.out (fun _ hk => hk.2))); (case aS => exact (below_size (bs HB.out))); (case aL => have := LMc38.out; omega); intro v340 w45 ho hb hg hat; rw [← Ny339.out] at ho; have n0_ := am (Kd.R_after (ok := (fun _ => True)) (by (with_reducible repeat (first | apply Kd.R_alloc | apply Kd.R_drewN | apply Kd.R_drew)); exact Kd.R_mono HO_3.out (fun _ hk => ⟨trivial, hk⟩)) hg hat); have n1_ := am (Kd.R_over' (kR HO_4.out) (Kd.R_typed (kR HO_5.out)) (by decide) hg); have n2_ := am (blk_grown (g := gb320) (o := .cells #[.slice (some ad332) l0_0.length c0_0] 24 (0, 0)) (kb BK320.out) hg (Kd.R_ne HO_5.out BK320.out (by decide))); have n3_ := am (hb); have n4_ := am (ho); clear HO_3; clear HO_4; clear BK320; clear HB; clear HO_5; have HO_3 := n0_; have HO_4 := n1_; have BK320 := n2_; have HB := n3_; have HO341 := n4_; clear n0_ n1_ n2_ n3_ n4_; clear ho hb hg hat)); try go_wp2_with (first | ((with_reducible refine gate_store (t := 4) (p := 46) rfl ?_); (try (rw [drewN_self wr]; generalize hq_ : World.drewN wr _ = wr; have n0_ := am (Kd.R_at hq_ HO_3.out); have n1_ := am (Kd.R_at hq_ HO_4.out); have n2_ := am (Kd.R_at hq_ HO_5.out); have n3_ := am (blk_at hq_ BK320.out); have n4_ := am (below_at hq_ HB.out); clear hq_ HO_3 HO_4 HO_5 BK320 HB; have HO_3 := n0_; have HO_4 := n1_; have HO_5 := n2_; have BK320 := n3_; have HB := n4_; clear n0_ n1_ n2_ n3_ n4_; (try (have HP39 := Kd.R_putg HO_4.out ((rd (rd_L1 l0_0 (rd x5_1 x6_1)) x35_2) : Int) true)))); refine store_event (t := 4) (p := 46) (v := ?vo_w40) (w1 := (wr.setCell ⟨go6, ((rd (rd_L1 l0_0 (rd x5_1 x6_1)) x35_2) : Int).toNat, none⟩ (.bool true))) ?hg ?ho ?hn ?hr ?_; (case ho => rfl); (case hg => rfl); (case hn => rfl); (case hr => first | (go_simp; done) | (go_simp; rfl)); intro w40 hw; have hg : wr.grownBy w40 (some go6) := (by rw [hw]; exact HP39.2); have hp_ : Kd.R Kd.bool 4 w40 w.heap.size (fun _ => True) (.slice (some ⟨go6, 0, none⟩) x4_2.length co6) y335 := (by rw [hw, Ny335.out]; exact HP39.1); clear HP39; replace HO_3 := am (Kd.R_over' (v := (.slice (some ⟨go6, 0, none⟩) x4_2.length co6)) (kR HO_3.out) (Kd.R_typed HO_4.out) (by decide) hg); replace HO_5 := am (Kd.R_over' (v := (.slice (some ⟨go6, 0, none⟩) x4_2.length co6)) (kR HO_5.out) (Kd.R_typed HO_4.out) (by decide) hg); replace BK320 := am (blk_grown (g := gb320) (o := .cells #[.slice (some ad332) l0_0.length c0_0] 24 (0, 0)) (kb BK320.out) hg (Kd.R_ne HO_4.out BK320.out (by decide))); replace HO_4 := am (hp_); replace HB := am ((by rw [hw]; exact below_set (HB.out) GB6.out : Below w.heap.size w w40)); clear hg hw hp_; obtain ⟨Ao41, co41, eo41⟩ := Kd.R_slice HO_5.out; subst eo41; have p336 : 0 ≤ (x6_1 : Int) := od zz2; have q336 : x6_1 < (x5_2.length : Int) := od zz2; obtain ⟨ad336, e336, hx336_0⟩ := Kd.at_int (Kd.R_reads' HO_5.out).2.2 x6_1 p336 q336; cases e336; replace p336 := eq_true p336; replace q336 := eq_true q336; obtain ⟨Ao42, co42, eo42⟩ := Kd.R_slice HO_3.out; subst eo42; have p337 : 0 ≤ ((rd x5_2 x6_1) : Int) := od zz2; have q337 : (rd x5_2 x6_1) < (x3_2.length : Int) := od zz2; obtain ⟨ad337, e337, hx337_0⟩ := Kd.at_int (Kd.R_reads' HO_3.out).2.2 (rd x5_2 x6_1) p337 q337; cases e337; replace p337 := eq_true p337; replace q337 := eq_true q337; have p37 : 0 ≤ ((rd (rd_L1 l0_0 (rd x5_1 x6_1)) x35_2) : Int) := od zz2; have q37 : ((rd (rd_L1 l0_0 (rd x5_1 x6_1)) x35_2) : Int) < ((x3_2.length : Int) : Int) := od zz2; obtain ⟨go37, co37, eo37, gb37, gl37, cl37, HG37⟩ := Kd.R_form HO_3.out (by omega); (first | cases eo37 | (injection eo37 with ea_ en_ ec_; (first | subst ea_ | (injection ea_ with ea_; subst ea_)); subst ec_; clear en_)); have GB37 := am gb37; have GG37 := am HG37; clear gb37 gl37 HG37; (first | simp only [add_plain] at hx337_0 | skip); obtain ⟨hx37_0, hf37_0⟩ := Kd.R_celln 0 HO_3.out ((rd (rd_L1 l0_0 (rd x5_1 x6_1)) x35_2) : Int) p37 q37; replace p37 := eq_true p37; replace q37 := eq_true q37; obtain ⟨hy43_, hz43_⟩ := Kd.R_celln 0 HO_3.out ((rd (rd_L1 l0_0 (rd x5_1 x6_1)) x35_2) : Int) (od zz2) (od zz2); have HP43 := Kd.R_putg HO_3.out ((rd (rd_L1 l0_0 (rd x5_1 x6_1)) x35_2) : Int) (wrap64 ((rd x3_2 (rd x5_2 x6_1)) + 1))) | ((with_reducible refine gate_store (t := 3) (p := 57) rfl ?_); (try (rw [drewN_self w40]; generalize hq_ : World.drewN w40 _ = w40; have n0_ := am (Kd.R_at hq_ HO_3.out); have n1_ := am (Kd.R_at hq_ HO_4.out); have n2_ := am (Kd.R_at hq_ HO_5.out); have n3_ := am (blk_at hq_ BK320.out); have n4_ := am (below_at hq_ HB.out); clear hq_ HO_3 HO_4 HO_5 BK320 HB; have HO_3 := n0_; have HO_4 := n1_; have HO_5 := n2_; have BK320 := n3_; have HB := n4_; clear n0_ n1_ n2_ n3_ n4_; (try (obtain ⟨hy43_, hz43_⟩ := Kd.R_celln 0 HO_3.out ((rd (rd_L1 l0_0 (rd x5_1 x6_1)) x35_2) : Int) (od zz2) (od zz2))); (try (have HP43 := Kd.R_putg HO_3.out ((rd (rd_L1 l0_0 (rd x5_1 x6_1)) x35_2) : Int) (wrap64 ((rd x3_2 (rd x5_2 x6_1)) + 1)))))); refine store_event (t := 3) (p := 57) (v := ?vo_w44) (w1 := (w40.setCell ⟨go37, ((rd (rd_L1 l0_0 (rd x5_1 x6_1)) x35_2) : Int).toNat, none⟩ (.int .i64 (wrap64 ((rd x3_2 (rd x5_2 x6_1)) + 1))))) ?hg ?ho ?hn ?hr ?_; (case ho => rfl); (case hg => rfl); (case hn => rfl); (case hr => first | (go_simp; done) | (go_simp; rfl)); intro w44 hw; have hg : w40.grownBy w44 (some go37) := (by rw [hw]; exact HP43.2); have hp_ : Kd.R (Kd.int .i64) 3 w44 w.heap.size (fun k_ => some k_ ≠ (.slice (some ad336) x5_2.length co41 : Value).ownBlock) (.slice (some ⟨go37, 0, none⟩) x3_2.length co42) y338 := (by rw [hw, Ny338.out]; exact HP43.1); clear HP43; replace HO_4 := am (Kd.R_over' (v := (.slice (some ⟨go37, 0, none⟩) x3_2.length co42)) (kR HO_4.out) (Kd.R_typed HO_3.out) (by decide) hg); replace HO_5 := am (Kd.R_after (v := (.slice (some ⟨go37, 0, none⟩) x3_2.length co42)) (v1 := (.slice (some ⟨go37, 0, none⟩) x3_2.length co42)) (ok := (fun _ => True)) (by (with_reducible repeat (first | apply Kd.R_alloc | apply Kd.R_drewN | apply Kd.R_drew)); exact Kd.R_mono HO_5.out (fun _ hk => ⟨trivial, hk⟩)) hg (.inl rfl)); replace BK320 := am (blk_grown (g := gb320) (o := .cells #[.slice (some ad332) l0_0.length c0_0] 24 (0, 0)) (kb BK320.out) hg (Kd.R_ne HO_3.out BK320.out (by decide))); replace HO_3 := am (hp_); replace HB := am ((by rw [hw]; exact below_set (HB.out) GB37.out : Below w.heap.size w w44)); clear hg hw hp_) | ((with_reducible refine gate_builtin (b := .append) (xs := #[.tmp 58, .tmp 60]) rfl ?_); at_builtin; refine Kd.R_append (Kd.int .i64) (w0 := w) w.heap.size rfl (.tmp 58) (.tmp 60) 28 3 (.int .i64 0) 8 rfl Try.underlying28 info3 rfl (by decide) (by omega) (.slice (some ad336) x5_2.length co41) x5_2 (rd (rd_L1 l0_0 (rd x5_1 x6_1)) x35_2) [.int .i64 (rd (rd_L1 l0_0 (rd x5_1 x6_1)) x35_2)] (fun k_ => some k_ ≠ (.slice (some ⟨go37, 0, none⟩) x3_2.length co42 : Value).ownBlock) (fun _ => False) rfl rfl ?aP (fun _ hk => hk.elim) ?aF ?aO ?aB ?aS ?aL ?_; (case aP => exact rfl); (case aB => exact (bs HB.out)); (case aF => exact (fun k_ hk => Kd.fresh' (Kd.R_lt (kR HO_3.out)) k_ hk)); (case aO => exact (by (with_reducible repeat (first | apply Kd.R_alloc | apply Kd.R_drewN | apply Kd.R_drew)); exact Kd.R_mono HO_5.out (fun _ hk => hk.2))); (case aS => exact (below_size (bs HB.out))); (case aL => have := LMc38.out; omega); intro v340 w45 ho hb hg hat; rw [← Ny339.out] at ho; have n0_ := am (Kd.R_after (ok := (fun _ => True)) (by (with_reducible repeat (first | apply Kd.R_alloc | apply Kd.R_drewN | apply Kd.R_drew)); exact Kd.R_mono HO_3.out (fun _ hk => ⟨trivial, hk⟩)) hg hat); have n1_ := am (Kd.R_over' (kR HO_4.out) (Kd.R_typed (kR HO_5.out)) (by decide) hg); have n2_ := am (blk_grown (g := gb320) (o := .cells #[.slice (some ad332) l0_0.length c0_0] 24 (0, 0)) (kb BK320.out) hg (Kd.R_ne HO_5.out BK320.out (by decide))); have n3_ := am (hb); have n4_ := am (ho); clear HO_3; clear HO_4; clear BK320; clear HB; clear HO_5; have HO_3 := n0_; have HO_4 := n1_; have BK320 := n2_; have HB := n3_; have HO341 := n4_; clear n0_ n1_ n2_ n3_ n4_; clear ho hb hg hat)))
     (try simp only [← hl4_2])
     go_roundg k2
     case measure => have := HK1.out; have := HK2.out; omega
     case rel => exact ⟨(y338), (y335), (y339), (wrap64 (x35_2 + 1)), zz3, H', ⟨by have := HK1.out; have := HK2.out; omega⟩, ⟨by (try simp only [hl4_1]); (try simp only [hl4_2]); (with_reducible repeat (first | apply Kd.R_alloc | apply Kd.R_drewN | apply Kd.R_drew)); exact Kd.R_mono HO_3.out (fun _ hk => hk.2)⟩, ⟨by (try simp only [hl4_1]); (try simp only [hl4_2]); (with_reducible repeat (first | apply Kd.R_alloc | apply Kd.R_drewN | apply Kd.R_drew)); exact HO_4.out⟩, ⟨by (try simp only [hl4_1]); (try simp only [hl4_2]); (with_reducible repeat (first | apply Kd.R_alloc | apply Kd.R_drewN | apply Kd.R_drew)); exact HO341.out⟩, ⟨by (try simp only [hl4_1]); (try simp only [hl4_2]); (with_reducible repeat (first | refine blk_drewN ?_ _ | refine blk_drew ?_ | refine blk_alloc ?_ _)); exact BK320.out⟩, ⟨by repeat (first | (with_reducible first | exact HB.out | apply ba | apply pb | apply bd | refine below_set ?_ GE320.out) | exact HB.out)⟩⟩
end Go.Proofs.Ytjgdalhdiohclaa.Q
end
/-! Part QNetCommon -/
section
namespace Go.Proofs.Ytjgdalhdiohclaa.Q
attribute [local go_sem] max2_int min2_int max_two min_two max_three min_three max_four min_four
set_option linter.unusedVariables false
set_option linter.unusedSimpArgs false
def net_common.l0 : Nat → Int → Int → Option (Int)
 | 0, _, _ => none
 | k + 1, x0, x1 => if x1 > 0 then (if x1 = 0 then (none) else (net_common.l0 k x1 (Int.tmod x0 x1))) else (some x0)
def net_common.f (k : Nat) (a0 : Int) (a1 : Int) : Option (Int) := net_common.l0 k a0 a1
theorem net_common.mono_l : ∀ k, (∀ y0 y1, LeO (net_common.l0 k y0 y1) (net_common.l0 (k + 1) y0 y1))
 | 0 => fun _ _ r h => by simp [net_common.l0] at h
 | k + 1 => by
  have ih0 := net_common.mono_l k
  ·intro y0 y1
   unfold net_common.l0
   repeat' first
   | (with_reducible exact ih0 _ _)
   | (with_reducible exact LeO.refl _)
   | (with_reducible exact LeO.none _)
   | (with_reducible refine LeO.ite ?_ ?_)
   | (with_reducible refine LeO.bind ?_ (fun _ => ?_))
   | exact ih0 _ _
   | exact LeO.none _
   | refine LeO.ite ?_ ?_
   | refine LeO.bind ?_ (fun _ => ?_)
theorem net_common.mono : ∀ a0 a1 k, LeO (net_common.f k a0 a1) (net_common.f (k + 1) a0 a1) := by
 intro a0 a1 k
 have ih0 := net_common.mono_l k
 unfold net_common.f
 repeat' first
   | (with_reducible exact ih0 _ _)
   | (with_reducible exact LeO.refl _)
   | (with_reducible exact LeO.none _)
   | (with_reducible refine LeO.ite ?_ ?_)
   | (with_reducible refine LeO.bind ?_ (fun _ => ?_))
   | exact ih0 _ _
   | exact LeO.none _
   | refine LeO.ite ?_ ?_
   | refine LeO.bind ?_ (fun _ => ?_)
set_option maxHeartbeats 8000000 in
set_option maxRecDepth 100000 in
theorem net_common.calls (k : Nat) (a0 : Int) (a1 : Int) (r : Int) (w : World) (h : net_common.f k a0 a1 = some r) :
  Calls Try.prog 104 #[.int .i64 a0, .int .i64 a1] w fun e w' => e = .returned (.int .i64 r) ∧ Drawn0 w w' := by
 have H : (net_common.l0 k a0 a1) = some r := h
 clear h
 have H' := am H
 clear H
 go_enter Try.func104, Try.ntmps104
 go_wp2
 repeat (go_quiet (fail); try go_wp2)
 go_loopg [0, 1] k (fun kq v0 v1 w' => ∃ (x0_1 : Int) (x1_1 : Int), v0 = .int .i64 x0_1 ∧ v1 = .int .i64 x1_1 ∧ Aside0 (net_common.l0 kq x0_1 x1_1 = some r) ∧ Aside0 (kq ≤ k) ∧ Drawn0 w w')
 case atStart => exact ⟨(a0), (a1), zz3, zz3, H', ⟨Nat.le_refl _⟩, by repeat (first | exact Drawn0.refl _ | apply Drawn0.step)⟩
 case round =>
  clear H'
  try clear c1
  try clear p2
  obtain ⟨x0_1, x1_1, rfl, rfl, HA, HK1, ⟨m1, rfl⟩⟩ := hrel
  cases gk with
  | zero => exact absurd HA.out (by simp [net_common.l0])
  | succ k1 =>
   have H := HA.out
   clear HA
   simp only [net_common.l0] at H
   by_cases c3 : x1_1 > 0
   ·rw [if_pos c3] at H
    have c3b0 : decide (0 < x1_1) = true := decide_eq_true c3
    clear c3
    by_cases c4 : x1_1 = 0
    ·rw [if_pos c4] at H
     exact absurd H (by simp)
    ·rw [if_neg c4] at H
     have c4b0 : (x1_1 == 0) = false := beq_eq_false_iff_ne.mpr c4
     have c4b1 : (x1_1 != 0) = true := bne_iff_ne.mpr c4
     have H' := am H
     clear H
     go_wp2
     repeat (go_quiet (fail); try go_wp2)
     go_roundg k1
     case measure => have := HK1.out; omega
     case rel => exact ⟨(x1_1), (Int.tmod x0_1 x1_1), zz3, zz3, H', ⟨by have := HK1.out; omega⟩, by repeat (first | exact Drawn0.refl _ | apply Drawn0.step)⟩
   ·rw [if_neg c3] at H
    have c3b0 : decide (0 < x1_1) = false := decide_eq_false c3
    clear c3
    obtain rfl := Option.some.inj H
    go_wp2
    repeat (go_quiet (fail); try go_wp2)
    go_ret
    exact ⟨by first | rfl | (simp; done) | (simp [*]; done), by repeat (first | exact Drawn0.refl _ | apply Drawn0.step)⟩
end Go.Proofs.Ytjgdalhdiohclaa.Q
end
/-! Part QNetPeriod -/
section
namespace Go.Proofs.Ytjgdalhdiohclaa.Q
attribute [local go_sem] max2_int min2_int max_two min_two max_three min_three max_four min_four
set_option linter.unusedVariables false
set_option linter.unusedSimpArgs false
mutual
def net_period.l0 : Nat → List Int → Int → List (List Int) → Int → Int → Option (Int)
 | 0, _, _, _, _, _ => none
 | k + 1, x3, x4, x13, x14, x15 => if x15 < x14 then (if 0 ≤ x15 then (if x15 < (x13.length : Int) then (net_period.l1 k x3 x4 x15 x13 x14 x15 (rd_L1 x13 x15) ((rd_L1 x13 x15).length : Int) 0) else (none)) else (none)) else (some x4)
def net_period.l1 : Nat → List Int → Int → Int → List (List Int) → Int → Int → List Int → Int → Int → Option (Int)
 | 0, _, _, _, _, _, _, _, _, _ => none
 | k + 1, x3, x4, x5, x13, x14, x15, x20, x21, x22 => if x22 < x21 then (if 0 ≤ x22 then (if x22 < (x20.length : Int) then (if 0 ≤ x5 then (if x5 < (x3.length : Int) then (if 0 ≤ (rd x20 x22) then (if (rd x20 x22) < (x3.length : Int) then ((net_common.f k x4 (mx (wrap64 ((wrap64 ((rd x3 x5) + 1)) - (rd x3 (rd x20 x22)))) (wrap64 (-(wrap64 ((wrap64 ((rd x3 x5) + 1)) - (rd x3 (rd x20 x22)))))))).bind fun t350 => (net_period.l1 k x3 t350 x5 x13 x14 x15 x20 x21 (wrap64 (x22 + 1)))) else (none)) else (none)) else (none)) else (none)) else (none)) else (none)) else (net_period.l0 k x3 x4 x13 x14 (wrap64 (x15 + 1)))
end
def net_period.f (k : Nat) (l0_0 : List (List Int)) : Option (Int) := (net_lengths.f k l0_0).bind fun t343 => (net_period.l0 k t343 0 l0_0 (l0_0.length : Int) 0)
theorem net_period.mono_l : ∀ k, (∀ y0 y1 y2 y3 y4, LeO (net_period.l0 k y0 y1 y2 y3 y4) (net_period.l0 (k + 1) y0 y1 y2 y3 y4)) ∧ (∀ y0 y1 y2 y3 y4 y5 y6 y7 y8, LeO (net_period.l1 k y0 y1 y2 y3 y4 y5 y6 y7 y8) (net_period.l1 (k + 1) y0 y1 y2 y3 y4 y5 y6 y7 y8))
 | 0 => ⟨fun _ _ _ _ _ r h => by simp [net_period.l0] at h, fun _ _ _ _ _ _ _ _ _ r h => by simp [net_period.l1] at h⟩
 | k + 1 => by
  obtain ⟨ih0, ih1⟩ := net_period.mono_l k
  refine ⟨?_, ?_⟩
  ·intro y0 y1 y2 y3 y4
   unfold net_period.l0
   repeat' first
   | (with_reducible exact ih0 _ _ _ _ _)
   | (with_reducible exact ih1 _ _ _ _ _ _ _ _ _)
   | (with_reducible exact net_common.mono _ _ _)
   | (with_reducible exact net_lengths.mono _ _)
   | (with_reducible exact LeO.refl _)
   | (with_reducible exact LeO.none _)
   | (with_reducible refine LeO.ite ?_ ?_)
   | (with_reducible refine LeO.bind ?_ (fun _ => ?_))
   | exact ih0 _ _ _ _ _
   | exact ih1 _ _ _ _ _ _ _ _ _
   | exact net_common.mono _ _ _
   | exact net_lengths.mono _ _
   | exact LeO.none _
   | refine LeO.ite ?_ ?_
   | refine LeO.bind ?_ (fun _ => ?_)
  ·intro y0 y1 y2 y3 y4 y5 y6 y7 y8
   unfold net_period.l1
   repeat' first
   | (with_reducible exact ih0 _ _ _ _ _)
   | (with_reducible exact ih1 _ _ _ _ _ _ _ _ _)
   | (with_reducible exact net_common.mono _ _ _)
   | (with_reducible exact net_lengths.mono _ _)
   | (with_reducible exact LeO.refl _)
   | (with_reducible exact LeO.none _)
   | (with_reducible refine LeO.ite ?_ ?_)
   | (with_reducible refine LeO.bind ?_ (fun _ => ?_))
   | exact ih0 _ _ _ _ _
   | exact ih1 _ _ _ _ _ _ _ _ _
   | exact net_common.mono _ _ _
   | exact net_lengths.mono _ _
   | exact LeO.none _
   | refine LeO.ite ?_ ?_
   | refine LeO.bind ?_ (fun _ => ?_)
theorem net_period.mono : ∀ a0 k, LeO (net_period.f k a0) (net_period.f (k + 1) a0) := by
 intro a0 k
 obtain ⟨ih0, ih1⟩ := net_period.mono_l k
 unfold net_period.f
 repeat' first
   | (with_reducible exact ih0 _ _ _ _ _)
   | (with_reducible exact ih1 _ _ _ _ _ _ _ _ _)
   | (with_reducible exact net_common.mono _ _ _)
   | (with_reducible exact net_lengths.mono _ _)
   | (with_reducible exact LeO.refl _)
   | (with_reducible exact LeO.none _)
   | (with_reducible refine LeO.ite ?_ ?_)
   | (with_reducible refine LeO.bind ?_ (fun _ => ?_))
   | exact ih0 _ _ _ _ _
   | exact ih1 _ _ _ _ _ _ _ _ _
   | exact net_common.mono _ _ _
   | exact net_lengths.mono _ _
   | exact LeO.none _
   | refine LeO.ite ?_ ?_
   | refine LeO.bind ?_ (fun _ => ?_)
set_option maxHeartbeats 8000000 in
set_option maxRecDepth 100000 in
theorem net_period.calls (k : Nat) (A0_0 : Option Addr) (c0_0 : Nat) (l0_0 : List (List Int)) (r : Int) (w : World) (hr0_0 : Kd.C (Kd.slice 3 (Kd.int .i64)) w A0_0 l0_0.length l0_0) (hc0_0 : l0_0.length ≤ c0_0) (h : net_period.f k l0_0 = some r) :
    Calls Try.prog 70 #[.agg #[.slice A0_0 l0_0.length c0_0]] w fun e w' => e = .returned (.int .i64 r) ∧ Below w.heap.size w w' := by
 have hu24 := Try.underlying24
 have HR0_0 := am hr0_0
 have HC0_0 := am hc0_0
 clear hr0_0 hc0_0
 have HB := am (Below.refl w.heap.size w)
 have H : ((net_lengths.f k l0_0).bind fun t343 => (net_period.l0 k t343 0 l0_0 (l0_0.length : Int) 0)) = some r := h
 clear h
 replace H := Option.bind_eq_some_iff.mp H
 obtain ⟨t343, A20, H⟩ := H
 replace H : (net_period.l0 k t343 0 l0_0 (l0_0.length : Int) 0) = some r := H
 have A2 := am A20
 clear A20
 have H' := am H
 clear H
 go_enter Try.func70, Try.ntmps70
 go_wp2_with (first | ((with_reducible refine gate_dst (N := 1) rfl ?_); refine box_event ?hg (N := 1) ?hd (cs := #[.slice A0_0 l0_0.length c0_0]) (t := 24) ?hr ?_; (case hd => rfl); (case hg => rfl); (case hr => first | (go_simp; done) | (go_simp; rfl)); intro gb342 hg w3 hbox hb; have BK342 := am (hbox); have GW342 := am ((by rw [hg]; exact (below_size (bw HB.out)) : w.heap.size ≤ gb342)); have GE342 := am ((by rw [hg]; exact (below_size (bw HB.out)) : w.heap.size ≤ gb342)); replace HB := am (below_step (bw HB.out) hb); clear hb hbox hg; have hcz4_0 : w3.cell? ⟨gb342, 0, none⟩ = some (.slice A0_0 l0_0.length c0_0) := (blk_cell BK342.out 0).trans rfl; have hfz4_0 := blk_frozen BK342.out 0) | (go_at_call 71; (with_reducible refine (net_lengths.calls k _ _ l0_0 t343 _ ?side1 ?side2 A2.out).mono ?_); (case side1 => exact kc (Kd.C_below HR0_0.out HB.out)); (case side2 => exact HC0_0.out); rintro e w5 ⟨v344, rfl, ho0, hb⟩; have HO345 := am (Kd.R_lower ho0 (below_size (bs HB.out))); replace BK342 := am (blk_below (g := gb342) (o := .cells #[.slice A0_0 l0_0.length c0_0] 24 (0, 0)) (kb BK342.out) hb); replace HB := am (below_step (bs HB.out) hb); (try clear hb); (try clear hb2); (try clear hk); (try clear hi); (try clear ho0); have hcz6_0 : w5.cell? ⟨gb342, 0, none⟩ = some (.slice A0_0 l0_0.length c0_0) := (blk_cell BK342.out 0).trans rfl; have hfz6_0 := blk_frozen BK342.out 0))
 repeat (go_quiet (first | ((with_reducible refine gate_dst (N := 1) rfl ?_); refine box_event ?hg (N := 1) ?hd (cs := #[.slice A0_0 l0_0.length c0_0]) (t := 24) ?hr ?_; (case hd => rfl); (case hg => rfl); (case hr => first | (go_simp; done) | (go_simp; rfl)); intro gb342 hg w3 hbox hb; have BK342 := am (hbox); have GW342 := am ((by rw [hg]; exact (below_size (bw HB.out)) : w.heap.size ≤ gb342)); have GE342 := am ((by rw [hg]; exact (below_size (bw HB.out)) : w.heap.size ≤ gb342)); replace HB := am (below_step (bw HB.out) hb); clear hb hbox hg; have hcz4_0 : w3.cell? ⟨gb342, 0, none⟩ = some (.slice A0_0 l0_0.length c0_0) := (blk_cell BK342.out 0).trans rfl; have hfz4_0 := blk_frozen BK342.out 0) | (go_at_call 71; (with_reducible refine (net_lengths.calls k _ _ l0_0 t343 _ ?side1 ?side2 A2.out).mono ?_); (case side1 => exact kc (Kd.C_below HR0_0.out HB.out)); (case side2 => exact HC0_0.out); rintro e w5 ⟨v344, rfl, ho0, hb⟩; have HO345 := am (Kd.R_lower ho0 (below_size (bs HB.out))); replace BK342 := am (blk_below (g := gb342) (o := .cells #[.slice A0_0 l0_0.length c0_0] 24 (0, 0)) (kb BK342.out) hb); replace HB := am (below_step (bs HB.out) hb); (try clear hb); (try clear hb2); (try clear hk); (try clear hi); (try clear ho0); have hcz6_0 : w5.cell? ⟨gb342, 0, none⟩ = some (.slice A0_0 l0_0.length c0_0) := (blk_cell BK342.out 0).trans rfl; have hfz6_0 := blk_frozen BK342.out 0)); try go_wp2_with (first | ((with_reducible refine gate_dst (N := 1) rfl ?_); refine box_event ?hg (N := 1) ?hd (cs := #[.slice A0_0 l0_0.length c0_0]) (t := 24) ?hr ?_; (case hd => rfl); (case hg => rfl); (case hr => first | (go_simp; done) | (go_simp; rfl)); intro gb342 hg w3 hbox hb; have BK342 := am (hbox); have GW342 := am ((by rw [hg]; exact (below_size (bw HB.out)) : w.heap.size ≤ gb342)); have GE342 := am ((by rw [hg]; exact (below_size (bw HB.out)) : w.heap.size ≤ gb342)); replace HB := am (below_step (bw HB.out) hb); clear hb hbox hg; have hcz4_0 : w3.cell? ⟨gb342, 0, none⟩ = some (.slice A0_0 l0_0.length c0_0) := (blk_cell BK342.out 0).trans rfl; have hfz4_0 := blk_frozen BK342.out 0) | (go_at_call 71; (with_reducible refine (net_lengths.calls k _ _ l0_0 t343 _ ?side1 ?side2 A2.out).mono ?_); (case side1 => exact kc (Kd.C_below HR0_0.out HB.out)); (case side2 => exact HC0_0.out); rintro e w5 ⟨v344, rfl, ho0, hb⟩; have HO345 := am (Kd.R_lower ho0 (below_size (bs HB.out))); replace BK342 := am (blk_below (g := gb342) (o := .cells #[.slice A0_0 l0_0.length c0_0] 24 (0, 0)) (kb BK342.out) hb); replace HB := am (below_step (bs HB.out) hb); (try clear hb); (try clear hb2); (try clear hk); (try clear hi); (try clear ho0); have hcz6_0 : w5.cell? ⟨gb342, 0, none⟩ = some (.slice A0_0 l0_0.length c0_0) := (blk_cell BK342.out 0).trans rfl; have hfz6_0 := blk_frozen BK342.out 0)))
 go_loopg [4, 15] k (fun kq v4 v15 w' => ∃ (x4_1 : Int) (x15_1 : Int), v4 = .int .i64 x4_1 ∧ v15 = .int .i64 x15_1 ∧ Aside0 (net_period.l0 kq t343 x4_1 l0_0 (l0_0.length : Int) x15_1 = some r) ∧ Aside0 (kq ≤ k) ∧ Aside0 (Kd.R (Kd.int .i64) 3 w' w.heap.size (fun _ => True) v344 t343) ∧ Aside0 (w'.heap[gb342]? = some (.cells #[(.slice A0_0 l0_0.length c0_0)] 24 (0, 0))) ∧ Aside0 (Below w.heap.size w w'))
 case atStart => exact ⟨(0), (0), zz3, zz3, H', ⟨Nat.le_refl _⟩, ⟨by (with_reducible repeat (first | apply Kd.R_alloc | apply Kd.R_drewN | apply Kd.R_drew)); exact HO345.out⟩, ⟨by (with_reducible repeat (first | refine blk_drewN ?_ _ | refine blk_drew ?_ | refine blk_alloc ?_ _)); exact BK342.out⟩, ⟨by repeat (first | (with_reducible first | exact HB.out | apply ba | apply pb | apply bd | refine below_set ?_ GE342.out) | exact HB.out)⟩⟩
 case round =>
  clear H'
  try clear p2
  try clear hcz4_0
  try clear hcz6_0
  try clear hfz4_0
  try clear hfz6_0
  obtain ⟨x4_1, x15_1, rfl, rfl, HA, HK1, HO_3, BK342, HB⟩ := hrel
  cases gk with
  | zero => exact absurd HA.out (by simp [net_period.l0])
  | succ k1 =>
   have H := HA.out
   clear HA
   simp only [net_period.l0] at H
   by_cases c7 : x15_1 < (l0_0.length : Int)
   rotate_left
   ·rw [if_neg c7] at H
    have c7b0 : decide (x15_1 < (l0_0.length : Int)) = false := decide_eq_false c7
    clear c7
    obtain rfl := Option.some.inj H
    go_wp2
    repeat (go_quiet (fail); try go_wp2)
    go_ret
    exact ⟨by first | rfl | (simp [errW_none, errW_some] <;> rfl) | (simp [*, errW_none, errW_some] <;> rfl), by repeat (first | (with_reducible first | exact HB.out | apply ba | apply pb | apply bd | refine below_set ?_ GE342.out) | exact HB.out)⟩
   rw [if_pos c7] at H
   have c7b0 : decide (x15_1 < (l0_0.length : Int)) = true := decide_eq_true c7
   clear c7
   by_cases c8 : 0 ≤ x15_1
   rotate_left
   ·rw [if_neg c8] at H
    exact absurd H (by simp)
   rw [if_pos c8] at H
   have c8b0 : decide (0 ≤ x15_1) = true := decide_eq_true c8
   clear c8
   by_cases c9 : x15_1 < (l0_0.length : Int)
   rotate_left
   ·rw [if_neg c9] at H
    exact absurd H (by simp)
   rw [if_pos c9] at H
   have c9b0 : decide (x15_1 < (l0_0.length : Int)) = true := decide_eq_true c9
   clear c9
   have H' := am H
   clear H
   have p346 : 0 ≤ (x15_1 : Int) := od zz2
   have q346 : x15_1 < (l0_0.length : Int) := od zz2
   obtain ⟨ad346, A346_0, c346_0, e346, hx346_0, hl346_0, hi346_0⟩ := at_L1 HR0_0.out x15_1 p346 q346
   cases e346
   replace hx346_0 := (HB.out.cell (World.block_lt_of_cell? w _ hx346_0)).trans hx346_0
   have HR346_0 := am hi346_0
   have HC346_0 := am hl346_0
   clear hi346_0 hl346_0
   replace p346 := eq_true p346
   replace q346 := eq_true q346
   go_wp2
   repeat (go_quiet (fail); try go_wp2)
   go_loopg [4, 22] k1 (fun kq v4 v22 w' => ∃ (x4_2 : Int) (x22_2 : Int), v4 = .int .i64 x4_2 ∧ v22 = .int .i64 x22_2 ∧ Aside0 (net_period.l1 kq t343 x4_2 x15_1 l0_0 (l0_0.length : Int) x15_1 (rd_L1 l0_0 x15_1) ((rd_L1 l0_0 x15_1).length : Int) x22_2 = some r) ∧ Aside0 (kq ≤ k1) ∧ Aside0 (Kd.R (Kd.int .i64) 3 w' w.heap.size (fun _ => True) v344 t343) ∧ Aside0 (w'.heap[gb342]? = some (.cells #[(.slice (some ad346) l0_0.length c0_0)] 24 (0, 0))) ∧ Aside0 (Below w.heap.size w w'))
   case atStart => exact ⟨(x4_1), (0), zz3, zz3, H', ⟨Nat.le_refl _⟩, ⟨by (with_reducible repeat (first | apply Kd.R_alloc | apply Kd.R_drewN | apply Kd.R_drew)); exact HO_3.out⟩, ⟨by (with_reducible repeat (first | refine blk_drewN ?_ _ | refine blk_drew ?_ | refine blk_alloc ?_ _)); exact BK342.out⟩, ⟨by repeat (first | (with_reducible first | exact HB.out | apply ba | apply pb | apply bd | refine below_set ?_ GE342.out) | exact HB.out)⟩⟩
   case round =>
    clear H'
    try clear p2
    try clear c3
    try clear p3
    try clear q3
    try clear hx3
    try clear c7
    try clear c7b0
    try clear c8
    try clear c8b0
    try clear c9
    try clear c9b0
    try clear hcz4_0
    try clear hcz6_0
    try clear hfz4_0
    try clear hfz6_0
    try clear hx346_0
    try clear p2
    try clear p346
    try clear q346
    obtain ⟨x4_2, x22_2, rfl, rfl, HA, HK2, HO_3, BK342, HB⟩ := hrel
    cases gk with
    | zero => exact absurd HA.out (by simp [net_period.l1])
    | succ k2 =>
     have H := HA.out
     clear HA
     simp only [net_period.l1] at H
     by_cases c10 : x22_2 < ((rd_L1 l0_0 x15_1).length : Int)
     rotate_left
     ·rw [if_neg c10] at H
      have c10b0 : decide (x22_2 < ((rd_L1 l0_0 x15_1).length : Int)) = false := decide_eq_false c10
      clear c10
      have H' := am H
      clear H
      go_wp2
      repeat (go_quiet (fail); try go_wp2)
      go_roundg k2
      case measure => have := HK1.out; have := HK2.out; omega
      case rel => exact ⟨(x4_2), (wrap64 (x15_1 + 1)), zz3, zz3, H', ⟨by have := HK1.out; have := HK2.out; omega⟩, ⟨by (with_reducible repeat (first | apply Kd.R_alloc | apply Kd.R_drewN | apply Kd.R_drew)); exact HO_3.out⟩, ⟨by (with_reducible repeat (first | refine blk_drewN ?_ _ | refine blk_drew ?_ | refine blk_alloc ?_ _)); exact BK342.out⟩, ⟨by repeat (first | (with_reducible first | exact HB.out | apply ba | apply pb | apply bd | refine below_set ?_ GE342.out) | exact HB.out)⟩⟩
     rw [if_pos c10] at H
     have c10b0 : decide (x22_2 < ((rd_L1 l0_0 x15_1).length : Int)) = true := decide_eq_true c10
     clear c10
     by_cases c11 : 0 ≤ x22_2
     rotate_left
     ·rw [if_neg c11] at H
      exact absurd H (by simp)
     rw [if_pos c11] at H
     have c11b0 : decide (0 ≤ x22_2) = true := decide_eq_true c11
     clear c11
     by_cases c12 : x22_2 < ((rd_L1 l0_0 x15_1).length : Int)
     rotate_left
     ·rw [if_neg c12] at H
      exact absurd H (by simp)
     rw [if_pos c12] at H
     have c12b0 : decide (x22_2 < ((rd_L1 l0_0 x15_1).length : Int)) = true := decide_eq_true c12
     clear c12
     by_cases c13 : 0 ≤ x15_1
     rotate_left
     ·rw [if_neg c13] at H
      exact absurd H (by simp)
     rw [if_pos c13] at H
     have c13b0 : decide (0 ≤ x15_1) = true := decide_eq_true c13
     clear c13
     by_cases c14 : x15_1 < (t343.length : Int)
     rotate_left
     ·rw [if_neg c14] at H
      exact absurd H (by simp)
     rw [if_pos c14] at H
     have c14b0 : decide (x15_1 < (t343.length : Int)) = true := decide_eq_true c14
     clear c14
     by_cases c15 : 0 ≤ (rd (rd_L1 l0_0 x15_1) x22_2)
     rotate_left
     ·rw [if_neg c15] at H
      exact absurd H (by simp)
     rw [if_pos c15] at H
     have c15b0 : decide (0 ≤ (rd (rd_L1 l0_0 x15_1) x22_2)) = true := decide_eq_true c15
     clear c15
     by_cases c16 : (rd (rd_L1 l0_0 x15_1) x22_2) < (t343.length : Int)
     rotate_left
     ·rw [if_neg c16] at H
      exact absurd H (by simp)
     rw [if_pos c16] at H
     have c16b0 : decide ((rd (rd_L1 l0_0 x15_1) x22_2) < (t343.length : Int)) = true := decide_eq_true c16
     clear c16
     obtain ⟨ji17, hji17⟩ : ∃ j_ : Int, (mx (wrap64 ((wrap64 ((rd t343 x15_1) + 1)) - (rd t343 (rd (rd_L1 l0_0 x15_1) x22_2)))) (wrap64 (-(wrap64 ((wrap64 ((rd t343 x15_1) + 1)) - (rd t343 (rd (rd_L1 l0_0 x15_1) x22_2))))))) = j_ := ⟨_, rfl⟩
     replace H : ((net_common.f k2 x4_2 (ji17)).bind fun t350 => (net_period.l1 k2 t343 t350 x15_1 l0_0 (l0_0.length : Int) x15_1 (rd_L1 l0_0 x15_1) ((rd_L1 l0_0 x15_1).length : Int) (wrap64 (x22_2 + 1)))) = some r := by first | (rw [hji17] at H; exact H) | (simp only [hji17] at H ⊢; exact H)
     have hji17_ : (if (wrap64 ((wrap64 ((rd t343 x15_1) + 1)) - (rd t343 (rd (rd_L1 l0_0 x15_1) x22_2)))) < (wrap64 (-(wrap64 ((wrap64 ((rd t343 x15_1) + 1)) - (rd t343 (rd (rd_L1 l0_0 x15_1) x22_2)))))) then (wrap64 (-(wrap64 ((wrap64 ((rd t343 x15_1) + 1)) - (rd t343 (rd (rd_L1 l0_0 x15_1) x22_2)))))) else (wrap64 ((wrap64 ((rd t343 x15_1) + 1)) - (rd t343 (rd (rd_L1 l0_0 x15_1) x22_2))))) = ji17 := hji17
     replace H := Option.bind_eq_some_iff.mp H
     obtain ⟨t350, A180, H⟩ := H
     replace H : (net_period.l1 k2 t343 t350 x15_1 l0_0 (l0_0.length : Int) x15_1 (rd_L1 l0_0 x15_1) ((rd_L1 l0_0 x15_1).length : Int) (wrap64 (x22_2 + 1))) = some r := H
     have A18 := am A180
     clear A180
     have H' := am H
     clear H
     have p347 : 0 ≤ (x22_2 : Int) := od zz2
     have q347 : x22_2 < ((rd_L1 l0_0 x15_1).length : Int) := od zz2
     obtain ⟨ad347, e347, hx347_0⟩ := Kd.at_int HR346_0.out x22_2 p347 q347
     cases e347
     replace hx347_0 := (HB.out.cell (World.block_lt_of_cell? w _ hx347_0)).trans hx347_0
     replace p347 := eq_true p347
     replace q347 := eq_true q347
     obtain ⟨Ao19, co19, eo19⟩ := Kd.R_slice HO_3.out
     subst eo19
     have p348 : 0 ≤ (x15_1 : Int) := od zz2
     have q348 : x15_1 < (t343.length : Int) := od zz2
     obtain ⟨ad348, e348, hx348_0⟩ := Kd.at_int (Kd.R_reads' HO_3.out).2.2 x15_1 p348 q348
     cases e348
     replace p348 := eq_true p348
     replace q348 := eq_true q348
     have p349 : 0 ≤ ((rd (rd_L1 l0_0 x15_1) x22_2) : Int) := od zz2
     have q349 : (rd (rd_L1 l0_0 x15_1) x22_2) < (t343.length : Int) := od zz2
     obtain ⟨ad349, e349, hx349_0⟩ := Kd.at_int (Kd.R_reads' HO_3.out).2.2 (rd (rd_L1 l0_0 x15_1) x22_2) p349 q349
     obtain rfl : ad348 = ad349 := (by injection e349)
     replace p349 := eq_true p349
     replace q349 := eq_true q349
     go_wp2_with (first | (go_at_call 104; (with_reducible refine (net_common.calls k2 x4_2 ji17 t350 _ A18.out).mono ?_); rintro e w' ⟨rfl, ⟨nd, rfl⟩⟩; (try exact zz4)))
     repeat (go_quiet (first | (go_at_call 104; (with_reducible refine (net_common.calls k2 x4_2 ji17 t350 _ A18.out).mono ?_); rintro e w' ⟨rfl, ⟨nd, rfl⟩⟩; (try exact zz4))); try go_wp2_with (first | (go_at_call 104; (with_reducible refine (net_common.calls k2 x4_2 ji17 t350 _ A18.out).mono ?_); rintro e w' ⟨rfl, ⟨nd, rfl⟩⟩; (try exact zz4))))
     go_roundg k2
     case measure => have := HK1.out; have := HK2.out; omega
     case rel => exact ⟨(t350), (wrap64 (x22_2 + 1)), zz3, zz3, H', ⟨by have := HK1.out; have := HK2.out; omega⟩, ⟨by (with_reducible repeat (first | apply Kd.R_alloc | apply Kd.R_drewN | apply Kd.R_drew)); exact HO_3.out⟩, ⟨by (with_reducible repeat (first | refine blk_drewN ?_ _ | refine blk_drew ?_ | refine blk_alloc ?_ _)); exact BK342.out⟩, ⟨by repeat (first | (with_reducible first | exact HB.out | apply ba | apply pb | apply bd | refine below_set ?_ GE342.out) | exact HB.out)⟩⟩
end Go.Proofs.Ytjgdalhdiohclaa.Q
end
/-! Part QRef05Times -/
section
namespace Go.Proofs.Ytjgdalhdiohclaa.Q
attribute [local go_sem] max2_int min2_int max_two min_two max_three min_three max_four min_four
set_option linter.unusedVariables false
set_option linter.unusedSimpArgs false
def mizmazeref05_Times.l0 : Nat → List Int → Int → Int → Int → Option (Int)
 | 0, _, _, _, _ => none
 | k + 1, x0, x1, x5, x6 => if x6 < (x0.length : Int) then (if 0 ≤ x6 then (if (rd x0 x6) = x1 then (mizmazeref05_Times.l0 k x0 x1 (wrap64 (x5 + 1)) (wrap64 (x6 + 1))) else (mizmazeref05_Times.l0 k x0 x1 x5 (wrap64 (x6 + 1)))) else (none)) else (some x5)
def mizmazeref05_Times.f (k : Nat) (l0 : List Int) (a1 : Int) : Option (Int) := mizmazeref05_Times.l0 k l0 a1 0 0
theorem mizmazeref05_Times.mono_l : ∀ k, (∀ y0 y1 y2 y3, LeO (mizmazeref05_Times.l0 k y0 y1 y2 y3) (mizmazeref05_Times.l0 (k + 1) y0 y1 y2 y3))
 | 0 => fun _ _ _ _ r h => by simp [mizmazeref05_Times.l0] at h
 | k + 1 => by
  have ih0 := mizmazeref05_Times.mono_l k
  ·intro y0 y1 y2 y3
   unfold mizmazeref05_Times.l0
   repeat' first
   | (with_reducible exact ih0 _ _ _ _)
   | (with_reducible exact LeO.refl _)
   | (with_reducible exact LeO.none _)
   | (with_reducible refine LeO.ite ?_ ?_)
   | (with_reducible refine LeO.bind ?_ (fun _ => ?_))
   | exact ih0 _ _ _ _
   | exact LeO.none _
   | refine LeO.ite ?_ ?_
   | refine LeO.bind ?_ (fun _ => ?_)
theorem mizmazeref05_Times.mono : ∀ a0 a1 k, LeO (mizmazeref05_Times.f k a0 a1) (mizmazeref05_Times.f (k + 1) a0 a1) := by
 intro a0 a1 k
 have ih0 := mizmazeref05_Times.mono_l k
 unfold mizmazeref05_Times.f
 repeat' first
   | (with_reducible exact ih0 _ _ _ _)
   | (with_reducible exact LeO.refl _)
   | (with_reducible exact LeO.none _)
   | (with_reducible refine LeO.ite ?_ ?_)
   | (with_reducible refine LeO.bind ?_ (fun _ => ?_))
   | exact ih0 _ _ _ _
   | exact LeO.none _
   | refine LeO.ite ?_ ?_
   | refine LeO.bind ?_ (fun _ => ?_)
set_option maxHeartbeats 8000000 in
set_option maxRecDepth 100000 in
theorem mizmazeref05_Times.calls (k : Nat) (A0 : Option Addr) (c0 : Nat) (l0 : List Int) (a1 : Int) (r : Int) (w : World) (hr0 : Kd.C (Kd.int .i64) w A0 l0.length l0) (hc0 : l0.length ≤ c0) (h : mizmazeref05_Times.f k l0 a1 = some r) :
  Calls Try.prog 84 #[.slice A0 l0.length c0, .int .i64 a1] w fun e w' => e = .returned (.int .i64 r) ∧ Drawn0 w w' := by
 have HR0 := am hr0
 have HC0 := am hc0
 clear hr0 hc0
 have H : (mizmazeref05_Times.l0 k l0 a1 0 0) = some r := h
 clear h
 have H' := am H
 clear H
 go_enter Try.func84, Try.ntmps84
 go_wp2
 go_loopg [5, 6] k (fun kq v5 v6 w' => ∃ (x5_1 : Int) (x6_1 : Int), v5 = .int .i64 x5_1 ∧ v6 = .int .i64 x6_1 ∧ Aside0 (mizmazeref05_Times.l0 kq l0 a1 x5_1 x6_1 = some r) ∧ Aside0 (kq ≤ k) ∧ Drawn0 w w')
 case atStart => exact ⟨(0), (0), zz3, zz3, H', ⟨Nat.le_refl _⟩, by repeat (first | exact Drawn0.refl _ | apply Drawn0.step)⟩
 case round =>
  clear H'
  try clear p2
  obtain ⟨x5_1, x6_1, rfl, rfl, HA, HK1, ⟨m1, rfl⟩⟩ := hrel
  cases gk with
  | zero => exact absurd HA.out (by simp [mizmazeref05_Times.l0])
  | succ k1 =>
   have H := HA.out
   clear HA
   simp only [mizmazeref05_Times.l0] at H
   by_cases c3 : x6_1 < (l0.length : Int)
   ·rw [if_pos c3] at H
    have c3b0 : decide (x6_1 < (l0.length : Int)) = true := decide_eq_true c3
    clear c3
    by_cases c4 : 0 ≤ x6_1
    ·rw [if_pos c4] at H
     have c4b0 : decide (0 ≤ x6_1) = true := decide_eq_true c4
     clear c4
     by_cases c5 : (rd l0 x6_1) = a1
     ·rw [if_pos c5] at H
      have c5b0 : ((rd l0 x6_1) == a1) = true := beq_iff_eq.mpr c5
      have c5b1 : ((rd l0 x6_1) != a1) = false := bne_eq_false_iff_eq.mpr c5
      clear c5
      have H' := am H
      clear H
      have p503 : 0 ≤ (x6_1 : Int) := od zz2
      have q503 : x6_1 < (l0.length : Int) := od zz2
      obtain ⟨ad503, e503, hx503_0⟩ := Kd.at_int HR0.out x6_1 p503 q503
      cases e503
      replace p503 := eq_true p503
      replace q503 := eq_true q503
      go_wp2
      go_roundg k1
      case measure => have := HK1.out; omega
      case rel => exact ⟨(wrap64 (x5_1 + 1)), (wrap64 (x6_1 + 1)), zz3, zz3, H', ⟨by have := HK1.out; omega⟩, by repeat (first | exact Drawn0.refl _ | apply Drawn0.step)⟩
     ·rw [if_neg c5] at H
      have c5b0 : ((rd l0 x6_1) == a1) = false := beq_eq_false_iff_ne.mpr c5
      have c5b1 : ((rd l0 x6_1) != a1) = true := bne_iff_ne.mpr c5
      have H' := am H
      clear H
      have p503 : 0 ≤ (x6_1 : Int) := od zz2
      have q503 : x6_1 < (l0.length : Int) := od zz2
      obtain ⟨ad503, e503, hx503_0⟩ := Kd.at_int HR0.out x6_1 p503 q503
      cases e503
      replace p503 := eq_true p503
      replace q503 := eq_true q503
      go_wp2
      go_roundg k1
      case measure => have := HK1.out; omega
      case rel => exact ⟨(x5_1), (wrap64 (x6_1 + 1)), zz3, zz3, H', ⟨by have := HK1.out; omega⟩, by repeat (first | exact Drawn0.refl _ | apply Drawn0.step)⟩
    ·rw [if_neg c4] at H
     exact absurd H (by simp)
   ·rw [if_neg c3] at H
    have c3b0 : decide (x6_1 < (l0.length : Int)) = false := decide_eq_false c3
    clear c3
    obtain rfl := Option.some.inj H
    go_wp2
    go_ret
    exact ⟨by first | rfl | (simp; done) | (simp [*]; done), by repeat (first | exact Drawn0.refl _ | apply Drawn0.step)⟩
end Go.Proofs.Ytjgdalhdiohclaa.Q
end
/-! Part QRef05Product -/
section
namespace Go.Proofs.Ytjgdalhdiohclaa.Q
attribute [local go_sem] max2_int min2_int max_two min_two max_three min_three max_four min_four
set_option linter.unusedVariables false
set_option linter.unusedSimpArgs false
def mizmazeref05_product.l0 : Nat → Int → Int → Int → Option (Int)
 | 0, _, _, _ => none
 | k + 1, x0, x3, x4 => if x4 ≤ x0 then (mizmazeref05_product.l0 k x0 (wrap64 (x3 * x4)) (wrap64 (x4 + 1))) else (some x3)
def mizmazeref05_product.f (k : Nat) (a0 : Int) : Option (Int) := mizmazeref05_product.l0 k a0 1 2
theorem mizmazeref05_product.mono_l : ∀ k, (∀ y0 y1 y2, LeO (mizmazeref05_product.l0 k y0 y1 y2) (mizmazeref05_product.l0 (k + 1) y0 y1 y2))
 | 0 => fun _ _ _ r h => by simp [mizmazeref05_product.l0] at h
 | k + 1 => by
  have ih0 := mizmazeref05_product.mono_l k
  ·intro y0 y1 y2
   unfold mizmazeref05_product.l0
   repeat' first
   | (with_reducible exact ih0 _ _ _)
   | (with_reducible exact LeO.refl _)
   | (with_reducible exact LeO.none _)
   | (with_reducible refine LeO.ite ?_ ?_)
   | (with_reducible refine LeO.bind ?_ (fun _ => ?_))
   | exact ih0 _ _ _
   | exact LeO.none _
   | refine LeO.ite ?_ ?_
   | refine LeO.bind ?_ (fun _ => ?_)
theorem mizmazeref05_product.mono : ∀ a0 k, LeO (mizmazeref05_product.f k a0) (mizmazeref05_product.f (k + 1) a0) := by
 intro a0 k
 have ih0 := mizmazeref05_product.mono_l k
 unfold mizmazeref05_product.f
 repeat' first
   | (with_reducible exact ih0 _ _ _)
   | (with_reducible exact LeO.refl _)
   | (with_reducible exact LeO.none _)
   | (with_reducible refine LeO.ite ?_ ?_)
   | (with_reducible refine LeO.bind ?_ (fun _ => ?_))
   | exact ih0 _ _ _
   | exact LeO.none _
   | refine LeO.ite ?_ ?_
   | refine LeO.bind ?_ (fun _ => ?_)
set_option maxHeartbeats 8000000 in
set_option maxRecDepth 100000 in
theorem mizmazeref05_product.calls (k : Nat) (a0 : Int) (r : Int) (w : World) (h : mizmazeref05_product.f k a0 = some r) :
  Calls Try.prog 87 #[.int .i64 a0] w fun e w' => e = .returned (.int .i64 r) ∧ Drawn0 w w' := by
 have H : (mizmazeref05_product.l0 k a0 1 2) = some r := h
 clear h
 have H' := am H
 clear H
 go_enter Try.func87, Try.ntmps87
 go_wp2
 go_loopg [3, 4] k (fun kq v3 v4 w' => ∃ (x3_1 : Int) (x4_1 : Int), v3 = .int .i64 x3_1 ∧ v4 = .int .i64 x4_1 ∧ Aside0 (mizmazeref05_product.l0 kq a0 x3_1 x4_1 = some r) ∧ Aside0 (kq ≤ k) ∧ Drawn0 w w')
 case atStart => exact ⟨(1), (2), zz3, zz3, H', ⟨Nat.le_refl _⟩, by repeat (first | exact Drawn0.refl _ | apply Drawn0.step)⟩
 case round =>
  clear H'
  obtain ⟨x3_1, x4_1, rfl, rfl, HA, HK1, ⟨m1, rfl⟩⟩ := hrel
  cases gk with
  | zero => exact absurd HA.out (by simp [mizmazeref05_product.l0])
  | succ k1 =>
   have H := HA.out
   clear HA
   simp only [mizmazeref05_product.l0] at H
   by_cases c2 : x4_1 ≤ a0
   ·rw [if_pos c2] at H
    have c2b0 : decide (x4_1 ≤ a0) = true := decide_eq_true c2
    clear c2
    have H' := am H
    clear H
    go_wp2
    go_roundg k1
    case measure => have := HK1.out; omega
    case rel => exact ⟨(wrap64 (x3_1 * x4_1)), (wrap64 (x4_1 + 1)), zz3, zz3, H', ⟨by have := HK1.out; omega⟩, by repeat (first | exact Drawn0.refl _ | apply Drawn0.step)⟩
   ·rw [if_neg c2] at H
    have c2b0 : decide (x4_1 ≤ a0) = false := decide_eq_false c2
    clear c2
    obtain rfl := Option.some.inj H
    go_wp2
    go_ret
    exact ⟨by first | rfl | (simp; done) | (simp [*]; done), by repeat (first | exact Drawn0.refl _ | apply Drawn0.step)⟩
end Go.Proofs.Ytjgdalhdiohclaa.Q
end
/-! Part QRef05Colorings -/
section
namespace Go.Proofs.Ytjgdalhdiohclaa.Q
attribute [local go_sem] max2_int min2_int max_two min_two max_three min_three max_four min_four
set_option linter.unusedVariables false
set_option linter.unusedSimpArgs false
mutual
def mizmazeref05_Colorings.l0 : Nat → Int → Int → Int → List (List Int) → Option (Int × Bool)
 | 0, _, _, _, _ => none
 | k + 1, x1, x6, x7, x534000 => if x7 < (x534000.length : Int) then ((mizmazeref01_Letters.f x534000).bind fun t534 => ((mizmazeref05_product.f k t534).bind fun t535 => (mizmazeref05_Colorings.l1 k x1 x6 x7 t535 0 x534000))) else (some (x6, true))
def mizmazeref05_Colorings.l1 : Nat → Int → Int → Int → Int → Int → List (List Int) → Option (Int × Bool)
 | 0, _, _, _, _, _, _ => none
 | k + 1, x1, x6, x7, x8, x9, x534000 => if x9 < (x534000.length : Int) then (if 0 ≤ x7 then (if x7 < (x534000.length : Int) then ((mizmazeref05_Times.f k (rd_L1 x534000 x7) x9).bind fun t537 => ((mizmazeref05_product.f k t537).bind fun t538 => (if t538 = 0 then (none) else (mizmazeref05_Colorings.l1 k x1 x6 x7 (wrap64 (Int.tdiv x8 t538)) (wrap64 (x9 + 1)) x534000)))) else (none)) else (none)) else (if x8 = 0 then (none) else (if x6 > (wrap64 (Int.tdiv x1 x8)) then (some (0, false)) else (mizmazeref05_Colorings.l0 k x1 (wrap64 (x6 * x8)) (wrap64 (x7 + 1)) x534000)))
end
def mizmazeref05_Colorings.f (k : Nat) (l0_0 : List (List Int)) (a1 : Int) : Option (Int × Bool) := mizmazeref05_Colorings.l0 k a1 1 0 l0_0
theorem mizmazeref05_Colorings.mono_l : ∀ k, (∀ y0 y1 y2 y3, LeO (mizmazeref05_Colorings.l0 k y0 y1 y2 y3) (mizmazeref05_Colorings.l0 (k + 1) y0 y1 y2 y3)) ∧ (∀ y0 y1 y2 y3 y4 y5, LeO (mizmazeref05_Colorings.l1 k y0 y1 y2 y3 y4 y5) (mizmazeref05_Colorings.l1 (k + 1) y0 y1 y2 y3 y4 y5))
 | 0 => ⟨fun _ _ _ _ r h => by simp [mizmazeref05_Colorings.l0] at h, fun _ _ _ _ _ _ r h => by simp [mizmazeref05_Colorings.l1] at h⟩
 | k + 1 => by
  obtain ⟨ih0, ih1⟩ := mizmazeref05_Colorings.mono_l k
  refine ⟨?_, ?_⟩
  ·intro y0 y1 y2 y3
   unfold mizmazeref05_Colorings.l0
   repeat' first
   | (with_reducible exact ih0 _ _ _ _)
   | (with_reducible exact ih1 _ _ _ _ _ _)
   | (with_reducible exact mizmazeref05_Times.mono _ _ _)
   | (with_reducible exact mizmazeref05_product.mono _ _)
   | (with_reducible exact LeO.refl _)
   | (with_reducible exact LeO.none _)
   | (with_reducible refine LeO.ite ?_ ?_)
   | (with_reducible refine LeO.bind ?_ (fun _ => ?_))
   | exact ih0 _ _ _ _
   | exact ih1 _ _ _ _ _ _
   | exact mizmazeref05_Times.mono _ _ _
   | exact mizmazeref05_product.mono _ _
   | exact LeO.none _
   | refine LeO.ite ?_ ?_
   | refine LeO.bind ?_ (fun _ => ?_)
  ·intro y0 y1 y2 y3 y4 y5
   unfold mizmazeref05_Colorings.l1
   repeat' first
   | (with_reducible exact ih0 _ _ _ _)
   | (with_reducible exact ih1 _ _ _ _ _ _)
   | (with_reducible exact mizmazeref05_Times.mono _ _ _)
   | (with_reducible exact mizmazeref05_product.mono _ _)
   | (with_reducible exact LeO.refl _)
   | (with_reducible exact LeO.none _)
   | (with_reducible refine LeO.ite ?_ ?_)
   | (with_reducible refine LeO.bind ?_ (fun _ => ?_))
   | exact ih0 _ _ _ _
   | exact ih1 _ _ _ _ _ _
   | exact mizmazeref05_Times.mono _ _ _
   | exact mizmazeref05_product.mono _ _
   | exact LeO.none _
   | refine LeO.ite ?_ ?_
   | refine LeO.bind ?_ (fun _ => ?_)
theorem mizmazeref05_Colorings.mono : ∀ a0 a1 k, LeO (mizmazeref05_Colorings.f k a0 a1) (mizmazeref05_Colorings.f (k + 1) a0 a1) := by
 intro a0 a1 k
 obtain ⟨ih0, ih1⟩ := mizmazeref05_Colorings.mono_l k
 unfold mizmazeref05_Colorings.f
 repeat' first
   | (with_reducible exact ih0 _ _ _ _)
   | (with_reducible exact ih1 _ _ _ _ _ _)
   | (with_reducible exact mizmazeref05_Times.mono _ _ _)
   | (with_reducible exact mizmazeref05_product.mono _ _)
   | (with_reducible exact LeO.refl _)
   | (with_reducible exact LeO.none _)
   | (with_reducible refine LeO.ite ?_ ?_)
   | (with_reducible refine LeO.bind ?_ (fun _ => ?_))
   | exact ih0 _ _ _ _
   | exact ih1 _ _ _ _ _ _
   | exact mizmazeref05_Times.mono _ _ _
   | exact mizmazeref05_product.mono _ _
   | exact LeO.none _
   | refine LeO.ite ?_ ?_
   | refine LeO.bind ?_ (fun _ => ?_)
set_option maxHeartbeats 8000000 in
set_option maxRecDepth 100000 in
theorem mizmazeref05_Colorings.calls (k : Nat) (A0_0 : Option Addr) (c0_0 : Nat) (l0_0 : List (List Int)) (a1 : Int) (r1 : Int) (r2 : Bool) (w : World) (hr0_0 : Kd.C (Kd.slice 3 (Kd.int .i64)) w A0_0 l0_0.length l0_0) (hc0_0 : l0_0.length ≤ c0_0) (h : mizmazeref05_Colorings.f k l0_0 a1 = some (r1, r2)) :
  Calls Try.prog 48 #[.agg #[.slice A0_0 l0_0.length c0_0], .int .i64 a1] w fun e w' => e = .returned (.tuple #[.int .i64 r1, .bool r2]) ∧ Below w.heap.size w w' := by
 have hu24 := Try.underlying24
 have HR0_0 := am hr0_0
 have HC0_0 := am hc0_0
 clear hr0_0 hc0_0
 have HB := am (Below.refl w.heap.size w)
 have H : (mizmazeref05_Colorings.l0 k a1 1 0 l0_0) = some (r1, r2) := h
 clear h
 have H' := am H
 clear H
 go_enter Try.func48, Try.ntmps48
 go_wp2_with (first | ((with_reducible refine gate_dst (N := 2) rfl ?_); refine box_event ?hg (N := 2) ?hd (cs := #[.slice A0_0 l0_0.length c0_0]) (t := 24) ?hr ?_; (case hd => rfl); (case hg => rfl); (case hr => first | (go_simp; done) | (go_simp; rfl)); intro gb533 hg w3 hbox hb; have BK533 := am (hbox); have GW533 := am ((by rw [hg]; exact (below_size (bw HB.out)) : w.heap.size ≤ gb533)); have GE533 := am ((by rw [hg]; exact (below_size (bw HB.out)) : w.heap.size ≤ gb533)); replace HB := am (below_step (bw HB.out) hb); clear hb hbox hg))
 go_loopg [6, 7] k (fun kq v6 v7 w' => ∃ (x6_1 : Int) (x7_1 : Int), v6 = .int .i64 x6_1 ∧ v7 = .int .i64 x7_1 ∧ Aside0 (mizmazeref05_Colorings.l0 kq a1 x6_1 x7_1 l0_0 = some (r1, r2)) ∧ Aside0 (kq ≤ k) ∧ Aside0 (w'.heap[gb533]? = some (.cells #[(.slice A0_0 l0_0.length c0_0)] 24 (0, 0))) ∧ Aside0 (Below w.heap.size w w'))
 case atStart => exact ⟨(1), (0), zz3, zz3, H', ⟨Nat.le_refl _⟩, ⟨by (with_reducible repeat (first | refine blk_drewN ?_ _ | refine blk_drew ?_ | refine blk_alloc ?_ _)); exact BK533.out⟩, ⟨by repeat (first | (with_reducible first | exact HB.out | apply ba | apply pb | apply bd | refine below_set ?_ GE533.out) | exact HB.out)⟩⟩
 case round =>
  clear H'
  try clear p2
  obtain ⟨x6_1, x7_1, rfl, rfl, HA, HK1, BK533, HB⟩ := hrel
  cases gk with
  | zero => exact absurd HA.out (by simp [mizmazeref05_Colorings.l0])
  | succ k1 =>
   have H := HA.out
   clear HA
   simp only [mizmazeref05_Colorings.l0] at H
   by_cases c4 : x7_1 < (l0_0.length : Int)
   ·rw [if_pos c4] at H
    have c4b0 : decide (x7_1 < (l0_0.length : Int)) = true := decide_eq_true c4
    clear c4
    replace H := Option.bind_eq_some_iff.mp H
    obtain ⟨t534, A50, H⟩ := H
    replace H : ((mizmazeref05_product.f k1 t534).bind fun t535 => (mizmazeref05_Colorings.l1 k1 a1 x6_1 x7_1 t535 0 l0_0)) = some (r1, r2) := H
    have A5 := am A50
    clear A50
    replace H := Option.bind_eq_some_iff.mp H
    obtain ⟨t535, A60, H⟩ := H
    replace H : (mizmazeref05_Colorings.l1 k1 a1 x6_1 x7_1 t535 0 l0_0) = some (r1, r2) := H
    have A6 := am A60
    clear A60
    have H' := am H
    clear H
    have hcz7_0 : wr.cell? ⟨gb533, 0, none⟩ = some (.slice A0_0 l0_0.length c0_0) := (blk_cell BK533.out 0).trans rfl
    have hfz7_0 := blk_frozen BK533.out 0
    go_wp2_with (first | ((with_reducible refine gate_callee (f := 38) rfl ?_); refine goesL_ (some 18) rfl rfl Try.func38 (by kernel_rfl) rfl #[.agg #[.slice A0_0 l0_0.length c0_0]] rfl zz1 ?_; (with_reducible refine (mizmazeref01_Letters.calls _ _ l0_0 t534 _ ?side1 ?side2 A5.out).mono ?_); (case side1 => exact kc (Kd.C_below HR0_0.out HB.out)); (case side2 => exact HC0_0.out); rintro e w8 ⟨rfl, hb⟩; refine ⟨_, rfl, ?_⟩; replace BK533 := am (blk_below (g := gb533) (o := .cells #[.slice A0_0 l0_0.length c0_0] 24 (0, 0)) (kb BK533.out) hb); replace HB := am (below_step (bs HB.out) hb); (try clear hb); (try clear hb2); (try clear hk); (try clear hi)) | ((with_reducible refine gate_callee (f := 87) rfl ?_); refine goesL_ (some 19) rfl rfl Try.func87 (by kernel_rfl) rfl #[.int .i64 t534] rfl zz1 ?_; (with_reducible refine (mizmazeref05_product.calls k1 t534 t535 _ A6.out).mono ?_); rintro e w' ⟨rfl, ⟨nd, rfl⟩⟩; refine ⟨_, rfl, ?_⟩))
    go_loopg [8, 9] k1 (fun kq v8 v9 w' => ∃ (x8_2 : Int) (x9_2 : Int), v8 = .int .i64 x8_2 ∧ v9 = .int .i64 x9_2 ∧ Aside0 (mizmazeref05_Colorings.l1 kq a1 x6_1 x7_1 x8_2 x9_2 l0_0 = some (r1, r2)) ∧ Aside0 (kq ≤ k1) ∧ Aside0 (w'.heap[gb533]? = some (.cells #[(.slice A0_0 l0_0.length c0_0)] 24 (0, 0))) ∧ Aside0 (Below w.heap.size w w'))
    case atStart => exact ⟨(t535), (0), zz3, zz3, H', ⟨Nat.le_refl _⟩, ⟨by (with_reducible repeat (first | refine blk_drewN ?_ _ | refine blk_drew ?_ | refine blk_alloc ?_ _)); exact BK533.out⟩, ⟨by repeat (first | (with_reducible first | exact HB.out | apply ba | apply pb | apply bd | refine below_set ?_ GE533.out) | exact HB.out)⟩⟩
    case round =>
     clear H'
     try clear p2
     try clear c3
     try clear c4
     try clear c4b0
     try clear c8
     try clear hcz7_0
     try clear hfz7_0
     try clear p2
     obtain ⟨x8_2, x9_2, rfl, rfl, HA, HK2, BK533, HB⟩ := hrel
     cases gk with
     | zero => exact absurd HA.out (by simp [mizmazeref05_Colorings.l1])
     | succ k2 =>
      have H := HA.out
      clear HA
      simp only [mizmazeref05_Colorings.l1] at H
      by_cases c9 : x9_2 < (l0_0.length : Int)
      ·rw [if_pos c9] at H
       have c9b0 : decide (x9_2 < (l0_0.length : Int)) = true := decide_eq_true c9
       clear c9
       by_cases c10 : 0 ≤ x7_1
       ·rw [if_pos c10] at H
        have c10b0 : decide (0 ≤ x7_1) = true := decide_eq_true c10
        clear c10
        by_cases c11 : x7_1 < (l0_0.length : Int)
        ·rw [if_pos c11] at H
         have c11b0 : decide (x7_1 < (l0_0.length : Int)) = true := decide_eq_true c11
         clear c11
         replace H := Option.bind_eq_some_iff.mp H
         obtain ⟨t537, A120, H⟩ := H
         replace H : ((mizmazeref05_product.f k2 t537).bind fun t538 => (if t538 = 0 then (none) else (mizmazeref05_Colorings.l1 k2 a1 x6_1 x7_1 (wrap64 (Int.tdiv x8_2 t538)) (wrap64 (x9_2 + 1)) l0_0))) = some (r1, r2) := H
         have A12 := am A120
         clear A120
         replace H := Option.bind_eq_some_iff.mp H
         obtain ⟨t538, A130, H⟩ := H
         replace H : (if t538 = 0 then (none) else (mizmazeref05_Colorings.l1 k2 a1 x6_1 x7_1 (wrap64 (Int.tdiv x8_2 t538)) (wrap64 (x9_2 + 1)) l0_0)) = some (r1, r2) := H
         have A13 := am A130
         clear A130
         by_cases c14 : t538 = 0
         ·rw [if_pos c14] at H
          exact absurd H (by simp)
         ·rw [if_neg c14] at H
          have c14b0 : (t538 == 0) = false := beq_eq_false_iff_ne.mpr c14
          have c14b1 : (t538 != 0) = true := bne_iff_ne.mpr c14
          have H' := am H
          clear H
          have hcz15_0 : wr.cell? ⟨gb533, 0, none⟩ = some (.slice A0_0 l0_0.length c0_0) := (blk_cell BK533.out 0).trans rfl
          have hfz15_0 := blk_frozen BK533.out 0
          have p536 : 0 ≤ (x7_1 : Int) := od zz2
          have q536 : x7_1 < (l0_0.length : Int) := od zz2
          obtain ⟨ad536, A536_0, c536_0, e536, hx536_0, hl536_0, hi536_0⟩ := at_L1 HR0_0.out x7_1 p536 q536
          cases e536
          replace hx536_0 := (HB.out.cell (World.block_lt_of_cell? w _ hx536_0)).trans hx536_0
          have HR536_0 := am hi536_0
          have HC536_0 := am hl536_0
          clear hi536_0 hl536_0
          replace p536 := eq_true p536
          replace q536 := eq_true q536
          go_wp2_with (first | ((with_reducible refine gate_callee (f := 84) rfl ?_); refine goesL_ (some 34) rfl rfl Try.func84 (by kernel_rfl) rfl #[.slice A536_0 (rd_L1 l0_0 x7_1).length c536_0, .int .i64 x9_2] rfl zz1 ?_; (with_reducible refine (mizmazeref05_Times.calls k2 _ _ (rd_L1 l0_0 x7_1) x9_2 t537 _ ?side1 ?side2 A12.out).mono ?_); (case side1 => exact kc (Kd.C_below HR536_0.out HB.out)); (case side2 => exact HC536_0.out); rintro e w' ⟨rfl, ⟨nd, rfl⟩⟩; refine ⟨_, rfl, ?_⟩) | ((with_reducible refine gate_callee (f := 87) rfl ?_); refine goesL_ (some 35) rfl rfl Try.func87 (by kernel_rfl) rfl #[.int .i64 t537] rfl zz1 ?_; (with_reducible refine (mizmazeref05_product.calls k2 t537 t538 _ A13.out).mono ?_); rintro e w' ⟨rfl, ⟨nd, rfl⟩⟩; refine ⟨_, rfl, ?_⟩))
          go_roundg k2
          case measure => have := HK1.out; have := HK2.out; omega
          case rel => exact ⟨(wrap64 (Int.tdiv x8_2 t538)), (wrap64 (x9_2 + 1)), zz3, zz3, H', ⟨by have := HK1.out; have := HK2.out; omega⟩, ⟨by (with_reducible repeat (first | refine blk_drewN ?_ _ | refine blk_drew ?_ | refine blk_alloc ?_ _)); exact BK533.out⟩, ⟨by repeat (first | (with_reducible first | exact HB.out | apply ba | apply pb | apply bd | refine below_set ?_ GE533.out) | exact HB.out)⟩⟩
        ·rw [if_neg c11] at H
         exact absurd H (by simp)
       ·rw [if_neg c10] at H
        exact absurd H (by simp)
      ·rw [if_neg c9] at H
       have c9b0 : decide (x9_2 < (l0_0.length : Int)) = false := decide_eq_false c9
       clear c9
       by_cases c16 : x8_2 = 0
       ·rw [if_pos c16] at H
        exact absurd H (by simp)
       ·rw [if_neg c16] at H
        have c16b0 : (x8_2 == 0) = false := beq_eq_false_iff_ne.mpr c16
        have c16b1 : (x8_2 != 0) = true := bne_iff_ne.mpr c16
        by_cases c17 : x6_1 > (wrap64 (Int.tdiv a1 x8_2))
        ·rw [if_pos c17] at H
         have c17b0 : decide ((wrap64 (Int.tdiv a1 x8_2)) < x6_1) = true := decide_eq_true c17
         clear c17
         simp only [Option.some.injEq, Prod.mk.injEq] at H
         obtain ⟨rfl, rfl⟩ := H
         have hcz18_0 : wr.cell? ⟨gb533, 0, none⟩ = some (.slice A0_0 l0_0.length c0_0) := (blk_cell BK533.out 0).trans rfl
         have hfz18_0 := blk_frozen BK533.out 0
         go_wp2
         go_ret2
         exact ⟨by first | rfl | (simp [errW_none, errW_some] <;> rfl) | (simp [*, errW_none, errW_some] <;> rfl), by repeat (first | (with_reducible first | exact HB.out | apply ba | apply pb | apply bd | refine below_set ?_ GE533.out) | exact HB.out)⟩
        ·rw [if_neg c17] at H
         have c17b0 : decide ((wrap64 (Int.tdiv a1 x8_2)) < x6_1) = false := decide_eq_false c17
         clear c17
         have H' := am H
         clear H
         have hcz19_0 : wr.cell? ⟨gb533, 0, none⟩ = some (.slice A0_0 l0_0.length c0_0) := (blk_cell BK533.out 0).trans rfl
         have hfz19_0 := blk_frozen BK533.out 0
         go_wp2
         go_roundg k2
         case measure => have := HK1.out; have := HK2.out; omega
         case rel => exact ⟨(wrap64 (x6_1 * x8_2)), (wrap64 (x7_1 + 1)), zz3, zz3, H', ⟨by have := HK1.out; have := HK2.out; omega⟩, ⟨by (with_reducible repeat (first | refine blk_drewN ?_ _ | refine blk_drew ?_ | refine blk_alloc ?_ _)); exact BK533.out⟩, ⟨by repeat (first | (with_reducible first | exact HB.out | apply ba | apply pb | apply bd | refine below_set ?_ GE533.out) | exact HB.out)⟩⟩
   ·rw [if_neg c4] at H
    have c4b0 : decide (x7_1 < (l0_0.length : Int)) = false := decide_eq_false c4
    clear c4
    simp only [Option.some.injEq, Prod.mk.injEq] at H
    obtain ⟨rfl, rfl⟩ := H
    have hcz20_0 : wr.cell? ⟨gb533, 0, none⟩ = some (.slice A0_0 l0_0.length c0_0) := (blk_cell BK533.out 0).trans rfl
    have hfz20_0 := blk_frozen BK533.out 0
    go_wp2
    go_ret2
    exact ⟨by first | rfl | (simp [errW_none, errW_some] <;> rfl) | (simp [*, errW_none, errW_some] <;> rfl), by repeat (first | (with_reducible first | exact HB.out | apply ba | apply pb | apply bd | refine below_set ?_ GE533.out) | exact HB.out)⟩
end Go.Proofs.Ytjgdalhdiohclaa.Q
end
/-! Part QRef05Perms -/
section
namespace Go.Proofs.Ytjgdalhdiohclaa.Q
attribute [local go_sem] max2_int min2_int max_two min_two max_three min_three max_four min_four
set_option linter.unusedVariables false
set_option linter.unusedSimpArgs false
end Go.Proofs.Ytjgdalhdiohclaa.Q
end
/-! Part QRef05Colored -/
section
namespace Go.Proofs.Ytjgdalhdiohclaa.Q
attribute [local go_sem] max2_int min2_int max_two min_two max_three min_three max_four min_four
set_option linter.unusedVariables false
set_option linter.unusedSimpArgs false
end Go.Proofs.Ytjgdalhdiohclaa.Q
end
/-! Part QRef05Same -/
section
namespace Go.Proofs.Ytjgdalhdiohclaa.Q
attribute [local go_sem] max2_int min2_int max_two min_two max_three min_three max_four min_four
set_option linter.unusedVariables false
set_option linter.unusedSimpArgs false
end Go.Proofs.Ytjgdalhdiohclaa.Q
end
