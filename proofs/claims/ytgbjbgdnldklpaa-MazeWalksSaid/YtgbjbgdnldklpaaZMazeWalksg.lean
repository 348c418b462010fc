/- The law MazeWalks holds: Connected, Walk and Visits answer as the reference does, or with the documented error, for any maze, room and word; no bound on the arguments beyond their types'. (text 7 of 23) -/
import Derived.Test.YtgbjbgdnldklpaaZMazeWalksf
/-! Part QRef10Valid -/
section
-- Written by xprint.py, a program of this session's, over the kit's print. Lean checks it.
namespace Go.Proofs.Ytgbjbgdnldklpaa.Q
open Go.RowKit Go.Proofs.YtgbjbgdnldklpaaW.PrintWords Go.Proofs.YtgbjbgdnldklpaaW.PrintLast Go.Proofs.YtgbjbgdnldklpaaW.PrintMore
attribute [local go_sem] max2_int min2_int max_two min_two max_three min_three max_four min_four
set_option linter.unusedVariables false
set_option linter.unusedSimpArgs false

attribute [local go_sem high] eqA44
/-! ### mizmazeref10_Valid: function 21 -/
mutual
def mizmazeref10_Valid.j0 : Nat → Int → Bool → List (List (S44)) → Option (Bool)
  | 0, _, _, _ => none
  | k + 1, x3, x17, x184000 => if x17 = true then (some false) else (if 0 < (x184000.length : Int) then (if ((rd_L4 x184000 0).length : Int) < 1 then (mizmazeref10_Valid.j1 k x3 ((rd_L4 x184000 0).length : Int) true x184000) else (mizmazeref10_Valid.j1 k x3 ((rd_L4 x184000 0).length : Int) (decide (((rd_L4 x184000 0).length : Int) > 6)) x184000)) else (none))
def mizmazeref10_Valid.j1 : Nat → Int → Int → Bool → List (List (S44)) → Option (Bool)
  | 0, _, _, _, _ => none
  | k + 1, x3, x4, x28, x184000 => if x28 = true then (some false) else (mizmazeref10_Valid.l0 k x3 x4 0 x184000)
def mizmazeref10_Valid.l0 : Nat → Int → Int → Int → List (List (S44)) → Option (Bool)
  | 0, _, _, _, _ => none
  | k + 1, x3, x4, x5, x184000 => if x5 < x3 then (if 0 ≤ x5 then (if x5 < (x184000.length : Int) then (if ((rd_L4 x184000 x5).length : Int) = x4 then (mizmazeref10_Valid.l0 k x3 x4 (wrap64 (x5 + 1)) x184000) else (some false)) else (none)) else (none)) else (mizmazeref10_Valid.l1 k x3 x4 0 x184000)
def mizmazeref10_Valid.l1 : Nat → Int → Int → Int → List (List (S44)) → Option (Bool)
  | 0, _, _, _, _ => none
  | k + 1, x3, x4, x6, x184000 => if x6 < x3 then (mizmazeref10_Valid.l2 k x3 x4 x6 0 x184000) else (some true)
def mizmazeref10_Valid.l2 : Nat → Int → Int → Int → Int → List (List (S44)) → Option (Bool)
  | 0, _, _, _, _, _ => none
  | k + 1, x3, x4, x6, x7, x184000 => if x7 < x4 then (if 0 ≤ x6 then (if x6 < (x184000.length : Int) then (if 0 ≤ x7 then (if x7 < ((rd_L4 x184000 x6).length : Int) then (if ((rd_T44 (rd_L4 x184000 x6) x7).f0) < 0 then (some false) else (if ((rd_T44 (rd_L4 x184000 x6) x7).f0) ≥ x3 then (some false) else (if ((rd_T44 (rd_L4 x184000 x6) x7).f1) < 0 then (some false) else (if ((rd_T44 (rd_L4 x184000 x6) x7).f1) ≥ x4 then (some false) else (if 0 ≤ ((rd_T44 (rd_L4 x184000 x6) x7).f0) then (if ((rd_T44 (rd_L4 x184000 x6) x7).f0) < (x184000.length : Int) then (if 0 ≤ ((rd_T44 (rd_L4 x184000 x6) x7).f1) then (if ((rd_T44 (rd_L4 x184000 x6) x7).f1) < ((rd_L4 x184000 ((rd_T44 (rd_L4 x184000 x6) x7).f0)).length : Int) then (if (!(((rd_T44 (rd_L4 x184000 ((rd_T44 (rd_L4 x184000 x6) x7).f0)) ((rd_T44 (rd_L4 x184000 x6) x7).f1)).f0) == x6) || (!(((rd_T44 (rd_L4 x184000 ((rd_T44 (rd_L4 x184000 x6) x7).f0)) ((rd_T44 (rd_L4 x184000 x6) x7).f1)).f1) == x7))) = true then (some false) else (mizmazeref10_Valid.l2 k x3 x4 x6 (wrap64 (x7 + 1)) x184000)) else (none)) else (none)) else (none)) else (none)))))) else (none)) else (none)) else (none)) else (none)) else (mizmazeref10_Valid.l1 k x3 x4 (wrap64 (x6 + 1)) x184000)
end
def mizmazeref10_Valid.f (k : Nat) (l0_0 : List (List (S44))) : Option (Bool) := if (l0_0.length : Int) < 1 then (mizmazeref10_Valid.j0 k (l0_0.length : Int) true l0_0) else (mizmazeref10_Valid.j0 k (l0_0.length : Int) (decide ((l0_0.length : Int) > 60)) l0_0)
theorem mizmazeref10_Valid.mono_l : ∀ k, (∀ y0 y1 y2, LeO (mizmazeref10_Valid.j0 k y0 y1 y2) (mizmazeref10_Valid.j0 (k + 1) y0 y1 y2)) ∧ (∀ y0 y1 y2 y3, LeO (mizmazeref10_Valid.j1 k y0 y1 y2 y3) (mizmazeref10_Valid.j1 (k + 1) y0 y1 y2 y3)) ∧ (∀ y0 y1 y2 y3, LeO (mizmazeref10_Valid.l0 k y0 y1 y2 y3) (mizmazeref10_Valid.l0 (k + 1) y0 y1 y2 y3)) ∧ (∀ y0 y1 y2 y3, LeO (mizmazeref10_Valid.l1 k y0 y1 y2 y3) (mizmazeref10_Valid.l1 (k + 1) y0 y1 y2 y3)) ∧ (∀ y0 y1 y2 y3 y4, LeO (mizmazeref10_Valid.l2 k y0 y1 y2 y3 y4) (mizmazeref10_Valid.l2 (k + 1) y0 y1 y2 y3 y4))
  | 0 => ⟨fun _ _ _ r h => by simp [mizmazeref10_Valid.j0] at h, fun _ _ _ _ r h => by simp [mizmazeref10_Valid.j1] at h, fun _ _ _ _ r h => by simp [mizmazeref10_Valid.l0] at h, fun _ _ _ _ r h => by simp [mizmazeref10_Valid.l1] at h, fun _ _ _ _ _ r h => by simp [mizmazeref10_Valid.l2] at h⟩
  | k + 1 => by
    obtain ⟨ih0, ih1, ih2, ih3, ih4⟩ := mizmazeref10_Valid.mono_l k
    refine ⟨?_, ?_, ?_, ?_, ?_⟩
    · intro y0 y1 y2
      unfold mizmazeref10_Valid.j0
      repeat' first
      | (with_reducible exact ih0 _ _ _)
      | (with_reducible exact ih1 _ _ _ _)
      | (with_reducible exact ih2 _ _ _ _)
      | (with_reducible exact ih3 _ _ _ _)
      | (with_reducible exact ih4 _ _ _ _ _)
      | (with_reducible exact LeO.refl _)
      | (with_reducible exact LeO.none _)
      | (with_reducible refine LeO.ite ?_ ?_)
      | (with_reducible refine LeO.bind ?_ (fun _ => ?_))
      | exact ih0 _ _ _
      | exact ih1 _ _ _ _
      | exact ih2 _ _ _ _
      | exact ih3 _ _ _ _
      | exact ih4 _ _ _ _ _
      | exact LeO.none _
      | refine LeO.ite ?_ ?_
      | refine LeO.bind ?_ (fun _ => ?_)
    · intro y0 y1 y2 y3
      unfold mizmazeref10_Valid.j1
      repeat' first
      | (with_reducible exact ih0 _ _ _)
      | (with_reducible exact ih1 _ _ _ _)
      | (with_reducible exact ih2 _ _ _ _)
      | (with_reducible exact ih3 _ _ _ _)
      | (with_reducible exact ih4 _ _ _ _ _)
      | (with_reducible exact LeO.refl _)
      | (with_reducible exact LeO.none _)
      | (with_reducible refine LeO.ite ?_ ?_)
      | (with_reducible refine LeO.bind ?_ (fun _ => ?_))
      | exact ih0 _ _ _
      | exact ih1 _ _ _ _
      | exact ih2 _ _ _ _
      | exact ih3 _ _ _ _
      | exact ih4 _ _ _ _ _
      | exact LeO.none _
      | refine LeO.ite ?_ ?_
      | refine LeO.bind ?_ (fun _ => ?_)
    · intro y0 y1 y2 y3
      unfold mizmazeref10_Valid.l0
      repeat' first
      | (with_reducible exact ih0 _ _ _)
      | (with_reducible exact ih1 _ _ _ _)
      | (with_reducible exact ih2 _ _ _ _)
      | (with_reducible exact ih3 _ _ _ _)
      | (with_reducible exact ih4 _ _ _ _ _)
      | (with_reducible exact LeO.refl _)
      | (with_reducible exact LeO.none _)
      | (with_reducible refine LeO.ite ?_ ?_)
      | (with_reducible refine LeO.bind ?_ (fun _ => ?_))
      | exact ih0 _ _ _
      | exact ih1 _ _ _ _
      | exact ih2 _ _ _ _
      | exact ih3 _ _ _ _
      | exact ih4 _ _ _ _ _
      | exact LeO.none _
      | refine LeO.ite ?_ ?_
      | refine LeO.bind ?_ (fun _ => ?_)
    · intro y0 y1 y2 y3
      unfold mizmazeref10_Valid.l1
      repeat' first
      | (with_reducible exact ih0 _ _ _)
      | (with_reducible exact ih1 _ _ _ _)
      | (with_reducible exact ih2 _ _ _ _)
      | (with_reducible exact ih3 _ _ _ _)
      | (with_reducible exact ih4 _ _ _ _ _)
      | (with_reducible exact LeO.refl _)
      | (with_reducible exact LeO.none _)
      | (with_reducible refine LeO.ite ?_ ?_)
      | (with_reducible refine LeO.bind ?_ (fun _ => ?_))
      | exact ih0 _ _ _
      | exact ih1 _ _ _ _
      | exact ih2 _ _ _ _
      | exact ih3 _ _ _ _
      | exact ih4 _ _ _ _ _
      | exact LeO.none _
      | refine LeO.ite ?_ ?_
      | refine LeO.bind ?_ (fun _ => ?_)
    · intro y0 y1 y2 y3 y4
      unfold mizmazeref10_Valid.l2
      repeat' first
      | (with_reducible exact ih0 _ _ _)
      | (with_reducible exact ih1 _ _ _ _)
      | (with_reducible exact ih2 _ _ _ _)
      | (with_reducible exact ih3 _ _ _ _)
      | (with_reducible exact ih4 _ _ _ _ _)
      | (with_reducible exact LeO.refl _)
      | (with_reducible exact LeO.none _)
      | (with_reducible refine LeO.ite ?_ ?_)
      | (with_reducible refine LeO.bind ?_ (fun _ => ?_))
      | exact ih0 _ _ _
      | exact ih1 _ _ _ _
      | exact ih2 _ _ _ _
      | exact ih3 _ _ _ _
      | exact ih4 _ _ _ _ _
      | exact LeO.none _
      | refine LeO.ite ?_ ?_
      | refine LeO.bind ?_ (fun _ => ?_)
theorem mizmazeref10_Valid.mono : ∀ a0 k, LeO (mizmazeref10_Valid.f k a0) (mizmazeref10_Valid.f (k + 1) a0) := by
  intro a0 k
  obtain ⟨ih0, ih1, ih2, ih3, ih4⟩ := mizmazeref10_Valid.mono_l k
  unfold mizmazeref10_Valid.f
  repeat' first
      | (with_reducible exact ih0 _ _ _)
      | (with_reducible exact ih1 _ _ _ _)
      | (with_reducible exact ih2 _ _ _ _)
      | (with_reducible exact ih3 _ _ _ _)
      | (with_reducible exact ih4 _ _ _ _ _)
      | (with_reducible exact LeO.refl _)
      | (with_reducible exact LeO.none _)
      | (with_reducible refine LeO.ite ?_ ?_)
      | (with_reducible refine LeO.bind ?_ (fun _ => ?_))
      | exact ih0 _ _ _
      | exact ih1 _ _ _ _
      | exact ih2 _ _ _ _
      | exact ih3 _ _ _ _
      | exact ih4 _ _ _ _ _
      | exact LeO.none _
      | refine LeO.ite ?_ ?_
      | refine LeO.bind ?_ (fun _ => ?_)
set_option maxHeartbeats 8000000 in
set_option maxRecDepth 100000 in
theorem mizmazeref10_Valid.calls (k : Nat) (A0_0 : Option Addr) (c0_0 : Nat) (l0_0 : List (List (S44))) (r : Bool) (w : World) (hr0_0 : Kd.C (Kd.slice 44 k44) w A0_0 l0_0.length l0_0) (hc0_0 : l0_0.length ≤ c0_0) (h : mizmazeref10_Valid.f k l0_0 = some r) :
    Calls Try.prog 21 #[.agg #[.slice A0_0 l0_0.length c0_0]] w fun e w' => e = .returned (.bool r) ∧ Below w.heap.size w w' := by
  have hu38 := Try.underlying38
  have hu44 := Try.underlying44
  have HR0_0 := Aside0.mk hr0_0
  have HC0_0 := Aside0.mk hc0_0
  clear hr0_0 hc0_0
  have HB := Aside0.mk (Below.refl w.heap.size w)
  have H : (if (l0_0.length : Int) < 1 then (mizmazeref10_Valid.j0 k (l0_0.length : Int) true l0_0) else (mizmazeref10_Valid.j0 k (l0_0.length : Int) (decide ((l0_0.length : Int) > 60)) l0_0)) = some r := h
  clear h
  have HC2 := Aside0.mk H
  clear H
  go_enter Try.func21, Try.ntmps21
  go_upto_region 2 with (first | ((with_reducible refine gate_dst (N := 1) rfl ?_); refine box_event ?hg (N := 1) ?hd (cs := #[.slice A0_0 l0_0.length c0_0]) (t := 38) ?hr ?_; (case hd => rfl); (case hg => rfl); (case hr => first | (go_simp; done) | (go_simp; rfl)); intro gb183 hg w3 hbox hb; have n0_ := Aside0.mk (below_step (by repeat (first | (with_reducible first | exact HB.out | apply below_alloc | apply pw_below_drewN | apply below_drew1) | exact HB.out)) hb); have n1_ := Aside0.mk (hbox); have n2_ := Aside0.mk ((by rw [hg]; exact (below_size (by repeat (first | (with_reducible first | exact HB.out | apply below_alloc | apply pw_below_drewN | apply below_drew1) | exact HB.out))) : w.heap.size ≤ gb183)); have n3_ := Aside0.mk ((by rw [hg]; exact (below_size (by repeat (first | (with_reducible first | exact HB.out | apply below_alloc | apply pw_below_drewN | apply below_drew1) | exact HB.out))) : w.heap.size ≤ gb183)); clear HB; have HB := n0_; have BK183 := n1_; have GW183 := n2_; have GE183 := n3_; clear n0_ n1_ n2_ n3_; clear hb hbox hg; have hcz4_0 : w3.cell? ⟨gb183, 0, none⟩ = some (.slice A0_0 l0_0.length c0_0) := (blk_cell BK183.out 0).trans rfl; have hfz4_0 := blk_frozen BK183.out 0))
  repeat (go_quiet (first | ((with_reducible refine gate_dst (N := 1) rfl ?_); refine box_event ?hg (N := 1) ?hd (cs := #[.slice A0_0 l0_0.length c0_0]) (t := 38) ?hr ?_; (case hd => rfl); (case hg => rfl); (case hr => first | (go_simp; done) | (go_simp; rfl)); intro gb183 hg w3 hbox hb; have n0_ := Aside0.mk (below_step (by repeat (first | (with_reducible first | exact HB.out | apply below_alloc | apply pw_below_drewN | apply below_drew1) | exact HB.out)) hb); have n1_ := Aside0.mk (hbox); have n2_ := Aside0.mk ((by rw [hg]; exact (below_size (by repeat (first | (with_reducible first | exact HB.out | apply below_alloc | apply pw_below_drewN | apply below_drew1) | exact HB.out))) : w.heap.size ≤ gb183)); have n3_ := Aside0.mk ((by rw [hg]; exact (below_size (by repeat (first | (with_reducible first | exact HB.out | apply below_alloc | apply pw_below_drewN | apply below_drew1) | exact HB.out))) : w.heap.size ≤ gb183)); clear HB; have HB := n0_; have BK183 := n1_; have GW183 := n2_; have GE183 := n3_; clear n0_ n1_ n2_ n3_; clear hb hbox hg; have hcz4_0 : w3.cell? ⟨gb183, 0, none⟩ = some (.slice A0_0 l0_0.length c0_0) := (blk_cell BK183.out 0).trans rfl; have hfz4_0 := blk_frozen BK183.out 0)); go_upto_region 2 with (first | ((with_reducible refine gate_dst (N := 1) rfl ?_); refine box_event ?hg (N := 1) ?hd (cs := #[.slice A0_0 l0_0.length c0_0]) (t := 38) ?hr ?_; (case hd => rfl); (case hg => rfl); (case hr => first | (go_simp; done) | (go_simp; rfl)); intro gb183 hg w3 hbox hb; have n0_ := Aside0.mk (below_step (by repeat (first | (with_reducible first | exact HB.out | apply below_alloc | apply pw_below_drewN | apply below_drew1) | exact HB.out)) hb); have n1_ := Aside0.mk (hbox); have n2_ := Aside0.mk ((by rw [hg]; exact (below_size (by repeat (first | (with_reducible first | exact HB.out | apply below_alloc | apply pw_below_drewN | apply below_drew1) | exact HB.out))) : w.heap.size ≤ gb183)); have n3_ := Aside0.mk ((by rw [hg]; exact (below_size (by repeat (first | (with_reducible first | exact HB.out | apply below_alloc | apply pw_below_drewN | apply below_drew1) | exact HB.out))) : w.heap.size ≤ gb183)); clear HB; have HB := n0_; have BK183 := n1_; have GW183 := n2_; have GE183 := n3_; clear n0_ n1_ n2_ n3_; clear hb hbox hg; have hcz4_0 : w3.cell? ⟨gb183, 0, none⟩ = some (.slice A0_0 l0_0.length c0_0) := (blk_cell BK183.out 0).trans rfl; have hfz4_0 := blk_frozen BK183.out 0)))
  (try simp only [Act.put, List.setIfInBounds_toArray, List.set_cons_zero, List.set_cons_succ])
  go_cut [17] (fun v17 wc => ∃ (kq : Nat) (x17_1 : Bool), v17 = .bool x17_1 ∧ Aside0 (mizmazeref10_Valid.j0 kq (l0_0.length : Int) x17_1 l0_0 = some r) ∧ Aside0 (kq ≤ k) ∧ Aside0 (wc.heap[gb183]? = some (.cells #[(.slice A0_0 l0_0.length c0_0)] 38 (0, 0))) ∧ Aside0 (Below w.heap.size w wc))
  case first =>
    have H := HC2.out
    clear HC2
    by_cases c5 : (l0_0.length : Int) < 1
    · rw [if_pos c5] at H
      have c5b0 : decide ((l0_0.length : Int) < 1) = true := decide_eq_true c5
      have c5b1 : decide (l0_0.length < 1) = true := decide_eq_true (by omega)
      clear c5
      (first | rw [c5b0] | (simp only [i64_w, i32_w]; rw [c5b0]) | skip)
      have H' := Aside0.mk H
      clear H
      go_wp2
      repeat (go_quiet (fail); try go_wp2)
      go_meet
      case rel => exact ⟨_, (true), (by first | rfl | (simp; done) | (simp [*]; done)), H', ⟨by first | omega | exact Nat.le_refl _⟩, ⟨by (with_reducible repeat (first | refine blk_drewN ?_ _ | refine blk_drew ?_ | refine blk_alloc ?_ _)); exact BK183.out⟩, ⟨by repeat (first | (with_reducible first | exact HB.out | apply below_alloc | apply pw_below_drewN | apply below_drew1 | refine below_set ?_ GE183.out) | exact HB.out)⟩⟩
    · rw [if_neg c5] at H
      have c5b0 : decide ((l0_0.length : Int) < 1) = false := decide_eq_false c5
      have c5b1 : decide (l0_0.length < 1) = false := decide_eq_false (by omega)
      clear c5
      (first | rw [c5b0] | (simp only [i64_w, i32_w]; rw [c5b0]) | skip)
      have H' := Aside0.mk H
      clear H
      go_wp2
      repeat (go_quiet (fail); try go_wp2)
      go_meet
      case rel => exact ⟨_, (decide ((l0_0.length : Int) > 60)), (by first | rfl | (simp; done) | (simp [*]; done)), H', ⟨by first | omega | exact Nat.le_refl _⟩, ⟨by (with_reducible repeat (first | refine blk_drewN ?_ _ | refine blk_drew ?_ | refine blk_alloc ?_ _)); exact BK183.out⟩, ⟨by repeat (first | (with_reducible first | exact HB.out | apply below_alloc | apply pw_below_drewN | apply below_drew1 | refine below_set ?_ GE183.out) | exact HB.out)⟩⟩
  case rest =>
    clear HC2
    try clear c2
    try clear p2
    try clear c5
    try clear c5b0
    try clear c5b1
    try clear hcz4_0
    try clear hfz4_0
    obtain ⟨kq, x17_1, rfl, HA, HJ1, BK183, HB⟩ := hcut
    cases kq with
    | zero => exact absurd HA.out (by simp [mizmazeref10_Valid.j0])
    | succ kj1 =>
      have H := HA.out
      clear HA
      simp only [mizmazeref10_Valid.j0] at H
      by_cases c6 : x17_1 = true
      · subst c6
        have H1 : (some false) = some r := by rw [if_pos rfl] at H; exact H
        clear H
        have H := H1
        clear H1
        obtain rfl := Option.some.inj H
        go_wp2
        repeat (go_quiet (fail); try go_wp2)
        go_ret
        exact ⟨by first | rfl | (simp [errW_none, errW_some] <;> rfl) | (simp [*, errW_none, errW_some] <;> rfl), by repeat (first | (with_reducible first | exact HB.out | apply below_alloc | apply pw_below_drewN | apply below_drew1 | refine below_set ?_ GE183.out) | exact HB.out)⟩
      · replace c6 := Bool.eq_false_iff.mpr c6
        subst c6
        have H1 : (if 0 < (l0_0.length : Int) then (if ((rd_L4 l0_0 0).length : Int) < 1 then (mizmazeref10_Valid.j1 kj1 (l0_0.length : Int) ((rd_L4 l0_0 0).length : Int) true l0_0) else (mizmazeref10_Valid.j1 kj1 (l0_0.length : Int) ((rd_L4 l0_0 0).length : Int) (decide (((rd_L4 l0_0 0).length : Int) > 6)) l0_0)) else (none)) = some r := by rw [if_neg (show ¬ (false = true) by decide)] at H; exact H
        clear H
        have H := H1
        clear H1
        by_cases c7 : 0 < (l0_0.length : Int)
        · rw [if_pos c7] at H
          have c7b0 : decide (0 < (l0_0.length : Int)) = true := decide_eq_true c7
          have c7b1 : decide (0 < l0_0.length) = true := decide_eq_true (by omega)
          clear c7
          have HC8 := Aside0.mk H
          clear H
          have hcz9_0 : wc.cell? ⟨gb183, 0, none⟩ = some (.slice A0_0 l0_0.length c0_0) := (blk_cell BK183.out 0).trans rfl
          have hfz9_0 := blk_frozen BK183.out 0
          have p184 : 0 ≤ (0 : Int) := (by omega)
          have q184 : 0 < (l0_0.length : Int) := of_decide_eq_true (by first | (with_reducible assumption) | assumption)
          obtain ⟨ad184, A184_0, c184_0, e184, hx184_0, hl184_0, hi184_0⟩ := at_L4 HR0_0.out 0 p184 q184
          cases e184
          have qi184 : (0 < l0_0.length) = True := eq_true (by omega)
          (try rw [show ((0 : Int)).toNat = 0 from rfl] at hx184_0)
          (try rw [Addr.add_zero'] at hx184_0)
          replace hx184_0 := (HB.out.cell (World.block_lt_of_cell? w _ hx184_0)).trans hx184_0
          have HR184_0 := Aside0.mk hi184_0
          have HC184_0 := Aside0.mk hl184_0
          clear hi184_0 hl184_0
          replace p184 := eq_true p184
          replace q184 := eq_true q184
          go_upto_region 5 with (fail)
          repeat (go_quiet (fail); go_upto_region 5 with (fail))
          go_cut [28] (fun v28 wc => ∃ (kq : Nat) (x28_7 : Bool), v28 = .bool x28_7 ∧ Aside0 (mizmazeref10_Valid.j1 kq (l0_0.length : Int) ((rd_L4 l0_0 0).length : Int) x28_7 l0_0 = some r) ∧ Aside0 (kq ≤ kj1) ∧ Aside0 (wc.heap[gb183]? = some (.cells #[(.slice (some ad184) l0_0.length c0_0)] 38 (0, 0))) ∧ Aside0 (Below w.heap.size w wc))
          case first =>
            have H := HC8.out
            clear HC8
            by_cases c10 : ((rd_L4 l0_0 0).length : Int) < 1
            · rw [if_pos c10] at H
              have c10b0 : decide (((rd_L4 l0_0 0).length : Int) < 1) = true := decide_eq_true c10
              have c10b1 : decide ((rd_L4 l0_0 0).length < 1) = true := decide_eq_true (by omega)
              clear c10
              (first | rw [c10b0] | (simp only [i64_w, i32_w]; rw [c10b0]) | skip)
              have H' := Aside0.mk H
              clear H
              go_wp2
              repeat (go_quiet (fail); try go_wp2)
              go_meet
              case rel => exact ⟨_, (true), (by first | rfl | (simp; done) | (simp [*]; done)), H', ⟨by have := HJ1.out; first | omega | exact Nat.le_refl _⟩, ⟨by (with_reducible repeat (first | refine blk_drewN ?_ _ | refine blk_drew ?_ | refine blk_alloc ?_ _)); exact BK183.out⟩, ⟨by repeat (first | (with_reducible first | exact HB.out | apply below_alloc | apply pw_below_drewN | apply below_drew1 | refine below_set ?_ GE183.out) | exact HB.out)⟩⟩
            · rw [if_neg c10] at H
              have c10b0 : decide (((rd_L4 l0_0 0).length : Int) < 1) = false := decide_eq_false c10
              have c10b1 : decide ((rd_L4 l0_0 0).length < 1) = false := decide_eq_false (by omega)
              clear c10
              (first | rw [c10b0] | (simp only [i64_w, i32_w]; rw [c10b0]) | skip)
              have H' := Aside0.mk H
              clear H
              go_wp2
              repeat (go_quiet (fail); try go_wp2)
              go_meet
              case rel => exact ⟨_, (decide (((rd_L4 l0_0 0).length : Int) > 6)), (by first | rfl | (simp; done) | (simp [*]; done)), H', ⟨by have := HJ1.out; first | omega | exact Nat.le_refl _⟩, ⟨by (with_reducible repeat (first | refine blk_drewN ?_ _ | refine blk_drew ?_ | refine blk_alloc ?_ _)); exact BK183.out⟩, ⟨by repeat (first | (with_reducible first | exact HB.out | apply below_alloc | apply pw_below_drewN | apply below_drew1 | refine below_set ?_ GE183.out) | exact HB.out)⟩⟩
          case rest =>
            clear HC8
            try clear c1
            try clear p1
            try clear q1
            try clear hx1
            try clear qi1
            try clear c2
            try clear p2
            try clear c5
            try clear c5b0
            try clear c5b1
            try clear c6
            try clear c7
            try clear c7b0
            try clear c7b1
            try clear c10
            try clear c10b0
            try clear c10b1
            try clear hcz4_0
            try clear hcz9_0
            try clear hfz4_0
            try clear hfz9_0
            try clear hx184_0
            try clear p184
            try clear p2
            try clear q184
            obtain ⟨kq, x28_7, rfl, HA, HJ7, BK183, HB⟩ := hcut
            cases kq with
            | zero => exact absurd HA.out (by simp [mizmazeref10_Valid.j1])
            | succ kj7 =>
              have H := HA.out
              clear HA
              simp only [mizmazeref10_Valid.j1] at H
              by_cases c11 : x28_7 = true
              · subst c11
                have H1 : (some false) = some r := by rw [if_pos rfl] at H; exact H
                clear H
                have H := H1
                clear H1
                obtain rfl := Option.some.inj H
                go_wp2
                repeat (go_quiet (fail); try go_wp2)
                go_ret
                exact ⟨by first | rfl | (simp [errW_none, errW_some] <;> rfl) | (simp [*, errW_none, errW_some] <;> rfl), by repeat (first | (with_reducible first | exact HB.out | apply below_alloc | apply pw_below_drewN | apply below_drew1 | refine below_set ?_ GE183.out) | exact HB.out)⟩
              · replace c11 := Bool.eq_false_iff.mpr c11
                subst c11
                have H1 : (mizmazeref10_Valid.l0 kj7 (l0_0.length : Int) ((rd_L4 l0_0 0).length : Int) 0 l0_0) = some r := by rw [if_neg (show ¬ (false = true) by decide)] at H; exact H
                clear H
                have H := H1
                clear H1
                have H' := Aside0.mk H
                clear H
                go_wp2
                repeat (go_quiet (fail); try go_wp2)
                go_loopg [5] kj7 (fun kq v5 w' => ∃ (x5_3 : Int), v5 = .int .i64 x5_3 ∧ Aside0 (mizmazeref10_Valid.l0 kq (l0_0.length : Int) ((rd_L4 l0_0 0).length : Int) x5_3 l0_0 = some r) ∧ Aside0 (kq ≤ kj7) ∧ Aside0 (w'.heap[gb183]? = some (.cells #[(.slice (some ad184) l0_0.length c0_0)] 38 (0, 0))) ∧ Aside0 (Below w.heap.size w w'))
                case atStart => exact ⟨(0), (by first | rfl | (simp; done) | (simp [*]; done)), H', ⟨Nat.le_refl _⟩, ⟨by (with_reducible repeat (first | refine blk_drewN ?_ _ | refine blk_drew ?_ | refine blk_alloc ?_ _)); exact BK183.out⟩, ⟨by repeat (first | (with_reducible first | exact HB.out | apply below_alloc | apply pw_below_drewN | apply below_drew1 | refine below_set ?_ GE183.out) | exact HB.out)⟩⟩
                case round =>
                  clear H'
                  try clear c1
                  try clear p1
                  try clear q1
                  try clear hx1
                  try clear qi1
                  try clear c2
                  try clear p2
                  try clear c5
                  try clear c5b0
                  try clear c5b1
                  try clear c6
                  try clear c7
                  try clear c7b0
                  try clear c7b1
                  try clear c10
                  try clear c10b0
                  try clear c10b1
                  try clear c11
                  try clear hcz4_0
                  try clear hcz9_0
                  try clear hfz4_0
                  try clear hfz9_0
                  try clear hx184_0
                  try clear p1
                  try clear p184
                  try clear p2
                  try clear q1
                  try clear q184
                  obtain ⟨x5_3, rfl, HA, HK3, BK183, HB⟩ := hrel
                  cases gk with
                  | zero => exact absurd HA.out (by simp [mizmazeref10_Valid.l0])
                  | succ k3 =>
                    have H := HA.out
                    clear HA
                    simp only [mizmazeref10_Valid.l0] at H
                    by_cases c12 : x5_3 < (l0_0.length : Int)
                    · rw [if_pos c12] at H
                      have c12b0 : decide (x5_3 < (l0_0.length : Int)) = true := decide_eq_true c12
                      clear c12
                      by_cases c13 : 0 ≤ x5_3
                      · rw [if_pos c13] at H
                        have c13b0 : decide (0 ≤ x5_3) = true := decide_eq_true c13
                        clear c13
                        by_cases c14 : x5_3 < (l0_0.length : Int)
                        · rw [if_pos c14] at H
                          have c14b0 : decide (x5_3 < (l0_0.length : Int)) = true := decide_eq_true c14
                          clear c14
                          by_cases c15 : ((rd_L4 l0_0 x5_3).length : Int) = ((rd_L4 l0_0 0).length : Int)
                          · rw [if_pos c15] at H
                            have c15b0 : (((rd_L4 l0_0 x5_3).length : Int) == ((rd_L4 l0_0 0).length : Int)) = true := beq_iff_eq.mpr c15
                            have c15b1 : (((rd_L4 l0_0 x5_3).length : Int) != ((rd_L4 l0_0 0).length : Int)) = false := bne_eq_false_iff_eq.mpr c15
                            have c15b2 : ((rd_L4 l0_0 x5_3).length == (rd_L4 l0_0 0).length) = true := by first | simpa using c15 | (simp at c15 ⊢; omega)
                            clear c15
                            have H' := Aside0.mk H
                            clear H
                            have hcz16_0 : wr.cell? ⟨gb183, 0, none⟩ = some (.slice (some ad184) l0_0.length c0_0) := (blk_cell BK183.out 0).trans rfl
                            have hfz16_0 := blk_frozen BK183.out 0
                            have p185 : 0 ≤ (x5_3 : Int) := of_decide_eq_true (by first | (with_reducible assumption) | assumption)
                            have q185 : x5_3 < (l0_0.length : Int) := of_decide_eq_true (by first | (with_reducible assumption) | assumption)
                            obtain ⟨ad185, A185_0, c185_0, e185, hx185_0, hl185_0, hi185_0⟩ := at_L4 HR0_0.out x5_3 p185 q185
                            obtain rfl : ad184 = ad185 := (by injection e185)
                            replace hx185_0 := (HB.out.cell (World.block_lt_of_cell? w _ hx185_0)).trans hx185_0
                            have HR185_0 := Aside0.mk hi185_0
                            have HC185_0 := Aside0.mk hl185_0
                            clear hi185_0 hl185_0
                            replace p185 := eq_true p185
                            replace q185 := eq_true q185
                            go_wp2
                            repeat (go_quiet (fail); try go_wp2)
                            go_roundg k3
                            case measure => have := HJ1.out; have := HJ7.out; have := HK3.out; omega
                            case rel => exact ⟨(wrap64 (x5_3 + 1)), (by first | rfl | (simp; done) | (simp [*]; done)), H', ⟨by have := HJ1.out; have := HJ7.out; have := HK3.out; omega⟩, ⟨by (with_reducible repeat (first | refine blk_drewN ?_ _ | refine blk_drew ?_ | refine blk_alloc ?_ _)); exact BK183.out⟩, ⟨by repeat (first | (with_reducible first | exact HB.out | apply below_alloc | apply pw_below_drewN | apply below_drew1 | refine below_set ?_ GE183.out) | exact HB.out)⟩⟩
                          · rw [if_neg c15] at H
                            have c15b0 : (((rd_L4 l0_0 x5_3).length : Int) == ((rd_L4 l0_0 0).length : Int)) = false := beq_eq_false_iff_ne.mpr c15
                            have c15b1 : (((rd_L4 l0_0 x5_3).length : Int) != ((rd_L4 l0_0 0).length : Int)) = true := bne_iff_ne.mpr c15
                            have c15b2 : ((rd_L4 l0_0 x5_3).length == (rd_L4 l0_0 0).length) = false := by first | simpa using c15 | (simp at c15 ⊢; omega)
                            obtain rfl := Option.some.inj H
                            have hcz17_0 : wr.cell? ⟨gb183, 0, none⟩ = some (.slice (some ad184) l0_0.length c0_0) := (blk_cell BK183.out 0).trans rfl
                            have hfz17_0 := blk_frozen BK183.out 0
                            have p185 : 0 ≤ (x5_3 : Int) := of_decide_eq_true (by first | (with_reducible assumption) | assumption)
                            have q185 : x5_3 < (l0_0.length : Int) := of_decide_eq_true (by first | (with_reducible assumption) | assumption)
                            obtain ⟨ad185, A185_0, c185_0, e185, hx185_0, hl185_0, hi185_0⟩ := at_L4 HR0_0.out x5_3 p185 q185
                            obtain rfl : ad184 = ad185 := (by injection e185)
                            replace hx185_0 := (HB.out.cell (World.block_lt_of_cell? w _ hx185_0)).trans hx185_0
                            have HR185_0 := Aside0.mk hi185_0
                            have HC185_0 := Aside0.mk hl185_0
                            clear hi185_0 hl185_0
                            replace p185 := eq_true p185
                            replace q185 := eq_true q185
                            go_wp2
                            repeat (go_quiet (fail); try go_wp2)
                            go_ret
                            exact ⟨by first | rfl | (simp [errW_none, errW_some] <;> rfl) | (simp [*, errW_none, errW_some] <;> rfl), by repeat (first | (with_reducible first | exact HB.out | apply below_alloc | apply pw_below_drewN | apply below_drew1 | refine below_set ?_ GE183.out) | exact HB.out)⟩
                        · rw [if_neg c14] at H
                          exact absurd H (by simp)
                      · rw [if_neg c13] at H
                        exact absurd H (by simp)
                    · rw [if_neg c12] at H
                      have c12b0 : decide (x5_3 < (l0_0.length : Int)) = false := decide_eq_false c12
                      clear c12
                      have H' := Aside0.mk H
                      clear H
                      go_wp2
                      repeat (go_quiet (fail); try go_wp2)
                      go_loopg [6] k3 (fun kq v6 w' => ∃ (x6_4 : Int), v6 = .int .i64 x6_4 ∧ Aside0 (mizmazeref10_Valid.l1 kq (l0_0.length : Int) ((rd_L4 l0_0 0).length : Int) x6_4 l0_0 = some r) ∧ Aside0 (kq ≤ k3) ∧ Aside0 (w'.heap[gb183]? = some (.cells #[(.slice (some ad184) l0_0.length c0_0)] 38 (0, 0))) ∧ Aside0 (Below w.heap.size w w'))
                      case atStart => exact ⟨(0), (by first | rfl | (simp; done) | (simp [*]; done)), H', ⟨Nat.le_refl _⟩, ⟨by (with_reducible repeat (first | refine blk_drewN ?_ _ | refine blk_drew ?_ | refine blk_alloc ?_ _)); exact BK183.out⟩, ⟨by repeat (first | (with_reducible first | exact HB.out | apply below_alloc | apply pw_below_drewN | apply below_drew1 | refine below_set ?_ GE183.out) | exact HB.out)⟩⟩
                      case round =>
                        clear H'
                        try clear c1
                        try clear p1
                        try clear q1
                        try clear hx1
                        try clear qi1
                        try clear c2
                        try clear p2
                        try clear c5
                        try clear c5b0
                        try clear c5b1
                        try clear c6
                        try clear p6
                        try clear c7
                        try clear c7b0
                        try clear c7b1
                        try clear c10
                        try clear c10b0
                        try clear c10b1
                        try clear c11
                        try clear c12
                        try clear c12b0
                        try clear c13
                        try clear c13b0
                        try clear c14
                        try clear c14b0
                        try clear c15
                        try clear c15b0
                        try clear c15b1
                        try clear c15b2
                        try clear hcz16_0
                        try clear hcz17_0
                        try clear hcz4_0
                        try clear hcz9_0
                        try clear hfz16_0
                        try clear hfz17_0
                        try clear hfz4_0
                        try clear hfz9_0
                        try clear hx184_0
                        try clear hx185_0
                        try clear p1
                        try clear p184
                        try clear p185
                        try clear p2
                        try clear q1
                        try clear q184
                        try clear q185
                        obtain ⟨x6_4, rfl, HA, HK4, BK183, HB⟩ := hrel
                        cases gk with
                        | zero => exact absurd HA.out (by simp [mizmazeref10_Valid.l1])
                        | succ k4 =>
                          have H := HA.out
                          clear HA
                          simp only [mizmazeref10_Valid.l1] at H
                          by_cases c18 : x6_4 < (l0_0.length : Int)
                          · rw [if_pos c18] at H
                            have c18b0 : decide (x6_4 < (l0_0.length : Int)) = true := decide_eq_true c18
                            clear c18
                            have H' := Aside0.mk H
                            clear H
                            go_wp2
                            repeat (go_quiet (fail); try go_wp2)
                            go_loopg [7] k4 (fun kq v7 w' => ∃ (x7_5 : Int), v7 = .int .i64 x7_5 ∧ Aside0 (mizmazeref10_Valid.l2 kq (l0_0.length : Int) ((rd_L4 l0_0 0).length : Int) x6_4 x7_5 l0_0 = some r) ∧ Aside0 (kq ≤ k4) ∧ Aside0 (w'.heap[gb183]? = some (.cells #[(.slice (some ad184) l0_0.length c0_0)] 38 (0, 0))) ∧ Aside0 (Below w.heap.size w w'))
                            case atStart => exact ⟨(0), (by first | rfl | (simp; done) | (simp [*]; done)), H', ⟨Nat.le_refl _⟩, ⟨by (with_reducible repeat (first | refine blk_drewN ?_ _ | refine blk_drew ?_ | refine blk_alloc ?_ _)); exact BK183.out⟩, ⟨by repeat (first | (with_reducible first | exact HB.out | apply below_alloc | apply pw_below_drewN | apply below_drew1 | refine below_set ?_ GE183.out) | exact HB.out)⟩⟩
                            case round =>
                              clear H'
                              try clear c1
                              try clear p1
                              try clear q1
                              try clear hx1
                              try clear qi1
                              try clear c2
                              try clear p2
                              try clear c5
                              try clear c5b0
                              try clear c5b1
                              try clear c6
                              try clear p6
                              try clear c7
                              try clear c7b0
                              try clear c7b1
                              try clear c10
                              try clear c10b0
                              try clear c10b1
                              try clear c11
                              try clear c12
                              try clear c12b0
                              try clear c13
                              try clear c13b0
                              try clear c14
                              try clear c14b0
                              try clear c15
                              try clear c15b0
                              try clear c15b1
                              try clear c15b2
                              try clear c18
                              try clear c18b0
                              try clear p18
                              try clear q18
                              try clear hx18
                              try clear qi18
                              try clear hcz16_0
                              try clear hcz17_0
                              try clear hcz4_0
                              try clear hcz9_0
                              try clear hfz16_0
                              try clear hfz17_0
                              try clear hfz4_0
                              try clear hfz9_0
                              try clear hx184_0
                              try clear hx185_0
                              try clear p1
                              try clear p184
                              try clear p185
                              try clear p2
                              try clear p6
                              try clear q1
                              try clear q184
                              try clear q185
                              obtain ⟨x7_5, rfl, HA, HK5, BK183, HB⟩ := hrel
                              cases gk with
                              | zero => exact absurd HA.out (by simp [mizmazeref10_Valid.l2])
                              | succ k5 =>
                                have H := HA.out
                                clear HA
                                simp only [mizmazeref10_Valid.l2] at H
                                by_cases c19 : x7_5 < ((rd_L4 l0_0 0).length : Int)
                                · rw [if_pos c19] at H
                                  have c19b0 : decide (x7_5 < ((rd_L4 l0_0 0).length : Int)) = true := decide_eq_true c19
                                  clear c19
                                  by_cases c20 : 0 ≤ x6_4
                                  · rw [if_pos c20] at H
                                    have c20b0 : decide (0 ≤ x6_4) = true := decide_eq_true c20
                                    clear c20
                                    by_cases c21 : x6_4 < (l0_0.length : Int)
                                    · rw [if_pos c21] at H
                                      have c21b0 : decide (x6_4 < (l0_0.length : Int)) = true := decide_eq_true c21
                                      clear c21
                                      by_cases c22 : 0 ≤ x7_5
                                      · rw [if_pos c22] at H
                                        have c22b0 : decide (0 ≤ x7_5) = true := decide_eq_true c22
                                        clear c22
                                        by_cases c23 : x7_5 < ((rd_L4 l0_0 x6_4).length : Int)
                                        · rw [if_pos c23] at H
                                          have c23b0 : decide (x7_5 < ((rd_L4 l0_0 x6_4).length : Int)) = true := decide_eq_true c23
                                          clear c23
                                          by_cases c24 : ((rd_T44 (rd_L4 l0_0 x6_4) x7_5).f0) < 0
                                          · rw [if_pos c24] at H
                                            have c24b0 : decide (((rd_T44 (rd_L4 l0_0 x6_4) x7_5).f0) < 0) = true := decide_eq_true c24
                                            clear c24
                                            obtain rfl := Option.some.inj H
                                            have hcz25_0 : wr.cell? ⟨gb183, 0, none⟩ = some (.slice (some ad184) l0_0.length c0_0) := (blk_cell BK183.out 0).trans rfl
                                            have hfz25_0 := blk_frozen BK183.out 0
                                            have p186 : 0 ≤ (x6_4 : Int) := of_decide_eq_true (by first | (with_reducible assumption) | assumption)
                                            have q186 : x6_4 < (l0_0.length : Int) := of_decide_eq_true (by first | (with_reducible assumption) | assumption)
                                            obtain ⟨ad186, A186_0, c186_0, e186, hx186_0, hl186_0, hi186_0⟩ := at_L4 HR0_0.out x6_4 p186 q186
                                            obtain rfl : ad184 = ad186 := (by injection e186)
                                            replace hx186_0 := (HB.out.cell (World.block_lt_of_cell? w _ hx186_0)).trans hx186_0
                                            have HR186_0 := Aside0.mk hi186_0
                                            have HC186_0 := Aside0.mk hl186_0
                                            clear hi186_0 hl186_0
                                            replace p186 := eq_true p186
                                            replace q186 := eq_true q186
                                            have p187 : 0 ≤ (x7_5 : Int) := of_decide_eq_true (by first | (with_reducible assumption) | assumption)
                                            have q187 : x7_5 < ((rd_L4 l0_0 x6_4).length : Int) := of_decide_eq_true (by first | (with_reducible assumption) | assumption)
                                            obtain ⟨ad187, e187, hx187_0, hx187_1⟩ := at_T44 HR186_0.out x7_5 p187 q187
                                            cases e187
                                            replace hx187_0 := (HB.out.cell (World.block_lt_of_cell? w _ hx187_0)).trans hx187_0
                                            replace hx187_1 := (HB.out.cell (World.block_lt_of_cell? w _ hx187_1)).trans hx187_1
                                            replace p187 := eq_true p187
                                            replace q187 := eq_true q187
                                            go_wp2_with (first | ((with_reducible refine gate_dst (N := 8) rfl ?_); refine box_event ?hg (N := 8) ?hd (cs := #[.int .i64 0, .int .i64 0]) (t := 44) ?hr ?_; (case hd => rfl); (case hg => rfl); (case hr => first | (go_simp; done) | (go_simp; rfl)); intro gb188 hg w26 hbox hb; have n0_ := Aside0.mk (blk_below (g := gb183) (o := .cells #[.slice (some ad184) l0_0.length c0_0] 38 (0, 0)) (by (with_reducible repeat (first | refine blk_drewN ?_ _ | refine blk_drew ?_ | refine blk_alloc ?_ _)); exact BK183.out) hb); have n1_ := Aside0.mk (below_step (by repeat (first | (with_reducible first | exact HB.out | apply below_alloc | apply pw_below_drewN | apply below_drew1 | refine below_set ?_ GE183.out) | exact HB.out)) hb); have n2_ := Aside0.mk (hbox); have n3_ := Aside0.mk ((by rw [hg]; exact (below_size (by repeat (first | (with_reducible first | exact HB.out | apply below_alloc | apply pw_below_drewN | apply below_drew1 | refine below_set ?_ GE183.out) | exact HB.out))) : w.heap.size ≤ gb188)); have n4_ := Aside0.mk ((by rw [hg]; exact (below_size (by repeat (first | (with_reducible first | exact HB.out | apply below_alloc | apply pw_below_drewN | apply below_drew1 | refine below_set ?_ GE183.out) | exact HB.out))) : w.heap.size ≤ gb188)); have n5_ := Aside0.mk ((by rw [hg]; exact Nat.ne_of_lt (blk_lt (g := gb183) (o := .cells #[.slice (some ad184) l0_0.length c0_0] 38 (0, 0)) (by (with_reducible repeat (first | refine blk_drewN ?_ _ | refine blk_drew ?_ | refine blk_alloc ?_ _)); exact BK183.out)) : gb183 ≠ gb188)); have n6_ := Aside0.mk ((by rw [hg]; exact Nat.ne_of_gt (blk_lt (g := gb183) (o := .cells #[.slice (some ad184) l0_0.length c0_0] 38 (0, 0)) (by (with_reducible repeat (first | refine blk_drewN ?_ _ | refine blk_drew ?_ | refine blk_alloc ?_ _)); exact BK183.out)) : gb188 ≠ gb183)); clear BK183; clear HB; have BK183 := n0_; have HB := n1_; have BK188 := n2_; have GW188 := n3_; have GE188 := n4_; have NB183_188 := n5_; have NB188_183 := n6_; clear n0_ n1_ n2_ n3_ n4_ n5_ n6_; clear hb hbox hg; have hnb27 := NB188_183.out; have hnc27 := NB183_188.out; have hcz28_0 : w26.cell? ⟨gb188, 0, none⟩ = some (.int .i64 0) := (blk_cell BK188.out 0).trans rfl; have hcz28_1 : w26.cell? ⟨gb188, 1, none⟩ = some (.int .i64 0) := (blk_cell BK188.out 1).trans rfl; have hfz28_0 := blk_frozen BK188.out 0; have hfz28_1 := blk_frozen BK188.out 1))
                                            repeat (go_quiet (first | ((with_reducible refine gate_dst (N := 8) rfl ?_); refine box_event ?hg (N := 8) ?hd (cs := #[.int .i64 0, .int .i64 0]) (t := 44) ?hr ?_; (case hd => rfl); (case hg => rfl); (case hr => first | (go_simp; done) | (go_simp; rfl)); intro gb188 hg w26 hbox hb; have n0_ := Aside0.mk (blk_below (g := gb183) (o := .cells #[.slice (some ad184) l0_0.length c0_0] 38 (0, 0)) (by (with_reducible repeat (first | refine blk_drewN ?_ _ | refine blk_drew ?_ | refine blk_alloc ?_ _)); exact BK183.out) hb); have n1_ := Aside0.mk (below_step (by repeat (first | (with_reducible first | exact HB.out | apply below_alloc | apply pw_below_drewN | apply below_drew1 | refine below_set ?_ GE183.out) | exact HB.out)) hb); have n2_ := Aside0.mk (hbox); have n3_ := Aside0.mk ((by rw [hg]; exact (below_size (by repeat (first | (with_reducible first | exact HB.out | apply below_alloc | apply pw_below_drewN | apply below_drew1 | refine below_set ?_ GE183.out) | exact HB.out))) : w.heap.size ≤ gb188)); have n4_ := Aside0.mk ((by rw [hg]; exact (below_size (by repeat (first | (with_reducible first | exact HB.out | apply below_alloc | apply pw_below_drewN | apply below_drew1 | refine below_set ?_ GE183.out) | exact HB.out))) : w.heap.size ≤ gb188)); have n5_ := Aside0.mk ((by rw [hg]; exact Nat.ne_of_lt (blk_lt (g := gb183) (o := .cells #[.slice (some ad184) l0_0.length c0_0] 38 (0, 0)) (by (with_reducible repeat (first | refine blk_drewN ?_ _ | refine blk_drew ?_ | refine blk_alloc ?_ _)); exact BK183.out)) : gb183 ≠ gb188)); have n6_ := Aside0.mk ((by rw [hg]; exact Nat.ne_of_gt (blk_lt (g := gb183) (o := .cells #[.slice (some ad184) l0_0.length c0_0] 38 (0, 0)) (by (with_reducible repeat (first | refine blk_drewN ?_ _ | refine blk_drew ?_ | refine blk_alloc ?_ _)); exact BK183.out)) : gb188 ≠ gb183)); clear BK183; clear HB; have BK183 := n0_; have HB := n1_; have BK188 := n2_; have GW188 := n3_; have GE188 := n4_; have NB183_188 := n5_; have NB188_183 := n6_; clear n0_ n1_ n2_ n3_ n4_ n5_ n6_; clear hb hbox hg; have hnb27 := NB188_183.out; have hnc27 := NB183_188.out; have hcz28_0 : w26.cell? ⟨gb188, 0, none⟩ = some (.int .i64 0) := (blk_cell BK188.out 0).trans rfl; have hcz28_1 : w26.cell? ⟨gb188, 1, none⟩ = some (.int .i64 0) := (blk_cell BK188.out 1).trans rfl; have hfz28_0 := blk_frozen BK188.out 0; have hfz28_1 := blk_frozen BK188.out 1)); try go_wp2_with (first | ((with_reducible refine gate_dst (N := 8) rfl ?_); refine box_event ?hg (N := 8) ?hd (cs := #[.int .i64 0, .int .i64 0]) (t := 44) ?hr ?_; (case hd => rfl); (case hg => rfl); (case hr => first | (go_simp; done) | (go_simp; rfl)); intro gb188 hg w26 hbox hb; have n0_ := Aside0.mk (blk_below (g := gb183) (o := .cells #[.slice (some ad184) l0_0.length c0_0] 38 (0, 0)) (by (with_reducible repeat (first | refine blk_drewN ?_ _ | refine blk_drew ?_ | refine blk_alloc ?_ _)); exact BK183.out) hb); have n1_ := Aside0.mk (below_step (by repeat (first | (with_reducible first | exact HB.out | apply below_alloc | apply pw_below_drewN | apply below_drew1 | refine below_set ?_ GE183.out) | exact HB.out)) hb); have n2_ := Aside0.mk (hbox); have n3_ := Aside0.mk ((by rw [hg]; exact (below_size (by repeat (first | (with_reducible first | exact HB.out | apply below_alloc | apply pw_below_drewN | apply below_drew1 | refine below_set ?_ GE183.out) | exact HB.out))) : w.heap.size ≤ gb188)); have n4_ := Aside0.mk ((by rw [hg]; exact (below_size (by repeat (first | (with_reducible first | exact HB.out | apply below_alloc | apply pw_below_drewN | apply below_drew1 | refine below_set ?_ GE183.out) | exact HB.out))) : w.heap.size ≤ gb188)); have n5_ := Aside0.mk ((by rw [hg]; exact Nat.ne_of_lt (blk_lt (g := gb183) (o := .cells #[.slice (some ad184) l0_0.length c0_0] 38 (0, 0)) (by (with_reducible repeat (first | refine blk_drewN ?_ _ | refine blk_drew ?_ | refine blk_alloc ?_ _)); exact BK183.out)) : gb183 ≠ gb188)); have n6_ := Aside0.mk ((by rw [hg]; exact Nat.ne_of_gt (blk_lt (g := gb183) (o := .cells #[.slice (some ad184) l0_0.length c0_0] 38 (0, 0)) (by (with_reducible repeat (first | refine blk_drewN ?_ _ | refine blk_drew ?_ | refine blk_alloc ?_ _)); exact BK183.out)) : gb188 ≠ gb183)); clear BK183; clear HB; have BK183 := n0_; have HB := n1_; have BK188 := n2_; have GW188 := n3_; have GE188 := n4_; have NB183_188 := n5_; have NB188_183 := n6_; clear n0_ n1_ n2_ n3_ n4_ n5_ n6_; clear hb hbox hg; have hnb27 := NB188_183.out; have hnc27 := NB183_188.out; have hcz28_0 : w26.cell? ⟨gb188, 0, none⟩ = some (.int .i64 0) := (blk_cell BK188.out 0).trans rfl; have hcz28_1 : w26.cell? ⟨gb188, 1, none⟩ = some (.int .i64 0) := (blk_cell BK188.out 1).trans rfl; have hfz28_0 := blk_frozen BK188.out 0; have hfz28_1 := blk_frozen BK188.out 1)))
                                            go_ret
                                            exact ⟨by first | rfl | (simp [errW_none, errW_some] <;> rfl) | (simp [*, errW_none, errW_some] <;> rfl), by repeat (first | (with_reducible first | exact HB.out | apply below_alloc | apply pw_below_drewN | apply below_drew1 | refine below_set ?_ GE183.out | refine below_set ?_ GE188.out) | exact HB.out)⟩
                                          · rw [if_neg c24] at H
                                            have c24b0 : decide (((rd_T44 (rd_L4 l0_0 x6_4) x7_5).f0) < 0) = false := decide_eq_false c24
                                            clear c24
                                            by_cases c29 : ((rd_T44 (rd_L4 l0_0 x6_4) x7_5).f0) ≥ (l0_0.length : Int)
                                            · rw [if_pos c29] at H
                                              have c29b0 : decide ((l0_0.length : Int) ≤ ((rd_T44 (rd_L4 l0_0 x6_4) x7_5).f0)) = true := decide_eq_true c29
                                              clear c29
                                              obtain rfl := Option.some.inj H
                                              have hcz30_0 : wr.cell? ⟨gb183, 0, none⟩ = some (.slice (some ad184) l0_0.length c0_0) := (blk_cell BK183.out 0).trans rfl
                                              have hfz30_0 := blk_frozen BK183.out 0
                                              have p186 : 0 ≤ (x6_4 : Int) := of_decide_eq_true (by first | (with_reducible assumption) | assumption)
                                              have q186 : x6_4 < (l0_0.length : Int) := of_decide_eq_true (by first | (with_reducible assumption) | assumption)
                                              obtain ⟨ad186, A186_0, c186_0, e186, hx186_0, hl186_0, hi186_0⟩ := at_L4 HR0_0.out x6_4 p186 q186
                                              obtain rfl : ad184 = ad186 := (by injection e186)
                                              replace hx186_0 := (HB.out.cell (World.block_lt_of_cell? w _ hx186_0)).trans hx186_0
                                              have HR186_0 := Aside0.mk hi186_0
                                              have HC186_0 := Aside0.mk hl186_0
                                              clear hi186_0 hl186_0
                                              replace p186 := eq_true p186
                                              replace q186 := eq_true q186
                                              have p187 : 0 ≤ (x7_5 : Int) := of_decide_eq_true (by first | (with_reducible assumption) | assumption)
                                              have q187 : x7_5 < ((rd_L4 l0_0 x6_4).length : Int) := of_decide_eq_true (by first | (with_reducible assumption) | assumption)
                                              obtain ⟨ad187, e187, hx187_0, hx187_1⟩ := at_T44 HR186_0.out x7_5 p187 q187
                                              cases e187
                                              replace hx187_0 := (HB.out.cell (World.block_lt_of_cell? w _ hx187_0)).trans hx187_0
                                              replace hx187_1 := (HB.out.cell (World.block_lt_of_cell? w _ hx187_1)).trans hx187_1
                                              replace p187 := eq_true p187
                                              replace q187 := eq_true q187
                                              go_wp2_with (first | ((with_reducible refine gate_dst (N := 8) rfl ?_); refine box_event ?hg (N := 8) ?hd (cs := #[.int .i64 0, .int .i64 0]) (t := 44) ?hr ?_; (case hd => rfl); (case hg => rfl); (case hr => first | (go_simp; done) | (go_simp; rfl)); intro gb188 hg w31 hbox hb; have n0_ := Aside0.mk (blk_below (g := gb183) (o := .cells #[.slice (some ad184) l0_0.length c0_0] 38 (0, 0)) (by (with_reducible repeat (first | refine blk_drewN ?_ _ | refine blk_drew ?_ | refine blk_alloc ?_ _)); exact BK183.out) hb); have n1_ := Aside0.mk (below_step (by repeat (first | (with_reducible first | exact HB.out | apply below_alloc | apply pw_below_drewN | apply below_drew1 | refine below_set ?_ GE183.out) | exact HB.out)) hb); have n2_ := Aside0.mk (hbox); have n3_ := Aside0.mk ((by rw [hg]; exact (below_size (by repeat (first | (with_reducible first | exact HB.out | apply below_alloc | apply pw_below_drewN | apply below_drew1 | refine below_set ?_ GE183.out) | exact HB.out))) : w.heap.size ≤ gb188)); have n4_ := Aside0.mk ((by rw [hg]; exact (below_size (by repeat (first | (with_reducible first | exact HB.out | apply below_alloc | apply pw_below_drewN | apply below_drew1 | refine below_set ?_ GE183.out) | exact HB.out))) : w.heap.size ≤ gb188)); have n5_ := Aside0.mk ((by rw [hg]; exact Nat.ne_of_lt (blk_lt (g := gb183) (o := .cells #[.slice (some ad184) l0_0.length c0_0] 38 (0, 0)) (by (with_reducible repeat (first | refine blk_drewN ?_ _ | refine blk_drew ?_ | refine blk_alloc ?_ _)); exact BK183.out)) : gb183 ≠ gb188)); have n6_ := Aside0.mk ((by rw [hg]; exact Nat.ne_of_gt (blk_lt (g := gb183) (o := .cells #[.slice (some ad184) l0_0.length c0_0] 38 (0, 0)) (by (with_reducible repeat (first | refine blk_drewN ?_ _ | refine blk_drew ?_ | refine blk_alloc ?_ _)); exact BK183.out)) : gb188 ≠ gb183)); clear BK183; clear HB; have BK183 := n0_; have HB := n1_; have BK188 := n2_; have GW188 := n3_; have GE188 := n4_; have NB183_188 := n5_; have NB188_183 := n6_; clear n0_ n1_ n2_ n3_ n4_ n5_ n6_; clear hb hbox hg; have hnb32 := NB188_183.out; have hnc32 := NB183_188.out; have hcz33_0 : w31.cell? ⟨gb188, 0, none⟩ = some (.int .i64 0) := (blk_cell BK188.out 0).trans rfl; have hcz33_1 : w31.cell? ⟨gb188, 1, none⟩ = some (.int .i64 0) := (blk_cell BK188.out 1).trans rfl; have hfz33_0 := blk_frozen BK188.out 0; have hfz33_1 := blk_frozen BK188.out 1))
                                              repeat (go_quiet (first | ((with_reducible refine gate_dst (N := 8) rfl ?_); refine box_event ?hg (N := 8) ?hd (cs := #[.int .i64 0, .int .i64 0]) (t := 44) ?hr ?_; (case hd => rfl); (case hg => rfl); (case hr => first | (go_simp; done) | (go_simp; rfl)); intro gb188 hg w31 hbox hb; have n0_ := Aside0.mk (blk_below (g := gb183) (o := .cells #[.slice (some ad184) l0_0.length c0_0] 38 (0, 0)) (by (with_reducible repeat (first | refine blk_drewN ?_ _ | refine blk_drew ?_ | refine blk_alloc ?_ _)); exact BK183.out) hb); have n1_ := Aside0.mk (below_step (by repeat (first | (with_reducible first | exact HB.out | apply below_alloc | apply pw_below_drewN | apply below_drew1 | refine below_set ?_ GE183.out) | exact HB.out)) hb); have n2_ := Aside0.mk (hbox); have n3_ := Aside0.mk ((by rw [hg]; exact (below_size (by repeat (first | (with_reducible first | exact HB.out | apply below_alloc | apply pw_below_drewN | apply below_drew1 | refine below_set ?_ GE183.out) | exact HB.out))) : w.heap.size ≤ gb188)); have n4_ := Aside0.mk ((by rw [hg]; exact (below_size (by repeat (first | (with_reducible first | exact HB.out | apply below_alloc | apply pw_below_drewN | apply below_drew1 | refine below_set ?_ GE183.out) | exact HB.out))) : w.heap.size ≤ gb188)); have n5_ := Aside0.mk ((by rw [hg]; exact Nat.ne_of_lt (blk_lt (g := gb183) (o := .cells #[.slice (some ad184) l0_0.length c0_0] 38 (0, 0)) (by (with_reducible repeat (first | refine blk_drewN ?_ _ | refine blk_drew ?_ | refine blk_alloc ?_ _)); exact BK183.out)) : gb183 ≠ gb188)); have n6_ := Aside0.mk ((by rw [hg]; exact Nat.ne_of_gt (blk_lt (g := gb183) (o := .cells #[.slice (some ad184) l0_0.length c0_0] 38 (0, 0)) (by (with_reducible repeat (first | refine blk_drewN ?_ _ | refine blk_drew ?_ | refine blk_alloc ?_ _)); exact BK183.out)) : gb188 ≠ gb183)); clear BK183; clear HB; have BK183 := n0_; have HB := n1_; have BK188 := n2_; have GW188 := n3_; have GE188 := n4_; have NB183_188 := n5_; have NB188_183 := n6_; clear n0_ n1_ n2_ n3_ n4_ n5_ n6_; clear hb hbox hg; have hnb32 := NB188_183.out; have hnc32 := NB183_188.out; have hcz33_0 : w31.cell? ⟨gb188, 0, none⟩ = some (.int .i64 0) := (blk_cell BK188.out 0).trans rfl; have hcz33_1 : w31.cell? ⟨gb188, 1, none⟩ = some (.int .i64 0) := (blk_cell BK188.out 1).trans rfl; have hfz33_0 := blk_frozen BK188.out 0; have hfz33_1 := blk_frozen BK188.out 1)); try go_wp2_with (first | ((with_reducible refine gate_dst (N := 8) rfl ?_); refine box_event ?hg (N := 8) ?hd (cs := #[.int .i64 0, .int .i64 0]) (t := 44) ?hr ?_; (case hd => rfl); (case hg => rfl); (case hr => first | (go_simp; done) | (go_simp; rfl)); intro gb188 hg w31 hbox hb; have n0_ := Aside0.mk (blk_below (g := gb183) (o := .cells #[.slice (some ad184) l0_0.length c0_0] 38 (0, 0)) (by (with_reducible repeat (first | refine blk_drewN ?_ _ | refine blk_drew ?_ | refine blk_alloc ?_ _)); exact BK183.out) hb); have n1_ := Aside0.mk (below_step (by repeat (first | (with_reducible first | exact HB.out | apply below_alloc | apply pw_below_drewN | apply below_drew1 | refine below_set ?_ GE183.out) | exact HB.out)) hb); have n2_ := Aside0.mk (hbox); have n3_ := Aside0.mk ((by rw [hg]; exact (below_size (by repeat (first | (with_reducible first | exact HB.out | apply below_alloc | apply pw_below_drewN | apply below_drew1 | refine below_set ?_ GE183.out) | exact HB.out))) : w.heap.size ≤ gb188)); have n4_ := Aside0.mk ((by rw [hg]; exact (below_size (by repeat (first | (with_reducible first | exact HB.out | apply below_alloc | apply pw_below_drewN | apply below_drew1 | refine below_set ?_ GE183.out) | exact HB.out))) : w.heap.size ≤ gb188)); have n5_ := Aside0.mk ((by rw [hg]; exact Nat.ne_of_lt (blk_lt (g := gb183) (o := .cells #[.slice (some ad184) l0_0.length c0_0] 38 (0, 0)) (by (with_reducible repeat (first | refine blk_drewN ?_ _ | refine blk_drew ?_ | refine blk_alloc ?_ _)); exact BK183.out)) : gb183 ≠ gb188)); have n6_ := Aside0.mk ((by rw [hg]; exact Nat.ne_of_gt (blk_lt (g := gb183) (o := .cells #[.slice (some ad184) l0_0.length c0_0] 38 (0, 0)) (by (with_reducible repeat (first | refine blk_drewN ?_ _ | refine blk_drew ?_ | refine blk_alloc ?_ _)); exact BK183.out)) : gb188 ≠ gb183)); clear BK183; clear HB; have BK183 := n0_; have HB := n1_; have BK188 := n2_; have GW188 := n3_; have GE188 := n4_; have NB183_188 := n5_; have NB188_183 := n6_; clear n0_ n1_ n2_ n3_ n4_ n5_ n6_; clear hb hbox hg; have hnb32 := NB188_183.out; have hnc32 := NB183_188.out; have hcz33_0 : w31.cell? ⟨gb188, 0, none⟩ = some (.int .i64 0) := (blk_cell BK188.out 0).trans rfl; have hcz33_1 : w31.cell? ⟨gb188, 1, none⟩ = some (.int .i64 0) := (blk_cell BK188.out 1).trans rfl; have hfz33_0 := blk_frozen BK188.out 0; have hfz33_1 := blk_frozen BK188.out 1)))
                                              go_ret
                                              exact ⟨by first | rfl | (simp [errW_none, errW_some] <;> rfl) | (simp [*, errW_none, errW_some] <;> rfl), by repeat (first | (with_reducible first | exact HB.out | apply below_alloc | apply pw_below_drewN | apply below_drew1 | refine below_set ?_ GE183.out | refine below_set ?_ GE188.out) | exact HB.out)⟩
                                            · rw [if_neg c29] at H
                                              have c29b0 : decide ((l0_0.length : Int) ≤ ((rd_T44 (rd_L4 l0_0 x6_4) x7_5).f0)) = false := decide_eq_false c29
                                              clear c29
                                              by_cases c34 : ((rd_T44 (rd_L4 l0_0 x6_4) x7_5).f1) < 0
                                              · rw [if_pos c34] at H
                                                have c34b0 : decide (((rd_T44 (rd_L4 l0_0 x6_4) x7_5).f1) < 0) = true := decide_eq_true c34
                                                clear c34
                                                obtain rfl := Option.some.inj H
                                                have hcz35_0 : wr.cell? ⟨gb183, 0, none⟩ = some (.slice (some ad184) l0_0.length c0_0) := (blk_cell BK183.out 0).trans rfl
                                                have hfz35_0 := blk_frozen BK183.out 0
                                                have p186 : 0 ≤ (x6_4 : Int) := of_decide_eq_true (by first | (with_reducible assumption) | assumption)
                                                have q186 : x6_4 < (l0_0.length : Int) := of_decide_eq_true (by first | (with_reducible assumption) | assumption)
                                                obtain ⟨ad186, A186_0, c186_0, e186, hx186_0, hl186_0, hi186_0⟩ := at_L4 HR0_0.out x6_4 p186 q186
                                                obtain rfl : ad184 = ad186 := (by injection e186)
                                                replace hx186_0 := (HB.out.cell (World.block_lt_of_cell? w _ hx186_0)).trans hx186_0
                                                have HR186_0 := Aside0.mk hi186_0
                                                have HC186_0 := Aside0.mk hl186_0
                                                clear hi186_0 hl186_0
                                                replace p186 := eq_true p186
                                                replace q186 := eq_true q186
                                                have p187 : 0 ≤ (x7_5 : Int) := of_decide_eq_true (by first | (with_reducible assumption) | assumption)
                                                have q187 : x7_5 < ((rd_L4 l0_0 x6_4).length : Int) := of_decide_eq_true (by first | (with_reducible assumption) | assumption)
                                                obtain ⟨ad187, e187, hx187_0, hx187_1⟩ := at_T44 HR186_0.out x7_5 p187 q187
                                                cases e187
                                                replace hx187_0 := (HB.out.cell (World.block_lt_of_cell? w _ hx187_0)).trans hx187_0
                                                replace hx187_1 := (HB.out.cell (World.block_lt_of_cell? w _ hx187_1)).trans hx187_1
                                                replace p187 := eq_true p187
                                                replace q187 := eq_true q187
                                                go_wp2_with (first | ((with_reducible refine gate_dst (N := 8) rfl ?_); refine box_event ?hg (N := 8) ?hd (cs := #[.int .i64 0, .int .i64 0]) (t := 44) ?hr ?_; (case hd => rfl); (case hg => rfl); (case hr => first | (go_simp; done) | (go_simp; rfl)); intro gb188 hg w36 hbox hb; have n0_ := Aside0.mk (blk_below (g := gb183) (o := .cells #[.slice (some ad184) l0_0.length c0_0] 38 (0, 0)) (by (with_reducible repeat (first | refine blk_drewN ?_ _ | refine blk_drew ?_ | refine blk_alloc ?_ _)); exact BK183.out) hb); have n1_ := Aside0.mk (below_step (by repeat (first | (with_reducible first | exact HB.out | apply below_alloc | apply pw_below_drewN | apply below_drew1 | refine below_set ?_ GE183.out) | exact HB.out)) hb); have n2_ := Aside0.mk (hbox); have n3_ := Aside0.mk ((by rw [hg]; exact (below_size (by repeat (first | (with_reducible first | exact HB.out | apply below_alloc | apply pw_below_drewN | apply below_drew1 | refine below_set ?_ GE183.out) | exact HB.out))) : w.heap.size ≤ gb188)); have n4_ := Aside0.mk ((by rw [hg]; exact (below_size (by repeat (first | (with_reducible first | exact HB.out | apply below_alloc | apply pw_below_drewN | apply below_drew1 | refine below_set ?_ GE183.out) | exact HB.out))) : w.heap.size ≤ gb188)); have n5_ := Aside0.mk ((by rw [hg]; exact Nat.ne_of_lt (blk_lt (g := gb183) (o := .cells #[.slice (some ad184) l0_0.length c0_0] 38 (0, 0)) (by (with_reducible repeat (first | refine blk_drewN ?_ _ | refine blk_drew ?_ | refine blk_alloc ?_ _)); exact BK183.out)) : gb183 ≠ gb188)); have n6_ := Aside0.mk ((by rw [hg]; exact Nat.ne_of_gt (blk_lt (g := gb183) (o := .cells #[.slice (some ad184) l0_0.length c0_0] 38 (0, 0)) (by (with_reducible repeat (first | refine blk_drewN ?_ _ | refine blk_drew ?_ | refine blk_alloc ?_ _)); exact BK183.out)) : gb188 ≠ gb183)); clear BK183; clear HB; have BK183 := n0_; have HB := n1_; have BK188 := n2_; have GW188 := n3_; have GE188 := n4_; have NB183_188 := n5_; have NB188_183 := n6_; clear n0_ n1_ n2_ n3_ n4_ n5_ n6_; clear hb hbox hg; have hnb37 := NB188_183.out; have hnc37 := NB183_188.out; have hcz38_0 : w36.cell? ⟨gb188, 0, none⟩ = some (.int .i64 0) := (blk_cell BK188.out 0).trans rfl; have hcz38_1 : w36.cell? ⟨gb188, 1, none⟩ = some (.int .i64 0) := (blk_cell BK188.out 1).trans rfl; have hfz38_0 := blk_frozen BK188.out 0; have hfz38_1 := blk_frozen BK188.out 1))
                                                repeat (go_quiet (first | ((with_reducible refine gate_dst (N := 8) rfl ?_); refine box_event ?hg (N := 8) ?hd (cs := #[.int .i64 0, .int .i64 0]) (t := 44) ?hr ?_; (case hd => rfl); (case hg => rfl); (case hr => first | (go_simp; done) | (go_simp; rfl)); intro gb188 hg w36 hbox hb; have n0_ := Aside0.mk (blk_below (g := gb183) (o := .cells #[.slice (some ad184) l0_0.length c0_0] 38 (0, 0)) (by (with_reducible repeat (first | refine blk_drewN ?_ _ | refine blk_drew ?_ | refine blk_alloc ?_ _)); exact BK183.out) hb); have n1_ := Aside0.mk (below_step (by repeat (first | (with_reducible first | exact HB.out | apply below_alloc | apply pw_below_drewN | apply below_drew1 | refine below_set ?_ GE183.out) | exact HB.out)) hb); have n2_ := Aside0.mk (hbox); have n3_ := Aside0.mk ((by rw [hg]; exact (below_size (by repeat (first | (with_reducible first | exact HB.out | apply below_alloc | apply pw_below_drewN | apply below_drew1 | refine below_set ?_ GE183.out) | exact HB.out))) : w.heap.size ≤ gb188)); have n4_ := Aside0.mk ((by rw [hg]; exact (below_size (by repeat (first | (with_reducible first | exact HB.out | apply below_alloc | apply pw_below_drewN | apply below_drew1 | refine below_set ?_ GE183.out) | exact HB.out))) : w.heap.size ≤ gb188)); have n5_ := Aside0.mk ((by rw [hg]; exact Nat.ne_of_lt (blk_lt (g := gb183) (o := .cells #[.slice (some ad184) l0_0.length c0_0] 38 (0, 0)) (by (with_reducible repeat (first | refine blk_drewN ?_ _ | refine blk_drew ?_ | refine blk_alloc ?_ _)); exact BK183.out)) : gb183 ≠ gb188)); have n6_ := Aside0.mk ((by rw [hg]; exact Nat.ne_of_gt (blk_lt (g := gb183) (o := .cells #[.slice (some ad184) l0_0.length c0_0] 38 (0, 0)) (by (with_reducible repeat (first | refine blk_drewN ?_ _ | refine blk_drew ?_ | refine blk_alloc ?_ _)); exact BK183.out)) : gb188 ≠ gb183)); clear BK183; clear HB; have BK183 := n0_; have HB := n1_; have BK188 := n2_; have GW188 := n3_; have GE188 := n4_; have NB183_188 := n5_; have NB188_183 := n6_; clear n0_ n1_ n2_ n3_ n4_ n5_ n6_; clear hb hbox hg; have hnb37 := NB188_183.out; have hnc37 := NB183_188.out; have hcz38_0 : w36.cell? ⟨gb188, 0, none⟩ = some (.int .i64 0) := (blk_cell BK188.out 0).trans rfl; have hcz38_1 : w36.cell? ⟨gb188, 1, none⟩ = some (.int .i64 0) := (blk_cell BK188.out 1).trans rfl; have hfz38_0 := blk_frozen BK188.out 0; have hfz38_1 := blk_frozen BK188.out 1)); try go_wp2_with (first | ((with_reducible refine gate_dst (N := 8) rfl ?_); refine box_event ?hg (N := 8) ?hd (cs := #[.int .i64 0, .int .i64 0]) (t := 44) ?hr ?_; (case hd => rfl); (case hg => rfl); (case hr => first | (go_simp; done) | (go_simp; rfl)); intro gb188 hg w36 hbox hb; have n0_ := Aside0.mk (blk_below (g := gb183) (o := .cells #[.slice (some ad184) l0_0.length c0_0] 38 (0, 0)) (by (with_reducible repeat (first | refine blk_drewN ?_ _ | refine blk_drew ?_ | refine blk_alloc ?_ _)); exact BK183.out) hb); have n1_ := Aside0.mk (below_step (by repeat (first | (with_reducible first | exact HB.out | apply below_alloc | apply pw_below_drewN | apply below_drew1 | refine below_set ?_ GE183.out) | exact HB.out)) hb); have n2_ := Aside0.mk (hbox); have n3_ := Aside0.mk ((by rw [hg]; exact (below_size (by repeat (first | (with_reducible first | exact HB.out | apply below_alloc | apply pw_below_drewN | apply below_drew1 | refine below_set ?_ GE183.out) | exact HB.out))) : w.heap.size ≤ gb188)); have n4_ := Aside0.mk ((by rw [hg]; exact (below_size (by repeat (first | (with_reducible first | exact HB.out | apply below_alloc | apply pw_below_drewN | apply below_drew1 | refine below_set ?_ GE183.out) | exact HB.out))) : w.heap.size ≤ gb188)); have n5_ := Aside0.mk ((by rw [hg]; exact Nat.ne_of_lt (blk_lt (g := gb183) (o := .cells #[.slice (some ad184) l0_0.length c0_0] 38 (0, 0)) (by (with_reducible repeat (first | refine blk_drewN ?_ _ | refine blk_drew ?_ | refine blk_alloc ?_ _)); exact BK183.out)) : gb183 ≠ gb188)); have n6_ := Aside0.mk ((by rw [hg]; exact Nat.ne_of_gt (blk_lt (g := gb183) (o := .cells #[.slice (some ad184) l0_0.length c0_0] 38 (0, 0)) (by (with_reducible repeat (first | refine blk_drewN ?_ _ | refine blk_drew ?_ | refine blk_alloc ?_ _)); exact BK183.out)) : gb188 ≠ gb183)); clear BK183; clear HB; have BK183 := n0_; have HB := n1_; have BK188 := n2_; have GW188 := n3_; have GE188 := n4_; have NB183_188 := n5_; have NB188_183 := n6_; clear n0_ n1_ n2_ n3_ n4_ n5_ n6_; clear hb hbox hg; have hnb37 := NB188_183.out; have hnc37 := NB183_188.out; have hcz38_0 : w36.cell? ⟨gb188, 0, none⟩ = some (.int .i64 0) := (blk_cell BK188.out 0).trans rfl; have hcz38_1 : w36.cell? ⟨gb188, 1, none⟩ = some (.int .i64 0) := (blk_cell BK188.out 1).trans rfl; have hfz38_0 := blk_frozen BK188.out 0; have hfz38_1 := blk_frozen BK188.out 1)))
                                                go_ret
                                                exact ⟨by first | rfl | (simp [errW_none, errW_some] <;> rfl) | (simp [*, errW_none, errW_some] <;> rfl), by repeat (first | (with_reducible first | exact HB.out | apply below_alloc | apply pw_below_drewN | apply below_drew1 | refine below_set ?_ GE183.out | refine below_set ?_ GE188.out) | exact HB.out)⟩
                                              · rw [if_neg c34] at H
                                                have c34b0 : decide (((rd_T44 (rd_L4 l0_0 x6_4) x7_5).f1) < 0) = false := decide_eq_false c34
                                                clear c34
                                                by_cases c39 : ((rd_T44 (rd_L4 l0_0 x6_4) x7_5).f1) ≥ ((rd_L4 l0_0 0).length : Int)
                                                · rw [if_pos c39] at H
                                                  have c39b0 : decide (((rd_L4 l0_0 0).length : Int) ≤ ((rd_T44 (rd_L4 l0_0 x6_4) x7_5).f1)) = true := decide_eq_true c39
                                                  clear c39
                                                  obtain rfl := Option.some.inj H
                                                  have hcz40_0 : wr.cell? ⟨gb183, 0, none⟩ = some (.slice (some ad184) l0_0.length c0_0) := (blk_cell BK183.out 0).trans rfl
                                                  have hfz40_0 := blk_frozen BK183.out 0
                                                  have p186 : 0 ≤ (x6_4 : Int) := of_decide_eq_true (by first | (with_reducible assumption) | assumption)
                                                  have q186 : x6_4 < (l0_0.length : Int) := of_decide_eq_true (by first | (with_reducible assumption) | assumption)
                                                  obtain ⟨ad186, A186_0, c186_0, e186, hx186_0, hl186_0, hi186_0⟩ := at_L4 HR0_0.out x6_4 p186 q186
                                                  obtain rfl : ad184 = ad186 := (by injection e186)
                                                  replace hx186_0 := (HB.out.cell (World.block_lt_of_cell? w _ hx186_0)).trans hx186_0
                                                  have HR186_0 := Aside0.mk hi186_0
                                                  have HC186_0 := Aside0.mk hl186_0
                                                  clear hi186_0 hl186_0
                                                  replace p186 := eq_true p186
                                                  replace q186 := eq_true q186
                                                  have p187 : 0 ≤ (x7_5 : Int) := of_decide_eq_true (by first | (with_reducible assumption) | assumption)
                                                  have q187 : x7_5 < ((rd_L4 l0_0 x6_4).length : Int) := of_decide_eq_true (by first | (with_reducible assumption) | assumption)
                                                  obtain ⟨ad187, e187, hx187_0, hx187_1⟩ := at_T44 HR186_0.out x7_5 p187 q187
                                                  cases e187
                                                  replace hx187_0 := (HB.out.cell (World.block_lt_of_cell? w _ hx187_0)).trans hx187_0
                                                  replace hx187_1 := (HB.out.cell (World.block_lt_of_cell? w _ hx187_1)).trans hx187_1
                                                  replace p187 := eq_true p187
                                                  replace q187 := eq_true q187
                                                  go_wp2_with (first | ((with_reducible refine gate_dst (N := 8) rfl ?_); refine box_event ?hg (N := 8) ?hd (cs := #[.int .i64 0, .int .i64 0]) (t := 44) ?hr ?_; (case hd => rfl); (case hg => rfl); (case hr => first | (go_simp; done) | (go_simp; rfl)); intro gb188 hg w41 hbox hb; have n0_ := Aside0.mk (blk_below (g := gb183) (o := .cells #[.slice (some ad184) l0_0.length c0_0] 38 (0, 0)) (by (with_reducible repeat (first | refine blk_drewN ?_ _ | refine blk_drew ?_ | refine blk_alloc ?_ _)); exact BK183.out) hb); have n1_ := Aside0.mk (below_step (by repeat (first | (with_reducible first | exact HB.out | apply below_alloc | apply pw_below_drewN | apply below_drew1 | refine below_set ?_ GE183.out) | exact HB.out)) hb); have n2_ := Aside0.mk (hbox); have n3_ := Aside0.mk ((by rw [hg]; exact (below_size (by repeat (first | (with_reducible first | exact HB.out | apply below_alloc | apply pw_below_drewN | apply below_drew1 | refine below_set ?_ GE183.out) | exact HB.out))) : w.heap.size ≤ gb188)); have n4_ := Aside0.mk ((by rw [hg]; exact (below_size (by repeat (first | (with_reducible first | exact HB.out | apply below_alloc | apply pw_below_drewN | apply below_drew1 | refine below_set ?_ GE183.out) | exact HB.out))) : w.heap.size ≤ gb188)); have n5_ := Aside0.mk ((by rw [hg]; exact Nat.ne_of_lt (blk_lt (g := gb183) (o := .cells #[.slice (some ad184) l0_0.length c0_0] 38 (0, 0)) (by (with_reducible repeat (first | refine blk_drewN ?_ _ | refine blk_drew ?_ | refine blk_alloc ?_ _)); exact BK183.out)) : gb183 ≠ gb188)); have n6_ := Aside0.mk ((by rw [hg]; exact Nat.ne_of_gt (blk_lt (g := gb183) (o := .cells #[.slice (some ad184) l0_0.length c0_0] 38 (0, 0)) (by (with_reducible repeat (first | refine blk_drewN ?_ _ | refine blk_drew ?_ | refine blk_alloc ?_ _)); exact BK183.out)) : gb188 ≠ gb183)); clear BK183; clear HB; have BK183 := n0_; have HB := n1_; have BK188 := n2_; have GW188 := n3_; have GE188 := n4_; have NB183_188 := n5_; have NB188_183 := n6_; clear n0_ n1_ n2_ n3_ n4_ n5_ n6_; clear hb hbox hg; have hnb42 := NB188_183.out; have hnc42 := NB183_188.out; have hcz43_0 : w41.cell? ⟨gb188, 0, none⟩ = some (.int .i64 0) := (blk_cell BK188.out 0).trans rfl; have hcz43_1 : w41.cell? ⟨gb188, 1, none⟩ = some (.int .i64 0) := (blk_cell BK188.out 1).trans rfl; have hfz43_0 := blk_frozen BK188.out 0; have hfz43_1 := blk_frozen BK188.out 1))
                                                  repeat (go_quiet (first | ((with_reducible refine gate_dst (N := 8) rfl ?_); refine box_event ?hg (N := 8) ?hd (cs := #[.int .i64 0, .int .i64 0]) (t := 44) ?hr ?_; (case hd => rfl); (case hg => rfl); (case hr => first | (go_simp; done) | (go_simp; rfl)); intro gb188 hg w41 hbox hb; have n0_ := Aside0.mk (blk_below (g := gb183) (o := .cells #[.slice (some ad184) l0_0.length c0_0] 38 (0, 0)) (by (with_reducible repeat (first | refine blk_drewN ?_ _ | refine blk_drew ?_ | refine blk_alloc ?_ _)); exact BK183.out) hb); have n1_ := Aside0.mk (below_step (by repeat (first | (with_reducible first | exact HB.out | apply below_alloc | apply pw_below_drewN | apply below_drew1 | refine below_set ?_ GE183.out) | exact HB.out)) hb); have n2_ := Aside0.mk (hbox); have n3_ := Aside0.mk ((by rw [hg]; exact (below_size (by repeat (first | (with_reducible first | exact HB.out | apply below_alloc | apply pw_below_drewN | apply below_drew1 | refine below_set ?_ GE183.out) | exact HB.out))) : w.heap.size ≤ gb188)); have n4_ := Aside0.mk ((by rw [hg]; exact (below_size (by repeat (first | (with_reducible first | exact HB.out | apply below_alloc | apply pw_below_drewN | apply below_drew1 | refine below_set ?_ GE183.out) | exact HB.out))) : w.heap.size ≤ gb188)); have n5_ := Aside0.mk ((by rw [hg]; exact Nat.ne_of_lt (blk_lt (g := gb183) (o := .cells #[.slice (some ad184) l0_0.length c0_0] 38 (0, 0)) (by (with_reducible repeat (first | refine blk_drewN ?_ _ | refine blk_drew ?_ | refine blk_alloc ?_ _)); exact BK183.out)) : gb183 ≠ gb188)); have n6_ := Aside0.mk ((by rw [hg]; exact Nat.ne_of_gt (blk_lt (g := gb183) (o := .cells #[.slice (some ad184) l0_0.length c0_0] 38 (0, 0)) (by (with_reducible repeat (first | refine blk_drewN ?_ _ | refine blk_drew ?_ | refine blk_alloc ?_ _)); exact BK183.out)) : gb188 ≠ gb183)); clear BK183; clear HB; have BK183 := n0_; have HB := n1_; have BK188 := n2_; have GW188 := n3_; have GE188 := n4_; have NB183_188 := n5_; have NB188_183 := n6_; clear n0_ n1_ n2_ n3_ n4_ n5_ n6_; clear hb hbox hg; have hnb42 := NB188_183.out; have hnc42 := NB183_188.out; have hcz43_0 : w41.cell? ⟨gb188, 0, none⟩ = some (.int .i64 0) := (blk_cell BK188.out 0).trans rfl; have hcz43_1 : w41.cell? ⟨gb188, 1, none⟩ = some (.int .i64 0) := (blk_cell BK188.out 1).trans rfl; have hfz43_0 := blk_frozen BK188.out 0; have hfz43_1 := blk_frozen BK188.out 1)); try go_wp2_with (first | ((with_reducible refine gate_dst (N := 8) rfl ?_); refine box_event ?hg (N := 8) ?hd (cs := #[.int .i64 0, .int .i64 0]) (t := 44) ?hr ?_; (case hd => rfl); (case hg => rfl); (case hr => first | (go_simp; done) | (go_simp; rfl)); intro gb188 hg w41 hbox hb; have n0_ := Aside0.mk (blk_below (g := gb183) (o := .cells #[.slice (some ad184) l0_0.length c0_0] 38 (0, 0)) (by (with_reducible repeat (first | refine blk_drewN ?_ _ | refine blk_drew ?_ | refine blk_alloc ?_ _)); exact BK183.out) hb); have n1_ := Aside0.mk (below_step (by repeat (first | (with_reducible first | exact HB.out | apply below_alloc | apply pw_below_drewN | apply below_drew1 | refine below_set ?_ GE183.out) | exact HB.out)) hb); have n2_ := Aside0.mk (hbox); have n3_ := Aside0.mk ((by rw [hg]; exact (below_size (by repeat (first | (with_reducible first | exact HB.out | apply below_alloc | apply pw_below_drewN | apply below_drew1 | refine below_set ?_ GE183.out) | exact HB.out))) : w.heap.size ≤ gb188)); have n4_ := Aside0.mk ((by rw [hg]; exact (below_size (by repeat (first | (with_reducible first | exact HB.out | apply below_alloc | apply pw_below_drewN | apply below_drew1 | refine below_set ?_ GE183.out) | exact HB.out))) : w.heap.size ≤ gb188)); have n5_ := Aside0.mk ((by rw [hg]; exact Nat.ne_of_lt (blk_lt (g := gb183) (o := .cells #[.slice (some ad184) l0_0.length c0_0] 38 (0, 0)) (by (with_reducible repeat (first | refine blk_drewN ?_ _ | refine blk_drew ?_ | refine blk_alloc ?_ _)); exact BK183.out)) : gb183 ≠ gb188)); have n6_ := Aside0.mk ((by rw [hg]; exact Nat.ne_of_gt (blk_lt (g := gb183) (o := .cells #[.slice (some ad184) l0_0.length c0_0] 38 (0, 0)) (by (with_reducible repeat (first | refine blk_drewN ?_ _ | refine blk_drew ?_ | refine blk_alloc ?_ _)); exact BK183.out)) : gb188 ≠ gb183)); clear BK183; clear HB; have BK183 := n0_; have HB := n1_; have BK188 := n2_; have GW188 := n3_; have GE188 := n4_; have NB183_188 := n5_; have NB188_183 := n6_; clear n0_ n1_ n2_ n3_ n4_ n5_ n6_; clear hb hbox hg; have hnb42 := NB188_183.out; have hnc42 := NB183_188.out; have hcz43_0 : w41.cell? ⟨gb188, 0, none⟩ = some (.int .i64 0) := (blk_cell BK188.out 0).trans rfl; have hcz43_1 : w41.cell? ⟨gb188, 1, none⟩ = some (.int .i64 0) := (blk_cell BK188.out 1).trans rfl; have hfz43_0 := blk_frozen BK188.out 0; have hfz43_1 := blk_frozen BK188.out 1)))
                                                  go_ret
                                                  exact ⟨by first | rfl | (simp [errW_none, errW_some] <;> rfl) | (simp [*, errW_none, errW_some] <;> rfl), by repeat (first | (with_reducible first | exact HB.out | apply below_alloc | apply pw_below_drewN | apply below_drew1 | refine below_set ?_ GE183.out | refine below_set ?_ GE188.out) | exact HB.out)⟩
                                                · rw [if_neg c39] at H
                                                  have c39b0 : decide (((rd_L4 l0_0 0).length : Int) ≤ ((rd_T44 (rd_L4 l0_0 x6_4) x7_5).f1)) = false := decide_eq_false c39
                                                  clear c39
                                                  by_cases c44 : 0 ≤ ((rd_T44 (rd_L4 l0_0 x6_4) x7_5).f0)
                                                  · rw [if_pos c44] at H
                                                    have c44b0 : decide (0 ≤ ((rd_T44 (rd_L4 l0_0 x6_4) x7_5).f0)) = true := decide_eq_true c44
                                                    clear c44
                                                    by_cases c45 : ((rd_T44 (rd_L4 l0_0 x6_4) x7_5).f0) < (l0_0.length : Int)
                                                    · rw [if_pos c45] at H
                                                      have c45b0 : decide (((rd_T44 (rd_L4 l0_0 x6_4) x7_5).f0) < (l0_0.length : Int)) = true := decide_eq_true c45
                                                      clear c45
                                                      by_cases c46 : 0 ≤ ((rd_T44 (rd_L4 l0_0 x6_4) x7_5).f1)
                                                      · rw [if_pos c46] at H
                                                        have c46b0 : decide (0 ≤ ((rd_T44 (rd_L4 l0_0 x6_4) x7_5).f1)) = true := decide_eq_true c46
                                                        clear c46
                                                        by_cases c47 : ((rd_T44 (rd_L4 l0_0 x6_4) x7_5).f1) < ((rd_L4 l0_0 ((rd_T44 (rd_L4 l0_0 x6_4) x7_5).f0)).length : Int)
                                                        · rw [if_pos c47] at H
                                                          have c47b0 : decide (((rd_T44 (rd_L4 l0_0 x6_4) x7_5).f1) < ((rd_L4 l0_0 ((rd_T44 (rd_L4 l0_0 x6_4) x7_5).f0)).length : Int)) = true := decide_eq_true c47
                                                          clear c47
                                                          by_cases c48 : (!(((rd_T44 (rd_L4 l0_0 ((rd_T44 (rd_L4 l0_0 x6_4) x7_5).f0)) ((rd_T44 (rd_L4 l0_0 x6_4) x7_5).f1)).f0) == x6_4) || (!(((rd_T44 (rd_L4 l0_0 ((rd_T44 (rd_L4 l0_0 x6_4) x7_5).f0)) ((rd_T44 (rd_L4 l0_0 x6_4) x7_5).f1)).f1) == x7_5))) = true
                                                          · rw [if_pos c48] at H
                                                            have c48b0 : (!(((rd_T44 (rd_L4 l0_0 ((rd_T44 (rd_L4 l0_0 x6_4) x7_5).f0)) ((rd_T44 (rd_L4 l0_0 x6_4) x7_5).f1)).f0) == x6_4) || (!(((rd_T44 (rd_L4 l0_0 ((rd_T44 (rd_L4 l0_0 x6_4) x7_5).f0)) ((rd_T44 (rd_L4 l0_0 x6_4) x7_5).f1)).f1) == x7_5))) = true := c48
                                                            clear c48
                                                            obtain rfl := Option.some.inj H
                                                            have hcz49_0 : wr.cell? ⟨gb183, 0, none⟩ = some (.slice (some ad184) l0_0.length c0_0) := (blk_cell BK183.out 0).trans rfl
                                                            have hfz49_0 := blk_frozen BK183.out 0
                                                            have p186 : 0 ≤ (x6_4 : Int) := of_decide_eq_true (by first | (with_reducible assumption) | assumption)
                                                            have q186 : x6_4 < (l0_0.length : Int) := of_decide_eq_true (by first | (with_reducible assumption) | assumption)
                                                            obtain ⟨ad186, A186_0, c186_0, e186, hx186_0, hl186_0, hi186_0⟩ := at_L4 HR0_0.out x6_4 p186 q186
                                                            obtain rfl : ad184 = ad186 := (by injection e186)
                                                            replace hx186_0 := (HB.out.cell (World.block_lt_of_cell? w _ hx186_0)).trans hx186_0
                                                            have HR186_0 := Aside0.mk hi186_0
                                                            have HC186_0 := Aside0.mk hl186_0
                                                            clear hi186_0 hl186_0
                                                            replace p186 := eq_true p186
                                                            replace q186 := eq_true q186
                                                            have p187 : 0 ≤ (x7_5 : Int) := of_decide_eq_true (by first | (with_reducible assumption) | assumption)
                                                            have q187 : x7_5 < ((rd_L4 l0_0 x6_4).length : Int) := of_decide_eq_true (by first | (with_reducible assumption) | assumption)
                                                            obtain ⟨ad187, e187, hx187_0, hx187_1⟩ := at_T44 HR186_0.out x7_5 p187 q187
                                                            cases e187
                                                            replace hx187_0 := (HB.out.cell (World.block_lt_of_cell? w _ hx187_0)).trans hx187_0
                                                            replace hx187_1 := (HB.out.cell (World.block_lt_of_cell? w _ hx187_1)).trans hx187_1
                                                            replace p187 := eq_true p187
                                                            replace q187 := eq_true q187
                                                            go_wp2_with (first | ((with_reducible refine gate_dst (N := 8) rfl ?_); refine box_event ?hg (N := 8) ?hd (cs := #[.int .i64 0, .int .i64 0]) (t := 44) ?hr ?_; (case hd => rfl); (case hg => rfl); (case hr => first | (go_simp; done) | (go_simp; rfl)); intro gb188 hg w50 hbox hb; have n0_ := Aside0.mk (blk_below (g := gb183) (o := .cells #[.slice (some ad184) l0_0.length c0_0] 38 (0, 0)) (by (with_reducible repeat (first | refine blk_drewN ?_ _ | refine blk_drew ?_ | refine blk_alloc ?_ _)); exact BK183.out) hb); have n1_ := Aside0.mk (below_step (by repeat (first | (with_reducible first | exact HB.out | apply below_alloc | apply pw_below_drewN | apply below_drew1 | refine below_set ?_ GE183.out) | exact HB.out)) hb); have n2_ := Aside0.mk (hbox); have n3_ := Aside0.mk ((by rw [hg]; exact (below_size (by repeat (first | (with_reducible first | exact HB.out | apply below_alloc | apply pw_below_drewN | apply below_drew1 | refine below_set ?_ GE183.out) | exact HB.out))) : w.heap.size ≤ gb188)); have n4_ := Aside0.mk ((by rw [hg]; exact (below_size (by repeat (first | (with_reducible first | exact HB.out | apply below_alloc | apply pw_below_drewN | apply below_drew1 | refine below_set ?_ GE183.out) | exact HB.out))) : w.heap.size ≤ gb188)); have n5_ := Aside0.mk ((by rw [hg]; exact Nat.ne_of_lt (blk_lt (g := gb183) (o := .cells #[.slice (some ad184) l0_0.length c0_0] 38 (0, 0)) (by (with_reducible repeat (first | refine blk_drewN ?_ _ | refine blk_drew ?_ | refine blk_alloc ?_ _)); exact BK183.out)) : gb183 ≠ gb188)); have n6_ := Aside0.mk ((by rw [hg]; exact Nat.ne_of_gt (blk_lt (g := gb183) (o := .cells #[.slice (some ad184) l0_0.length c0_0] 38 (0, 0)) (by (with_reducible repeat (first | refine blk_drewN ?_ _ | refine blk_drew ?_ | refine blk_alloc ?_ _)); exact BK183.out)) : gb188 ≠ gb183)); clear BK183; clear HB; have BK183 := n0_; have HB := n1_; have BK188 := n2_; have GW188 := n3_; have GE188 := n4_; have NB183_188 := n5_; have NB188_183 := n6_; clear n0_ n1_ n2_ n3_ n4_ n5_ n6_; clear hb hbox hg; have hnb51 := NB188_183.out; have hnc51 := NB183_188.out; have hcz52_0 : w50.cell? ⟨gb188, 0, none⟩ = some (.int .i64 0) := (blk_cell BK188.out 0).trans rfl; have hcz52_1 : w50.cell? ⟨gb188, 1, none⟩ = some (.int .i64 0) := (blk_cell BK188.out 1).trans rfl; have hfz52_0 := blk_frozen BK188.out 0; have hfz52_1 := blk_frozen BK188.out 1; have hcz53_0 : w50.cell? ⟨gb183, 0, none⟩ = some (.slice (some ad184) l0_0.length c0_0) := (blk_cell BK183.out 0).trans rfl; have hfz53_0 := blk_frozen BK183.out 0; have p189 : 0 ≤ (((rd_T44 (rd_L4 l0_0 x6_4) x7_5).f0) : Int) := of_decide_eq_true (by first | (with_reducible assumption) | assumption); have q189 : ((rd_T44 (rd_L4 l0_0 x6_4) x7_5).f0) < (l0_0.length : Int) := of_decide_eq_true (by first | (with_reducible assumption) | assumption); obtain ⟨ad189, A189_0, c189_0, e189, hx189_0, hl189_0, hi189_0⟩ := at_L4 HR0_0.out ((rd_T44 (rd_L4 l0_0 x6_4) x7_5).f0) p189 q189; obtain rfl : ad184 = ad189 := (by injection e189); have hn189_0 : ad184.block ≠ gb188 := Nat.ne_of_lt (Nat.lt_of_lt_of_le (by have := World.block_lt_of_cell? _ _ hx189_0; first | rwa [add_block] at this | exact this) GW188.out); have hn189_1 : ad184.block ≠ gb188 := Nat.ne_of_lt (Nat.lt_of_lt_of_le (by have := World.block_lt_of_cell? _ _ hx189_0; first | rwa [add_block] at this | exact this) GW188.out); replace hx189_0 := (HB.out.cell (World.block_lt_of_cell? w _ hx189_0)).trans hx189_0; have HR189_0 := Aside0.mk hi189_0; have HC189_0 := Aside0.mk hl189_0; clear hi189_0 hl189_0; replace hx189_0 := (cell_far (p := ⟨gb188, 0, none⟩) (by first | (rw [add_block]; exact hn189_0) | (show (Addr.add _ _).block ≠ _; rw [add_block]; exact hn189_0) | exact hn189_0) (.int .i64 ((rd_T44 (rd_L4 l0_0 x6_4) x7_5).f0))).trans hx189_0; replace hx189_0 := (cell_far (p := ⟨gb188, 1, none⟩) (by first | (rw [add_block]; exact hn189_1) | (show (Addr.add _ _).block ≠ _; rw [add_block]; exact hn189_1) | exact hn189_1) (.int .i64 ((rd_T44 (rd_L4 l0_0 x6_4) x7_5).f1))).trans hx189_0; (try have hy189_0 := fun (n_ : Nat) => (show ((((w50.drewN n_).setCell ⟨gb188, 0, none⟩ (.int .i64 ((rd_T44 (rd_L4 l0_0 x6_4) x7_5).f0))).setCell ⟨gb188, 1, none⟩ (.int .i64 ((rd_T44 (rd_L4 l0_0 x6_4) x7_5).f1)))).cell? _ = some _ from hx189_0)); clear hn189_0; clear hn189_1; replace p189 := eq_true p189; replace q189 := eq_true q189; have p190 : 0 ≤ (((rd_T44 (rd_L4 l0_0 x6_4) x7_5).f1) : Int) := of_decide_eq_true (by first | (with_reducible assumption) | assumption); have q190 : ((rd_T44 (rd_L4 l0_0 x6_4) x7_5).f1) < ((rd_L4 l0_0 ((rd_T44 (rd_L4 l0_0 x6_4) x7_5).f0)).length : Int) := of_decide_eq_true (by first | (with_reducible assumption) | assumption); obtain ⟨ad190, e190, hx190_0, hx190_1⟩ := at_T44 HR189_0.out ((rd_T44 (rd_L4 l0_0 x6_4) x7_5).f1) p190 q190; cases e190; have hn190_0 : ad190.block ≠ gb188 := Nat.ne_of_lt (Nat.lt_of_lt_of_le (by have := World.block_lt_of_cell? _ _ hx190_0; first | rwa [add_block] at this | exact this) GW188.out); have hn190_1 : ad190.block ≠ gb188 := Nat.ne_of_lt (Nat.lt_of_lt_of_le (by have := World.block_lt_of_cell? _ _ hx190_0; first | rwa [add_block] at this | exact this) GW188.out); replace hx190_0 := (HB.out.cell (World.block_lt_of_cell? w _ hx190_0)).trans hx190_0; replace hx190_1 := (HB.out.cell (World.block_lt_of_cell? w _ hx190_1)).trans hx190_1; replace hx190_0 := (cell_far (p := ⟨gb188, 0, none⟩) (by first | (rw [add_block]; exact hn190_0) | (show (Addr.add _ _).block ≠ _; rw [add_block]; exact hn190_0) | exact hn190_0) (.int .i64 ((rd_T44 (rd_L4 l0_0 x6_4) x7_5).f0))).trans hx190_0; replace hx190_1 := (cell_far (p := ⟨gb188, 0, none⟩) (by first | (rw [add_block]; exact hn190_0) | (show (Addr.add _ _).block ≠ _; rw [add_block]; exact hn190_0) | exact hn190_0) (.int .i64 ((rd_T44 (rd_L4 l0_0 x6_4) x7_5).f0))).trans hx190_1; replace hx190_0 := (cell_far (p := ⟨gb188, 1, none⟩) (by first | (rw [add_block]; exact hn190_1) | (show (Addr.add _ _).block ≠ _; rw [add_block]; exact hn190_1) | exact hn190_1) (.int .i64 ((rd_T44 (rd_L4 l0_0 x6_4) x7_5).f1))).trans hx190_0; replace hx190_1 := (cell_far (p := ⟨gb188, 1, none⟩) (by first | (rw [add_block]; exact hn190_1) | (show (Addr.add _ _).block ≠ _; rw [add_block]; exact hn190_1) | exact hn190_1) (.int .i64 ((rd_T44 (rd_L4 l0_0 x6_4) x7_5).f1))).trans hx190_1; (try have hy190_0 := fun (n_ : Nat) => (show ((((w50.drewN n_).setCell ⟨gb188, 0, none⟩ (.int .i64 ((rd_T44 (rd_L4 l0_0 x6_4) x7_5).f0))).setCell ⟨gb188, 1, none⟩ (.int .i64 ((rd_T44 (rd_L4 l0_0 x6_4) x7_5).f1)))).cell? _ = some _ from hx190_0)); (try have hy190_1 := fun (n_ : Nat) => (show ((((w50.drewN n_).setCell ⟨gb188, 0, none⟩ (.int .i64 ((rd_T44 (rd_L4 l0_0 x6_4) x7_5).f0))).setCell ⟨gb188, 1, none⟩ (.int .i64 ((rd_T44 (rd_L4 l0_0 x6_4) x7_5).f1)))).cell? _ = some _ from hx190_1)); clear hn190_0; clear hn190_1; replace p190 := eq_true p190; replace q190 := eq_true q190))
                                                            repeat (go_quiet (first | ((with_reducible refine gate_dst (N := 8) rfl ?_); refine box_event ?hg (N := 8) ?hd (cs := #[.int .i64 0, .int .i64 0]) (t := 44) ?hr ?_; (case hd => rfl); (case hg => rfl); (case hr => first | (go_simp; done) | (go_simp; rfl)); intro gb188 hg w50 hbox hb; have n0_ := Aside0.mk (blk_below (g := gb183) (o := .cells #[.slice (some ad184) l0_0.length c0_0] 38 (0, 0)) (by (with_reducible repeat (first | refine blk_drewN ?_ _ | refine blk_drew ?_ | refine blk_alloc ?_ _)); exact BK183.out) hb); have n1_ := Aside0.mk (below_step (by repeat (first | (with_reducible first | exact HB.out | apply below_alloc | apply pw_below_drewN | apply below_drew1 | refine below_set ?_ GE183.out) | exact HB.out)) hb); have n2_ := Aside0.mk (hbox); have n3_ := Aside0.mk ((by rw [hg]; exact (below_size (by repeat (first | (with_reducible first | exact HB.out | apply below_alloc | apply pw_below_drewN | apply below_drew1 | refine below_set ?_ GE183.out) | exact HB.out))) : w.heap.size ≤ gb188)); have n4_ := Aside0.mk ((by rw [hg]; exact (below_size (by repeat (first | (with_reducible first | exact HB.out | apply below_alloc | apply pw_below_drewN | apply below_drew1 | refine below_set ?_ GE183.out) | exact HB.out))) : w.heap.size ≤ gb188)); have n5_ := Aside0.mk ((by rw [hg]; exact Nat.ne_of_lt (blk_lt (g := gb183) (o := .cells #[.slice (some ad184) l0_0.length c0_0] 38 (0, 0)) (by (with_reducible repeat (first | refine blk_drewN ?_ _ | refine blk_drew ?_ | refine blk_alloc ?_ _)); exact BK183.out)) : gb183 ≠ gb188)); have n6_ := Aside0.mk ((by rw [hg]; exact Nat.ne_of_gt (blk_lt (g := gb183) (o := .cells #[.slice (some ad184) l0_0.length c0_0] 38 (0, 0)) (by (with_reducible repeat (first | refine blk_drewN ?_ _ | refine blk_drew ?_ | refine blk_alloc ?_ _)); exact BK183.out)) : gb188 ≠ gb183)); clear BK183; clear HB; have BK183 := n0_; have HB := n1_; have BK188 := n2_; have GW188 := n3_; have GE188 := n4_; have NB183_188 := n5_; have NB188_183 := n6_; clear n0_ n1_ n2_ n3_ n4_ n5_ n6_; clear hb hbox hg; have hnb51 := NB188_183.out; have hnc51 := NB183_188.out; have hcz52_0 : w50.cell? ⟨gb188, 0, none⟩ = some (.int .i64 0) := (blk_cell BK188.out 0).trans rfl; have hcz52_1 : w50.cell? ⟨gb188, 1, none⟩ = some (.int .i64 0) := (blk_cell BK188.out 1).trans rfl; have hfz52_0 := blk_frozen BK188.out 0; have hfz52_1 := blk_frozen BK188.out 1; have hcz53_0 : w50.cell? ⟨gb183, 0, none⟩ = some (.slice (some ad184) l0_0.length c0_0) := (blk_cell BK183.out 0).trans rfl; have hfz53_0 := blk_frozen BK183.out 0; have p189 : 0 ≤ (((rd_T44 (rd_L4 l0_0 x6_4) x7_5).f0) : Int) := of_decide_eq_true (by first | (with_reducible assumption) | assumption); have q189 : ((rd_T44 (rd_L4 l0_0 x6_4) x7_5).f0) < (l0_0.length : Int) := of_decide_eq_true (by first | (with_reducible assumption) | assumption); obtain ⟨ad189, A189_0, c189_0, e189, hx189_0, hl189_0, hi189_0⟩ := at_L4 HR0_0.out ((rd_T44 (rd_L4 l0_0 x6_4) x7_5).f0) p189 q189; obtain rfl : ad184 = ad189 := (by injection e189); have hn189_0 : ad184.block ≠ gb188 := Nat.ne_of_lt (Nat.lt_of_lt_of_le (by have := World.block_lt_of_cell? _ _ hx189_0; first | rwa [add_block] at this | exact this) GW188.out); have hn189_1 : ad184.block ≠ gb188 := Nat.ne_of_lt (Nat.lt_of_lt_of_le (by have := World.block_lt_of_cell? _ _ hx189_0; first | rwa [add_block] at this | exact this) GW188.out); replace hx189_0 := (HB.out.cell (World.block_lt_of_cell? w _ hx189_0)).trans hx189_0; have HR189_0 := Aside0.mk hi189_0; have HC189_0 := Aside0.mk hl189_0; clear hi189_0 hl189_0; replace hx189_0 := (cell_far (p := ⟨gb188, 0, none⟩) (by first | (rw [add_block]; exact hn189_0) | (show (Addr.add _ _).block ≠ _; rw [add_block]; exact hn189_0) | exact hn189_0) (.int .i64 ((rd_T44 (rd_L4 l0_0 x6_4) x7_5).f0))).trans hx189_0; replace hx189_0 := (cell_far (p := ⟨gb188, 1, none⟩) (by first | (rw [add_block]; exact hn189_1) | (show (Addr.add _ _).block ≠ _; rw [add_block]; exact hn189_1) | exact hn189_1) (.int .i64 ((rd_T44 (rd_L4 l0_0 x6_4) x7_5).f1))).trans hx189_0; (try have hy189_0 := fun (n_ : Nat) => (show ((((w50.drewN n_).setCell ⟨gb188, 0, none⟩ (.int .i64 ((rd_T44 (rd_L4 l0_0 x6_4) x7_5).f0))).setCell ⟨gb188, 1, none⟩ (.int .i64 ((rd_T44 (rd_L4 l0_0 x6_4) x7_5).f1)))).cell? _ = some _ from hx189_0)); clear hn189_0; clear hn189_1; replace p189 := eq_true p189; replace q189 := eq_true q189; have p190 : 0 ≤ (((rd_T44 (rd_L4 l0_0 x6_4) x7_5).f1) : Int) := of_decide_eq_true (by first | (with_reducible assumption) | assumption); have q190 : ((rd_T44 (rd_L4 l0_0 x6_4) x7_5).f1) < ((rd_L4 l0_0 ((rd_T44 (rd_L4 l0_0 x6_4) x7_5).f0)).length : Int) := of_decide_eq_true (by first | (with_reducible assumption) | assumption); obtain ⟨ad190, e190, hx190_0, hx190_1⟩ := at_T44 HR189_0.out ((rd_T44 (rd_L4 l0_0 x6_4) x7_5).f1) p190 q190; cases e190; have hn190_0 : ad190.block ≠ gb188 := Nat.ne_of_lt (Nat.lt_of_lt_of_le (by have := World.block_lt_of_cell? _ _ hx190_0; first | rwa [add_block] at this | exact this) GW188.out); have hn190_1 : ad190.block ≠ gb188 := Nat.ne_of_lt (Nat.lt_of_lt_of_le (by have := World.block_lt_of_cell? _ _ hx190_0; first | rwa [add_block] at this | exact this) GW188.out); replace hx190_0 := (HB.out.cell (World.block_lt_of_cell? w _ hx190_0)).trans hx190_0; replace hx190_1 := (HB.out.cell (World.block_lt_of_cell? w _ hx190_1)).trans hx190_1; replace hx190_0 := (cell_far (p := ⟨gb188, 0, none⟩) (by first | (rw [add_block]; exact hn190_0) | (show (Addr.add _ _).block ≠ _; rw [add_block]; exact hn190_0) | exact hn190_0) (.int .i64 ((rd_T44 (rd_L4 l0_0 x6_4) x7_5).f0))).trans hx190_0; replace hx190_1 := (cell_far (p := ⟨gb188, 0, none⟩) (by first | (rw [add_block]; exact hn190_0) | (show (Addr.add _ _).block ≠ _; rw [add_block]; exact hn190_0) | exact hn190_0) (.int .i64 ((rd_T44 (rd_L4 l0_0 x6_4) x7_5).f0))).trans hx190_1; replace hx190_0 := (cell_far (p := ⟨gb188, 1, none⟩) (by first | (rw [add_block]; exact hn190_1) | (show (Addr.add _ _).block ≠ _; rw [add_block]; exact hn190_1) | exact hn190_1) (.int .i64 ((rd_T44 (rd_L4 l0_0 x6_4) x7_5).f1))).trans hx190_0; replace hx190_1 := (cell_far (p := ⟨gb188, 1, none⟩) (by first | (rw [add_block]; exact hn190_1) | (show (Addr.add _ _).block ≠ _; rw [add_block]; exact hn190_1) | exact hn190_1) (.int .i64 ((rd_T44 (rd_L4 l0_0 x6_4) x7_5).f1))).trans hx190_1; (try have hy190_0 := fun (n_ : Nat) => (show ((((w50.drewN n_).setCell ⟨gb188, 0, none⟩ (.int .i64 ((rd_T44 (rd_L4 l0_0 x6_4) x7_5).f0))).setCell ⟨gb188, 1, none⟩ (.int .i64 ((rd_T44 (rd_L4 l0_0 x6_4) x7_5).f1)))).cell? _ = some _ from hx190_0)); (try have hy190_1 := fun (n_ : Nat) => (show ((((w50.drewN n_).setCell ⟨gb188, 0, none⟩ (.int .i64 ((rd_T44 (rd_L4 l0_0 x6_4) x7_5).f0))).setCell ⟨gb188, 1, none⟩ (.int .i64 ((rd_T44 (rd_L4 l0_0 x6_4) x7_5).f1)))).cell? _ = some _ from hx190_1)); clear hn190_0; clear hn190_1; replace p190 := eq_true p190; replace q190 := eq_true q190)); try go_wp2_with (first | ((with_reducible refine gate_dst (N := 8) rfl ?_); refine box_event ?hg (N := 8) ?hd (cs := #[.int .i64 0, .int .i64 0]) (t := 44) ?hr ?_; (case hd => rfl); (case hg => rfl); (case hr => first | (go_simp; done) | (go_simp; rfl)); intro gb188 hg w50 hbox hb; have n0_ := Aside0.mk (blk_below (g := gb183) (o := .cells #[.slice (some ad184) l0_0.length c0_0] 38 (0, 0)) (by (with_reducible repeat (first | refine blk_drewN ?_ _ | refine blk_drew ?_ | refine blk_alloc ?_ _)); exact BK183.out) hb); have n1_ := Aside0.mk (below_step (by repeat (first | (with_reducible first | exact HB.out | apply below_alloc | apply pw_below_drewN | apply below_drew1 | refine below_set ?_ GE183.out) | exact HB.out)) hb); have n2_ := Aside0.mk (hbox); have n3_ := Aside0.mk ((by rw [hg]; exact (below_size (by repeat (first | (with_reducible first | exact HB.out | apply below_alloc | apply pw_below_drewN | apply below_drew1 | refine below_set ?_ GE183.out) | exact HB.out))) : w.heap.size ≤ gb188)); have n4_ := Aside0.mk ((by rw [hg]; exact (below_size (by repeat (first | (with_reducible first | exact HB.out | apply below_alloc | apply pw_below_drewN | apply below_drew1 | refine below_set ?_ GE183.out) | exact HB.out))) : w.heap.size ≤ gb188)); have n5_ := Aside0.mk ((by rw [hg]; exact Nat.ne_of_lt (blk_lt (g := gb183) (o := .cells #[.slice (some ad184) l0_0.length c0_0] 38 (0, 0)) (by (with_reducible repeat (first | refine blk_drewN ?_ _ | refine blk_drew ?_ | refine blk_alloc ?_ _)); exact BK183.out)) : gb183 ≠ gb188)); have n6_ := Aside0.mk ((by rw [hg]; exact Nat.ne_of_gt (blk_lt (g := gb183) (o := .cells #[.slice (some ad184) l0_0.length c0_0] 38 (0, 0)) (by (with_reducible repeat (first | refine blk_drewN ?_ _ | refine blk_drew ?_ | refine blk_alloc ?_ _)); exact BK183.out)) : gb188 ≠ gb183)); clear BK183; clear HB; have BK183 := n0_; have HB := n1_; have BK188 := n2_; have GW188 := n3_; have GE188 := n4_; have NB183_188 := n5_; have NB188_183 := n6_; clear n0_ n1_ n2_ n3_ n4_ n5_ n6_; clear hb hbox hg; have hnb51 := NB188_183.out; have hnc51 := NB183_188.out; have hcz52_0 : w50.cell? ⟨gb188, 0, none⟩ = some (.int .i64 0) := (blk_cell BK188.out 0).trans rfl; have hcz52_1 : w50.cell? ⟨gb188, 1, none⟩ = some (.int .i64 0) := (blk_cell BK188.out 1).trans rfl; have hfz52_0 := blk_frozen BK188.out 0; have hfz52_1 := blk_frozen BK188.out 1; have hcz53_0 : w50.cell? ⟨gb183, 0, none⟩ = some (.slice (some ad184) l0_0.length c0_0) := (blk_cell BK183.out 0).trans rfl; have hfz53_0 := blk_frozen BK183.out 0; have p189 : 0 ≤ (((rd_T44 (rd_L4 l0_0 x6_4) x7_5).f0) : Int) := of_decide_eq_true (by first | (with_reducible assumption) | assumption); have q189 : ((rd_T44 (rd_L4 l0_0 x6_4) x7_5).f0) < (l0_0.length : Int) := of_decide_eq_true (by first | (with_reducible assumption) | assumption); obtain ⟨ad189, A189_0, c189_0, e189, hx189_0, hl189_0, hi189_0⟩ := at_L4 HR0_0.out ((rd_T44 (rd_L4 l0_0 x6_4) x7_5).f0) p189 q189; obtain rfl : ad184 = ad189 := (by injection e189); have hn189_0 : ad184.block ≠ gb188 := Nat.ne_of_lt (Nat.lt_of_lt_of_le (by have := World.block_lt_of_cell? _ _ hx189_0; first | rwa [add_block] at this | exact this) GW188.out); have hn189_1 : ad184.block ≠ gb188 := Nat.ne_of_lt (Nat.lt_of_lt_of_le (by have := World.block_lt_of_cell? _ _ hx189_0; first | rwa [add_block] at this | exact this) GW188.out); replace hx189_0 := (HB.out.cell (World.block_lt_of_cell? w _ hx189_0)).trans hx189_0; have HR189_0 := Aside0.mk hi189_0; have HC189_0 := Aside0.mk hl189_0; clear hi189_0 hl189_0; replace hx189_0 := (cell_far (p := ⟨gb188, 0, none⟩) (by first | (rw [add_block]; exact hn189_0) | (show (Addr.add _ _).block ≠ _; rw [add_block]; exact hn189_0) | exact hn189_0) (.int .i64 ((rd_T44 (rd_L4 l0_0 x6_4) x7_5).f0))).trans hx189_0; replace hx189_0 := (cell_far (p := ⟨gb188, 1, none⟩) (by first | (rw [add_block]; exact hn189_1) | (show (Addr.add _ _).block ≠ _; rw [add_block]; exact hn189_1) | exact hn189_1) (.int .i64 ((rd_T44 (rd_L4 l0_0 x6_4) x7_5).f1))).trans hx189_0; (try have hy189_0 := fun (n_ : Nat) => (show ((((w50.drewN n_).setCell ⟨gb188, 0, none⟩ (.int .i64 ((rd_T44 (rd_L4 l0_0 x6_4) x7_5).f0))).setCell ⟨gb188, 1, none⟩ (.int .i64 ((rd_T44 (rd_L4 l0_0 x6_4) x7_5).f1)))).cell? _ = some _ from hx189_0)); clear hn189_0; clear hn189_1; replace p189 := eq_true p189; replace q189 := eq_true q189; have p190 : 0 ≤ (((rd_T44 (rd_L4 l0_0 x6_4) x7_5).f1) : Int) := of_decide_eq_true (by first | (with_reducible assumption) | assumption); have q190 : ((rd_T44 (rd_L4 l0_0 x6_4) x7_5).f1) < ((rd_L4 l0_0 ((rd_T44 (rd_L4 l0_0 x6_4) x7_5).f0)).length : Int) := of_decide_eq_true (by first | (with_reducible assumption) | assumption); obtain ⟨ad190, e190, hx190_0, hx190_1⟩ := at_T44 HR189_0.out ((rd_T44 (rd_L4 l0_0 x6_4) x7_5).f1) p190 q190; cases e190; have hn190_0 : ad190.block ≠ gb188 := Nat.ne_of_lt (Nat.lt_of_lt_of_le (by have := World.block_lt_of_cell? _ _ hx190_0; first | rwa [add_block] at this | exact this) GW188.out); have hn190_1 : ad190.block ≠ gb188 := Nat.ne_of_lt (Nat.lt_of_lt_of_le (by have := World.block_lt_of_cell? _ _ hx190_0; first | rwa [add_block] at this | exact this) GW188.out); replace hx190_0 := (HB.out.cell (World.block_lt_of_cell? w _ hx190_0)).trans hx190_0; replace hx190_1 := (HB.out.cell (World.block_lt_of_cell? w _ hx190_1)).trans hx190_1; replace hx190_0 := (cell_far (p := ⟨gb188, 0, none⟩) (by first | (rw [add_block]; exact hn190_0) | (show (Addr.add _ _).block ≠ _; rw [add_block]; exact hn190_0) | exact hn190_0) (.int .i64 ((rd_T44 (rd_L4 l0_0 x6_4) x7_5).f0))).trans hx190_0; replace hx190_1 := (cell_far (p := ⟨gb188, 0, none⟩) (by first | (rw [add_block]; exact hn190_0) | (show (Addr.add _ _).block ≠ _; rw [add_block]; exact hn190_0) | exact hn190_0) (.int .i64 ((rd_T44 (rd_L4 l0_0 x6_4) x7_5).f0))).trans hx190_1; replace hx190_0 := (cell_far (p := ⟨gb188, 1, none⟩) (by first | (rw [add_block]; exact hn190_1) | (show (Addr.add _ _).block ≠ _; rw [add_block]; exact hn190_1) | exact hn190_1) (.int .i64 ((rd_T44 (rd_L4 l0_0 x6_4) x7_5).f1))).trans hx190_0; replace hx190_1 := (cell_far (p := ⟨gb188, 1, none⟩) (by first | (rw [add_block]; exact hn190_1) | (show (Addr.add _ _).block ≠ _; rw [add_block]; exact hn190_1) | exact hn190_1) (.int .i64 ((rd_T44 (rd_L4 l0_0 x6_4) x7_5).f1))).trans hx190_1; (try have hy190_0 := fun (n_ : Nat) => (show ((((w50.drewN n_).setCell ⟨gb188, 0, none⟩ (.int .i64 ((rd_T44 (rd_L4 l0_0 x6_4) x7_5).f0))).setCell ⟨gb188, 1, none⟩ (.int .i64 ((rd_T44 (rd_L4 l0_0 x6_4) x7_5).f1)))).cell? _ = some _ from hx190_0)); (try have hy190_1 := fun (n_ : Nat) => (show ((((w50.drewN n_).setCell ⟨gb188, 0, none⟩ (.int .i64 ((rd_T44 (rd_L4 l0_0 x6_4) x7_5).f0))).setCell ⟨gb188, 1, none⟩ (.int .i64 ((rd_T44 (rd_L4 l0_0 x6_4) x7_5).f1)))).cell? _ = some _ from hx190_1)); clear hn190_0; clear hn190_1; replace p190 := eq_true p190; replace q190 := eq_true q190)))
                                                            go_ret
                                                            exact ⟨by first | rfl | (simp [errW_none, errW_some] <;> rfl) | (simp [*, errW_none, errW_some] <;> rfl), by repeat (first | (with_reducible first | exact HB.out | apply below_alloc | apply pw_below_drewN | apply below_drew1 | refine below_set ?_ GE183.out | refine below_set ?_ GE188.out) | exact HB.out)⟩
                                                          · rw [if_neg c48] at H
                                                            have c48b0 : (!(((rd_T44 (rd_L4 l0_0 ((rd_T44 (rd_L4 l0_0 x6_4) x7_5).f0)) ((rd_T44 (rd_L4 l0_0 x6_4) x7_5).f1)).f0) == x6_4) || (!(((rd_T44 (rd_L4 l0_0 ((rd_T44 (rd_L4 l0_0 x6_4) x7_5).f0)) ((rd_T44 (rd_L4 l0_0 x6_4) x7_5).f1)).f1) == x7_5))) = false := by simpa using c48
                                                            clear c48
                                                            have H' := Aside0.mk H
                                                            clear H
                                                            have hcz54_0 : wr.cell? ⟨gb183, 0, none⟩ = some (.slice (some ad184) l0_0.length c0_0) := (blk_cell BK183.out 0).trans rfl
                                                            have hfz54_0 := blk_frozen BK183.out 0
                                                            have p186 : 0 ≤ (x6_4 : Int) := of_decide_eq_true (by first | (with_reducible assumption) | assumption)
                                                            have q186 : x6_4 < (l0_0.length : Int) := of_decide_eq_true (by first | (with_reducible assumption) | assumption)
                                                            obtain ⟨ad186, A186_0, c186_0, e186, hx186_0, hl186_0, hi186_0⟩ := at_L4 HR0_0.out x6_4 p186 q186
                                                            obtain rfl : ad184 = ad186 := (by injection e186)
                                                            replace hx186_0 := (HB.out.cell (World.block_lt_of_cell? w _ hx186_0)).trans hx186_0
                                                            have HR186_0 := Aside0.mk hi186_0
                                                            have HC186_0 := Aside0.mk hl186_0
                                                            clear hi186_0 hl186_0
                                                            replace p186 := eq_true p186
                                                            replace q186 := eq_true q186
                                                            have p187 : 0 ≤ (x7_5 : Int) := of_decide_eq_true (by first | (with_reducible assumption) | assumption)
                                                            have q187 : x7_5 < ((rd_L4 l0_0 x6_4).length : Int) := of_decide_eq_true (by first | (with_reducible assumption) | assumption)
                                                            obtain ⟨ad187, e187, hx187_0, hx187_1⟩ := at_T44 HR186_0.out x7_5 p187 q187
                                                            cases e187
                                                            replace hx187_0 := (HB.out.cell (World.block_lt_of_cell? w _ hx187_0)).trans hx187_0
                                                            replace hx187_1 := (HB.out.cell (World.block_lt_of_cell? w _ hx187_1)).trans hx187_1
                                                            replace p187 := eq_true p187
                                                            replace q187 := eq_true q187
                                                            go_wp2_with (first | ((with_reducible refine gate_dst (N := 8) rfl ?_); refine box_event ?hg (N := 8) ?hd (cs := #[.int .i64 0, .int .i64 0]) (t := 44) ?hr ?_; (case hd => rfl); (case hg => rfl); (case hr => first | (go_simp; done) | (go_simp; rfl)); intro gb188 hg w55 hbox hb; have n0_ := Aside0.mk (blk_below (g := gb183) (o := .cells #[.slice (some ad184) l0_0.length c0_0] 38 (0, 0)) (by (with_reducible repeat (first | refine blk_drewN ?_ _ | refine blk_drew ?_ | refine blk_alloc ?_ _)); exact BK183.out) hb); have n1_ := Aside0.mk (below_step (by repeat (first | (with_reducible first | exact HB.out | apply below_alloc | apply pw_below_drewN | apply below_drew1 | refine below_set ?_ GE183.out) | exact HB.out)) hb); have n2_ := Aside0.mk (hbox); have n3_ := Aside0.mk ((by rw [hg]; exact (below_size (by repeat (first | (with_reducible first | exact HB.out | apply below_alloc | apply pw_below_drewN | apply below_drew1 | refine below_set ?_ GE183.out) | exact HB.out))) : w.heap.size ≤ gb188)); have n4_ := Aside0.mk ((by rw [hg]; exact (below_size (by repeat (first | (with_reducible first | exact HB.out | apply below_alloc | apply pw_below_drewN | apply below_drew1 | refine below_set ?_ GE183.out) | exact HB.out))) : w.heap.size ≤ gb188)); have n5_ := Aside0.mk ((by rw [hg]; exact Nat.ne_of_lt (blk_lt (g := gb183) (o := .cells #[.slice (some ad184) l0_0.length c0_0] 38 (0, 0)) (by (with_reducible repeat (first | refine blk_drewN ?_ _ | refine blk_drew ?_ | refine blk_alloc ?_ _)); exact BK183.out)) : gb183 ≠ gb188)); have n6_ := Aside0.mk ((by rw [hg]; exact Nat.ne_of_gt (blk_lt (g := gb183) (o := .cells #[.slice (some ad184) l0_0.length c0_0] 38 (0, 0)) (by (with_reducible repeat (first | refine blk_drewN ?_ _ | refine blk_drew ?_ | refine blk_alloc ?_ _)); exact BK183.out)) : gb188 ≠ gb183)); clear BK183; clear HB; have BK183 := n0_; have HB := n1_; have BK188 := n2_; have GW188 := n3_; have GE188 := n4_; have NB183_188 := n5_; have NB188_183 := n6_; clear n0_ n1_ n2_ n3_ n4_ n5_ n6_; clear hb hbox hg; have hnb56 := NB188_183.out; have hnc56 := NB183_188.out; have hcz57_0 : w55.cell? ⟨gb188, 0, none⟩ = some (.int .i64 0) := (blk_cell BK188.out 0).trans rfl; have hcz57_1 : w55.cell? ⟨gb188, 1, none⟩ = some (.int .i64 0) := (blk_cell BK188.out 1).trans rfl; have hfz57_0 := blk_frozen BK188.out 0; have hfz57_1 := blk_frozen BK188.out 1; have hcz58_0 : w55.cell? ⟨gb183, 0, none⟩ = some (.slice (some ad184) l0_0.length c0_0) := (blk_cell BK183.out 0).trans rfl; have hfz58_0 := blk_frozen BK183.out 0; have p189 : 0 ≤ (((rd_T44 (rd_L4 l0_0 x6_4) x7_5).f0) : Int) := of_decide_eq_true (by first | (with_reducible assumption) | assumption); have q189 : ((rd_T44 (rd_L4 l0_0 x6_4) x7_5).f0) < (l0_0.length : Int) := of_decide_eq_true (by first | (with_reducible assumption) | assumption); obtain ⟨ad189, A189_0, c189_0, e189, hx189_0, hl189_0, hi189_0⟩ := at_L4 HR0_0.out ((rd_T44 (rd_L4 l0_0 x6_4) x7_5).f0) p189 q189; obtain rfl : ad184 = ad189 := (by injection e189); have hn189_0 : ad184.block ≠ gb188 := Nat.ne_of_lt (Nat.lt_of_lt_of_le (by have := World.block_lt_of_cell? _ _ hx189_0; first | rwa [add_block] at this | exact this) GW188.out); have hn189_1 : ad184.block ≠ gb188 := Nat.ne_of_lt (Nat.lt_of_lt_of_le (by have := World.block_lt_of_cell? _ _ hx189_0; first | rwa [add_block] at this | exact this) GW188.out); replace hx189_0 := (HB.out.cell (World.block_lt_of_cell? w _ hx189_0)).trans hx189_0; have HR189_0 := Aside0.mk hi189_0; have HC189_0 := Aside0.mk hl189_0; clear hi189_0 hl189_0; replace hx189_0 := (cell_far (p := ⟨gb188, 0, none⟩) (by first | (rw [add_block]; exact hn189_0) | (show (Addr.add _ _).block ≠ _; rw [add_block]; exact hn189_0) | exact hn189_0) (.int .i64 ((rd_T44 (rd_L4 l0_0 x6_4) x7_5).f0))).trans hx189_0; replace hx189_0 := (cell_far (p := ⟨gb188, 1, none⟩) (by first | (rw [add_block]; exact hn189_1) | (show (Addr.add _ _).block ≠ _; rw [add_block]; exact hn189_1) | exact hn189_1) (.int .i64 ((rd_T44 (rd_L4 l0_0 x6_4) x7_5).f1))).trans hx189_0; (try have hy189_0 := fun (n_ : Nat) => (show ((((w55.drewN n_).setCell ⟨gb188, 0, none⟩ (.int .i64 ((rd_T44 (rd_L4 l0_0 x6_4) x7_5).f0))).setCell ⟨gb188, 1, none⟩ (.int .i64 ((rd_T44 (rd_L4 l0_0 x6_4) x7_5).f1)))).cell? _ = some _ from hx189_0)); clear hn189_0; clear hn189_1; replace p189 := eq_true p189; replace q189 := eq_true q189; have p190 : 0 ≤ (((rd_T44 (rd_L4 l0_0 x6_4) x7_5).f1) : Int) := of_decide_eq_true (by first | (with_reducible assumption) | assumption); have q190 : ((rd_T44 (rd_L4 l0_0 x6_4) x7_5).f1) < ((rd_L4 l0_0 ((rd_T44 (rd_L4 l0_0 x6_4) x7_5).f0)).length : Int) := of_decide_eq_true (by first | (with_reducible assumption) | assumption); obtain ⟨ad190, e190, hx190_0, hx190_1⟩ := at_T44 HR189_0.out ((rd_T44 (rd_L4 l0_0 x6_4) x7_5).f1) p190 q190; cases e190; have hn190_0 : ad190.block ≠ gb188 := Nat.ne_of_lt (Nat.lt_of_lt_of_le (by have := World.block_lt_of_cell? _ _ hx190_0; first | rwa [add_block] at this | exact this) GW188.out); have hn190_1 : ad190.block ≠ gb188 := Nat.ne_of_lt (Nat.lt_of_lt_of_le (by have := World.block_lt_of_cell? _ _ hx190_0; first | rwa [add_block] at this | exact this) GW188.out); replace hx190_0 := (HB.out.cell (World.block_lt_of_cell? w _ hx190_0)).trans hx190_0; replace hx190_1 := (HB.out.cell (World.block_lt_of_cell? w _ hx190_1)).trans hx190_1; replace hx190_0 := (cell_far (p := ⟨gb188, 0, none⟩) (by first | (rw [add_block]; exact hn190_0) | (show (Addr.add _ _).block ≠ _; rw [add_block]; exact hn190_0) | exact hn190_0) (.int .i64 ((rd_T44 (rd_L4 l0_0 x6_4) x7_5).f0))).trans hx190_0; replace hx190_1 := (cell_far (p := ⟨gb188, 0, none⟩) (by first | (rw [add_block]; exact hn190_0) | (show (Addr.add _ _).block ≠ _; rw [add_block]; exact hn190_0) | exact hn190_0) (.int .i64 ((rd_T44 (rd_L4 l0_0 x6_4) x7_5).f0))).trans hx190_1; replace hx190_0 := (cell_far (p := ⟨gb188, 1, none⟩) (by first | (rw [add_block]; exact hn190_1) | (show (Addr.add _ _).block ≠ _; rw [add_block]; exact hn190_1) | exact hn190_1) (.int .i64 ((rd_T44 (rd_L4 l0_0 x6_4) x7_5).f1))).trans hx190_0; replace hx190_1 := (cell_far (p := ⟨gb188, 1, none⟩) (by first | (rw [add_block]; exact hn190_1) | (show (Addr.add _ _).block ≠ _; rw [add_block]; exact hn190_1) | exact hn190_1) (.int .i64 ((rd_T44 (rd_L4 l0_0 x6_4) x7_5).f1))).trans hx190_1; (try have hy190_0 := fun (n_ : Nat) => (show ((((w55.drewN n_).setCell ⟨gb188, 0, none⟩ (.int .i64 ((rd_T44 (rd_L4 l0_0 x6_4) x7_5).f0))).setCell ⟨gb188, 1, none⟩ (.int .i64 ((rd_T44 (rd_L4 l0_0 x6_4) x7_5).f1)))).cell? _ = some _ from hx190_0)); (try have hy190_1 := fun (n_ : Nat) => (show ((((w55.drewN n_).setCell ⟨gb188, 0, none⟩ (.int .i64 ((rd_T44 (rd_L4 l0_0 x6_4) x7_5).f0))).setCell ⟨gb188, 1, none⟩ (.int .i64 ((rd_T44 (rd_L4 l0_0 x6_4) x7_5).f1)))).cell? _ = some _ from hx190_1)); clear hn190_0; clear hn190_1; replace p190 := eq_true p190; replace q190 := eq_true q190))
                                                            repeat (go_quiet (first | ((with_reducible refine gate_dst (N := 8) rfl ?_); refine box_event ?hg (N := 8) ?hd (cs := #[.int .i64 0, .int .i64 0]) (t := 44) ?hr ?_; (case hd => rfl); (case hg => rfl); (case hr => first | (go_simp; done) | (go_simp; rfl)); intro gb188 hg w55 hbox hb; have n0_ := Aside0.mk (blk_below (g := gb183) (o := .cells #[.slice (some ad184) l0_0.length c0_0] 38 (0, 0)) (by (with_reducible repeat (first | refine blk_drewN ?_ _ | refine blk_drew ?_ | refine blk_alloc ?_ _)); exact BK183.out) hb); have n1_ := Aside0.mk (below_step (by repeat (first | (with_reducible first | exact HB.out | apply below_alloc | apply pw_below_drewN | apply below_drew1 | refine below_set ?_ GE183.out) | exact HB.out)) hb); have n2_ := Aside0.mk (hbox); have n3_ := Aside0.mk ((by rw [hg]; exact (below_size (by repeat (first | (with_reducible first | exact HB.out | apply below_alloc | apply pw_below_drewN | apply below_drew1 | refine below_set ?_ GE183.out) | exact HB.out))) : w.heap.size ≤ gb188)); have n4_ := Aside0.mk ((by rw [hg]; exact (below_size (by repeat (first | (with_reducible first | exact HB.out | apply below_alloc | apply pw_below_drewN | apply below_drew1 | refine below_set ?_ GE183.out) | exact HB.out))) : w.heap.size ≤ gb188)); have n5_ := Aside0.mk ((by rw [hg]; exact Nat.ne_of_lt (blk_lt (g := gb183) (o := .cells #[.slice (some ad184) l0_0.length c0_0] 38 (0, 0)) (by (with_reducible repeat (first | refine blk_drewN ?_ _ | refine blk_drew ?_ | refine blk_alloc ?_ _)); exact BK183.out)) : gb183 ≠ gb188)); have n6_ := Aside0.mk ((by rw [hg]; exact Nat.ne_of_gt (blk_lt (g := gb183) (o := .cells #[.slice (some ad184) l0_0.length c0_0] 38 (0, 0)) (by (with_reducible repeat (first | refine blk_drewN ?_ _ | refine blk_drew ?_ | refine blk_alloc ?_ _)); exact BK183.out)) : gb188 ≠ gb183)); clear BK183; clear HB; have BK183 := n0_; have HB := n1_; have BK188 := n2_; have GW188 := n3_; have GE188 := n4_; have NB183_188 := n5_; have NB188_183 := n6_; clear n0_ n1_ n2_ n3_ n4_ n5_ n6_; clear hb hbox hg; have hnb56 := NB188_183.out; have hnc56 := NB183_188.out; have hcz57_0 : w55.cell? ⟨gb188, 0, none⟩ = some (.int .i64 0) := (blk_cell BK188.out 0).trans rfl; have hcz57_1 : w55.cell? ⟨gb188, 1, none⟩ = some (.int .i64 0) := (blk_cell BK188.out 1).trans rfl; have hfz57_0 := blk_frozen BK188.out 0; have hfz57_1 := blk_frozen BK188.out 1; have hcz58_0 : w55.cell? ⟨gb183, 0, none⟩ = some (.slice (some ad184) l0_0.length c0_0) := (blk_cell BK183.out 0).trans rfl; have hfz58_0 := blk_frozen BK183.out 0; have p189 : 0 ≤ (((rd_T44 (rd_L4 l0_0 x6_4) x7_5).f0) : Int) := of_decide_eq_true (by first | (with_reducible assumption) | assumption); have q189 : ((rd_T44 (rd_L4 l0_0 x6_4) x7_5).f0) < (l0_0.length : Int) := of_decide_eq_true (by first | (with_reducible assumption) | assumption); obtain ⟨ad189, A189_0, c189_0, e189, hx189_0, hl189_0, hi189_0⟩ := at_L4 HR0_0.out ((rd_T44 (rd_L4 l0_0 x6_4) x7_5).f0) p189 q189; obtain rfl : ad184 = ad189 := (by injection e189); have hn189_0 : ad184.block ≠ gb188 := Nat.ne_of_lt (Nat.lt_of_lt_of_le (by have := World.block_lt_of_cell? _ _ hx189_0; first | rwa [add_block] at this | exact this) GW188.out); have hn189_1 : ad184.block ≠ gb188 := Nat.ne_of_lt (Nat.lt_of_lt_of_le (by have := World.block_lt_of_cell? _ _ hx189_0; first | rwa [add_block] at this | exact this) GW188.out); replace hx189_0 := (HB.out.cell (World.block_lt_of_cell? w _ hx189_0)).trans hx189_0; have HR189_0 := Aside0.mk hi189_0; have HC189_0 := Aside0.mk hl189_0; clear hi189_0 hl189_0; replace hx189_0 := (cell_far (p := ⟨gb188, 0, none⟩) (by first | (rw [add_block]; exact hn189_0) | (show (Addr.add _ _).block ≠ _; rw [add_block]; exact hn189_0) | exact hn189_0) (.int .i64 ((rd_T44 (rd_L4 l0_0 x6_4) x7_5).f0))).trans hx189_0; replace hx189_0 := (cell_far (p := ⟨gb188, 1, none⟩) (by first | (rw [add_block]; exact hn189_1) | (show (Addr.add _ _).block ≠ _; rw [add_block]; exact hn189_1) | exact hn189_1) (.int .i64 ((rd_T44 (rd_L4 l0_0 x6_4) x7_5).f1))).trans hx189_0; (try have hy189_0 := fun (n_ : Nat) => (show ((((w55.drewN n_).setCell ⟨gb188, 0, none⟩ (.int .i64 ((rd_T44 (rd_L4 l0_0 x6_4) x7_5).f0))).setCell ⟨gb188, 1, none⟩ (.int .i64 ((rd_T44 (rd_L4 l0_0 x6_4) x7_5).f1)))).cell? _ = some _ from hx189_0)); clear hn189_0; clear hn189_1; replace p189 := eq_true p189; replace q189 := eq_true q189; have p190 : 0 ≤ (((rd_T44 (rd_L4 l0_0 x6_4) x7_5).f1) : Int) := of_decide_eq_true (by first | (with_reducible assumption) | assumption); have q190 : ((rd_T44 (rd_L4 l0_0 x6_4) x7_5).f1) < ((rd_L4 l0_0 ((rd_T44 (rd_L4 l0_0 x6_4) x7_5).f0)).length : Int) := of_decide_eq_true (by first | (with_reducible assumption) | assumption); obtain ⟨ad190, e190, hx190_0, hx190_1⟩ := at_T44 HR189_0.out ((rd_T44 (rd_L4 l0_0 x6_4) x7_5).f1) p190 q190; cases e190; have hn190_0 : ad190.block ≠ gb188 := Nat.ne_of_lt (Nat.lt_of_lt_of_le (by have := World.block_lt_of_cell? _ _ hx190_0; first | rwa [add_block] at this | exact this) GW188.out); have hn190_1 : ad190.block ≠ gb188 := Nat.ne_of_lt (Nat.lt_of_lt_of_le (by have := World.block_lt_of_cell? _ _ hx190_0; first | rwa [add_block] at this | exact this) GW188.out); replace hx190_0 := (HB.out.cell (World.block_lt_of_cell? w _ hx190_0)).trans hx190_0; replace hx190_1 := (HB.out.cell (World.block_lt_of_cell? w _ hx190_1)).trans hx190_1; replace hx190_0 := (cell_far (p := ⟨gb188, 0, none⟩) (by first | (rw [add_block]; exact hn190_0) | (show (Addr.add _ _).block ≠ _; rw [add_block]; exact hn190_0) | exact hn190_0) (.int .i64 ((rd_T44 (rd_L4 l0_0 x6_4) x7_5).f0))).trans hx190_0; replace hx190_1 := (cell_far (p := ⟨gb188, 0, none⟩) (by first | (rw [add_block]; exact hn190_0) | (show (Addr.add _ _).block ≠ _; rw [add_block]; exact hn190_0) | exact hn190_0) (.int .i64 ((rd_T44 (rd_L4 l0_0 x6_4) x7_5).f0))).trans hx190_1; replace hx190_0 := (cell_far (p := ⟨gb188, 1, none⟩) (by first | (rw [add_block]; exact hn190_1) | (show (Addr.add _ _).block ≠ _; rw [add_block]; exact hn190_1) | exact hn190_1) (.int .i64 ((rd_T44 (rd_L4 l0_0 x6_4) x7_5).f1))).trans hx190_0; replace hx190_1 := (cell_far (p := ⟨gb188, 1, none⟩) (by first | (rw [add_block]; exact hn190_1) | (show (Addr.add _ _).block ≠ _; rw [add_block]; exact hn190_1) | exact hn190_1) (.int .i64 ((rd_T44 (rd_L4 l0_0 x6_4) x7_5).f1))).trans hx190_1; (try have hy190_0 := fun (n_ : Nat) => (show ((((w55.drewN n_).setCell ⟨gb188, 0, none⟩ (.int .i64 ((rd_T44 (rd_L4 l0_0 x6_4) x7_5).f0))).setCell ⟨gb188, 1, none⟩ (.int .i64 ((rd_T44 (rd_L4 l0_0 x6_4) x7_5).f1)))).cell? _ = some _ from hx190_0)); (try have hy190_1 := fun (n_ : Nat) => (show ((((w55.drewN n_).setCell ⟨gb188, 0, none⟩ (.int .i64 ((rd_T44 (rd_L4 l0_0 x6_4) x7_5).f0))).setCell ⟨gb188, 1, none⟩ (.int .i64 ((rd_T44 (rd_L4 l0_0 x6_4) x7_5).f1)))).cell? _ = some _ from hx190_1)); clear hn190_0; clear hn190_1; replace p190 := eq_true p190; replace q190 := eq_true q190)); try go_wp2_with (first | ((with_reducible refine gate_dst (N := 8) rfl ?_); refine box_event ?hg (N := 8) ?hd (cs := #[.int .i64 0, .int .i64 0]) (t := 44) ?hr ?_; (case hd => rfl); (case hg => rfl); (case hr => first | (go_simp; done) | (go_simp; rfl)); intro gb188 hg w55 hbox hb; have n0_ := Aside0.mk (blk_below (g := gb183) (o := .cells #[.slice (some ad184) l0_0.length c0_0] 38 (0, 0)) (by (with_reducible repeat (first | refine blk_drewN ?_ _ | refine blk_drew ?_ | refine blk_alloc ?_ _)); exact BK183.out) hb); have n1_ := Aside0.mk (below_step (by repeat (first | (with_reducible first | exact HB.out | apply below_alloc | apply pw_below_drewN | apply below_drew1 | refine below_set ?_ GE183.out) | exact HB.out)) hb); have n2_ := Aside0.mk (hbox); have n3_ := Aside0.mk ((by rw [hg]; exact (below_size (by repeat (first | (with_reducible first | exact HB.out | apply below_alloc | apply pw_below_drewN | apply below_drew1 | refine below_set ?_ GE183.out) | exact HB.out))) : w.heap.size ≤ gb188)); have n4_ := Aside0.mk ((by rw [hg]; exact (below_size (by repeat (first | (with_reducible first | exact HB.out | apply below_alloc | apply pw_below_drewN | apply below_drew1 | refine below_set ?_ GE183.out) | exact HB.out))) : w.heap.size ≤ gb188)); have n5_ := Aside0.mk ((by rw [hg]; exact Nat.ne_of_lt (blk_lt (g := gb183) (o := .cells #[.slice (some ad184) l0_0.length c0_0] 38 (0, 0)) (by (with_reducible repeat (first | refine blk_drewN ?_ _ | refine blk_drew ?_ | refine blk_alloc ?_ _)); exact BK183.out)) : gb183 ≠ gb188)); have n6_ := Aside0.mk ((by rw [hg]; exact Nat.ne_of_gt (blk_lt (g := gb183) (o := .cells #[.slice (some ad184) l0_0.length c0_0] 38 (0, 0)) (by (with_reducible repeat (first | refine blk_drewN ?_ _ | refine blk_drew ?_ | refine blk_alloc ?_ _)); exact BK183.out)) : gb188 ≠ gb183)); clear BK183; clear HB; have BK183 := n0_; have HB := n1_; have BK188 := n2_; have GW188 := n3_; have GE188 := n4_; have NB183_188 := n5_; have NB188_183 := n6_; clear n0_ n1_ n2_ n3_ n4_ n5_ n6_; clear hb hbox hg; have hnb56 := NB188_183.out; have hnc56 := NB183_188.out; have hcz57_0 : w55.cell? ⟨gb188, 0, none⟩ = some (.int .i64 0) := (blk_cell BK188.out 0).trans rfl; have hcz57_1 : w55.cell? ⟨gb188, 1, none⟩ = some (.int .i64 0) := (blk_cell BK188.out 1).trans rfl; have hfz57_0 := blk_frozen BK188.out 0; have hfz57_1 := blk_frozen BK188.out 1; have hcz58_0 : w55.cell? ⟨gb183, 0, none⟩ = some (.slice (some ad184) l0_0.length c0_0) := (blk_cell BK183.out 0).trans rfl; have hfz58_0 := blk_frozen BK183.out 0; have p189 : 0 ≤ (((rd_T44 (rd_L4 l0_0 x6_4) x7_5).f0) : Int) := of_decide_eq_true (by first | (with_reducible assumption) | assumption); have q189 : ((rd_T44 (rd_L4 l0_0 x6_4) x7_5).f0) < (l0_0.length : Int) := of_decide_eq_true (by first | (with_reducible assumption) | assumption); obtain ⟨ad189, A189_0, c189_0, e189, hx189_0, hl189_0, hi189_0⟩ := at_L4 HR0_0.out ((rd_T44 (rd_L4 l0_0 x6_4) x7_5).f0) p189 q189; obtain rfl : ad184 = ad189 := (by injection e189); have hn189_0 : ad184.block ≠ gb188 := Nat.ne_of_lt (Nat.lt_of_lt_of_le (by have := World.block_lt_of_cell? _ _ hx189_0; first | rwa [add_block] at this | exact this) GW188.out); have hn189_1 : ad184.block ≠ gb188 := Nat.ne_of_lt (Nat.lt_of_lt_of_le (by have := World.block_lt_of_cell? _ _ hx189_0; first | rwa [add_block] at this | exact this) GW188.out); replace hx189_0 := (HB.out.cell (World.block_lt_of_cell? w _ hx189_0)).trans hx189_0; have HR189_0 := Aside0.mk hi189_0; have HC189_0 := Aside0.mk hl189_0; clear hi189_0 hl189_0; replace hx189_0 := (cell_far (p := ⟨gb188, 0, none⟩) (by first | (rw [add_block]; exact hn189_0) | (show (Addr.add _ _).block ≠ _; rw [add_block]; exact hn189_0) | exact hn189_0) (.int .i64 ((rd_T44 (rd_L4 l0_0 x6_4) x7_5).f0))).trans hx189_0; replace hx189_0 := (cell_far (p := ⟨gb188, 1, none⟩) (by first | (rw [add_block]; exact hn189_1) | (show (Addr.add _ _).block ≠ _; rw [add_block]; exact hn189_1) | exact hn189_1) (.int .i64 ((rd_T44 (rd_L4 l0_0 x6_4) x7_5).f1))).trans hx189_0; (try have hy189_0 := fun (n_ : Nat) => (show ((((w55.drewN n_).setCell ⟨gb188, 0, none⟩ (.int .i64 ((rd_T44 (rd_L4 l0_0 x6_4) x7_5).f0))).setCell ⟨gb188, 1, none⟩ (.int .i64 ((rd_T44 (rd_L4 l0_0 x6_4) x7_5).f1)))).cell? _ = some _ from hx189_0)); clear hn189_0; clear hn189_1; replace p189 := eq_true p189; replace q189 := eq_true q189; have p190 : 0 ≤ (((rd_T44 (rd_L4 l0_0 x6_4) x7_5).f1) : Int) := of_decide_eq_true (by first | (with_reducible assumption) | assumption); have q190 : ((rd_T44 (rd_L4 l0_0 x6_4) x7_5).f1) < ((rd_L4 l0_0 ((rd_T44 (rd_L4 l0_0 x6_4) x7_5).f0)).length : Int) := of_decide_eq_true (by first | (with_reducible assumption) | assumption); obtain ⟨ad190, e190, hx190_0, hx190_1⟩ := at_T44 HR189_0.out ((rd_T44 (rd_L4 l0_0 x6_4) x7_5).f1) p190 q190; cases e190; have hn190_0 : ad190.block ≠ gb188 := Nat.ne_of_lt (Nat.lt_of_lt_of_le (by have := World.block_lt_of_cell? _ _ hx190_0; first | rwa [add_block] at this | exact this) GW188.out); have hn190_1 : ad190.block ≠ gb188 := Nat.ne_of_lt (Nat.lt_of_lt_of_le (by have := World.block_lt_of_cell? _ _ hx190_0; first | rwa [add_block] at this | exact this) GW188.out); replace hx190_0 := (HB.out.cell (World.block_lt_of_cell? w _ hx190_0)).trans hx190_0; replace hx190_1 := (HB.out.cell (World.block_lt_of_cell? w _ hx190_1)).trans hx190_1; replace hx190_0 := (cell_far (p := ⟨gb188, 0, none⟩) (by first | (rw [add_block]; exact hn190_0) | (show (Addr.add _ _).block ≠ _; rw [add_block]; exact hn190_0) | exact hn190_0) (.int .i64 ((rd_T44 (rd_L4 l0_0 x6_4) x7_5).f0))).trans hx190_0; replace hx190_1 := (cell_far (p := ⟨gb188, 0, none⟩) (by first | (rw [add_block]; exact hn190_0) | (show (Addr.add _ _).block ≠ _; rw [add_block]; exact hn190_0) | exact hn190_0) (.int .i64 ((rd_T44 (rd_L4 l0_0 x6_4) x7_5).f0))).trans hx190_1; replace hx190_0 := (cell_far (p := ⟨gb188, 1, none⟩) (by first | (rw [add_block]; exact hn190_1) | (show (Addr.add _ _).block ≠ _; rw [add_block]; exact hn190_1) | exact hn190_1) (.int .i64 ((rd_T44 (rd_L4 l0_0 x6_4) x7_5).f1))).trans hx190_0; replace hx190_1 := (cell_far (p := ⟨gb188, 1, none⟩) (by first | (rw [add_block]; exact hn190_1) | (show (Addr.add _ _).block ≠ _; rw [add_block]; exact hn190_1) | exact hn190_1) (.int .i64 ((rd_T44 (rd_L4 l0_0 x6_4) x7_5).f1))).trans hx190_1; (try have hy190_0 := fun (n_ : Nat) => (show ((((w55.drewN n_).setCell ⟨gb188, 0, none⟩ (.int .i64 ((rd_T44 (rd_L4 l0_0 x6_4) x7_5).f0))).setCell ⟨gb188, 1, none⟩ (.int .i64 ((rd_T44 (rd_L4 l0_0 x6_4) x7_5).f1)))).cell? _ = some _ from hx190_0)); (try have hy190_1 := fun (n_ : Nat) => (show ((((w55.drewN n_).setCell ⟨gb188, 0, none⟩ (.int .i64 ((rd_T44 (rd_L4 l0_0 x6_4) x7_5).f0))).setCell ⟨gb188, 1, none⟩ (.int .i64 ((rd_T44 (rd_L4 l0_0 x6_4) x7_5).f1)))).cell? _ = some _ from hx190_1)); clear hn190_0; clear hn190_1; replace p190 := eq_true p190; replace q190 := eq_true q190)))
                                                            go_roundg k5
                                                            case measure => have := HJ1.out; have := HJ7.out; have := HK3.out; have := HK4.out; have := HK5.out; omega
                                                            case rel => exact ⟨(wrap64 (x7_5 + 1)), (by first | rfl | (simp; done) | (simp [*]; done)), H', ⟨by have := HJ1.out; have := HJ7.out; have := HK3.out; have := HK4.out; have := HK5.out; omega⟩, ⟨by (with_reducible repeat (first | refine blk_drewN ?_ _ | refine blk_drew ?_ | refine blk_alloc ?_ _)); refine blk_far ?_ NB183_188.out _; (with_reducible repeat (first | refine blk_drewN ?_ _ | refine blk_drew ?_ | refine blk_alloc ?_ _)); refine blk_far ?_ NB183_188.out _; (with_reducible repeat (first | refine blk_drewN ?_ _ | refine blk_drew ?_ | refine blk_alloc ?_ _)); exact BK183.out⟩, ⟨by repeat (first | (with_reducible first | exact HB.out | apply below_alloc | apply pw_below_drewN | apply below_drew1 | refine below_set ?_ GE183.out | refine below_set ?_ GE188.out) | exact HB.out)⟩⟩
                                                        · rw [if_neg c47] at H
                                                          exact absurd H (by simp)
                                                      · rw [if_neg c46] at H
                                                        exact absurd H (by simp)
                                                    · rw [if_neg c45] at H
                                                      exact absurd H (by simp)
                                                  · rw [if_neg c44] at H
                                                    exact absurd H (by simp)
                                        · rw [if_neg c23] at H
                                          exact absurd H (by simp)
                                      · rw [if_neg c22] at H
                                        exact absurd H (by simp)
                                    · rw [if_neg c21] at H
                                      exact absurd H (by simp)
                                  · rw [if_neg c20] at H
                                    exact absurd H (by simp)
                                · rw [if_neg c19] at H
                                  have c19b0 : decide (x7_5 < ((rd_L4 l0_0 0).length : Int)) = false := decide_eq_false c19
                                  clear c19
                                  have H' := Aside0.mk H
                                  clear H
                                  go_wp2
                                  repeat (go_quiet (fail); try go_wp2)
                                  go_roundg k5
                                  case measure => have := HJ1.out; have := HJ7.out; have := HK3.out; have := HK4.out; have := HK5.out; omega
                                  case rel => exact ⟨(wrap64 (x6_4 + 1)), (by first | rfl | (simp; done) | (simp [*]; done)), H', ⟨by have := HJ1.out; have := HJ7.out; have := HK3.out; have := HK4.out; have := HK5.out; omega⟩, ⟨by (with_reducible repeat (first | refine blk_drewN ?_ _ | refine blk_drew ?_ | refine blk_alloc ?_ _)); exact BK183.out⟩, ⟨by repeat (first | (with_reducible first | exact HB.out | apply below_alloc | apply pw_below_drewN | apply below_drew1 | refine below_set ?_ GE183.out) | exact HB.out)⟩⟩
                          · rw [if_neg c18] at H
                            have c18b0 : decide (x6_4 < (l0_0.length : Int)) = false := decide_eq_false c18
                            clear c18
                            obtain rfl := Option.some.inj H
                            go_wp2
                            repeat (go_quiet (fail); try go_wp2)
                            go_ret
                            exact ⟨by first | rfl | (simp [errW_none, errW_some] <;> rfl) | (simp [*, errW_none, errW_some] <;> rfl), by repeat (first | (with_reducible first | exact HB.out | apply below_alloc | apply pw_below_drewN | apply below_drew1 | refine below_set ?_ GE183.out) | exact HB.out)⟩
        · rw [if_neg c7] at H
          exact absurd H (by simp)

end Go.Proofs.Ytgbjbgdnldklpaa.Q
end
/-! Part QRef10Walk -/
section
-- Written by xprint.py, a program of this session's, over the kit's print. Lean checks it.
namespace Go.Proofs.Ytgbjbgdnldklpaa.Q
open Go.RowKit Go.Proofs.YtgbjbgdnldklpaaW.PrintWords Go.Proofs.YtgbjbgdnldklpaaW.PrintLast Go.Proofs.YtgbjbgdnldklpaaW.PrintMore
attribute [local go_sem] max2_int min2_int max_two min_two max_three min_three max_four min_four
set_option linter.unusedVariables false
set_option linter.unusedSimpArgs false

/-! ### mizmazeref10_Walk: function 35 -/
def mizmazeref10_Walk.l0 : Nat → Int → List Int → List Int → Int → List (List (S44)) → Option (List Int)
  | 0, _, _, _, _, _ => none
  | k + 1, x1, x2, x7, x8, x439000 => if x8 < (x2.length : Int) then (if 0 ≤ x1 then (if x1 < (x439000.length : Int) then (if 0 ≤ x8 then (if 0 ≤ (rd x2 x8) then (if (rd x2 x8) < ((rd_L4 x439000 x1).length : Int) then (if x7.length < 17592186044416 then (mizmazeref10_Walk.l0 k ((rd_T44 (rd_L4 x439000 x1) (rd x2 x8)).f0) x2 (x7 ++ [(rd_T44 (rd_L4 x439000 x1) (rd x2 x8)).f0]) (wrap64 (x8 + 1)) x439000) else (none)) else (none)) else (none)) else (none)) else (none)) else (none)) else (some x7)
def mizmazeref10_Walk.f (k : Nat) (l0_0 : List (List (S44))) (a1 : Int) (l2 : List Int) : Option (List Int) := mizmazeref10_Walk.l0 k a1 l2 (([a1] : List Int)) 0 l0_0
theorem mizmazeref10_Walk.mono_l : ∀ k, (∀ y0 y1 y2 y3 y4, LeO (mizmazeref10_Walk.l0 k y0 y1 y2 y3 y4) (mizmazeref10_Walk.l0 (k + 1) y0 y1 y2 y3 y4))
  | 0 => fun _ _ _ _ _ r h => by simp [mizmazeref10_Walk.l0] at h
  | k + 1 => by
    have ih0 := mizmazeref10_Walk.mono_l k
    · intro y0 y1 y2 y3 y4
      unfold mizmazeref10_Walk.l0
      repeat' first
      | (with_reducible exact ih0 _ _ _ _ _)
      | (with_reducible exact LeO.refl _)
      | (with_reducible exact LeO.none _)
      | (with_reducible refine LeO.ite ?_ ?_)
      | (with_reducible refine LeO.bind ?_ (fun _ => ?_))
      | exact ih0 _ _ _ _ _
      | exact LeO.none _
      | refine LeO.ite ?_ ?_
      | refine LeO.bind ?_ (fun _ => ?_)
theorem mizmazeref10_Walk.mono : ∀ a0 a1 a2 k, LeO (mizmazeref10_Walk.f k a0 a1 a2) (mizmazeref10_Walk.f (k + 1) a0 a1 a2) := by
  intro a0 a1 a2 k
  have ih0 := mizmazeref10_Walk.mono_l k
  unfold mizmazeref10_Walk.f
  repeat' first
      | (with_reducible exact ih0 _ _ _ _ _)
      | (with_reducible exact LeO.refl _)
      | (with_reducible exact LeO.none _)
      | (with_reducible refine LeO.ite ?_ ?_)
      | (with_reducible refine LeO.bind ?_ (fun _ => ?_))
      | exact ih0 _ _ _ _ _
      | exact LeO.none _
      | refine LeO.ite ?_ ?_
      | refine LeO.bind ?_ (fun _ => ?_)
set_option maxHeartbeats 8000000 in
set_option maxRecDepth 100000 in
theorem mizmazeref10_Walk.calls (k : Nat) (A0_0 : Option Addr) (c0_0 : Nat) (l0_0 : List (List (S44))) (a1 : Int) (A2 : Option Addr) (c2 : Nat) (l2 : List Int) (r : List Int) (w : World) (hr0_0 : Kd.C (Kd.slice 44 k44) w A0_0 l0_0.length l0_0) (hc0_0 : l0_0.length ≤ c0_0) (hr2 : Kd.C (Kd.int .i64) w A2 l2.length l2) (hc2 : l2.length ≤ c2) (h : mizmazeref10_Walk.f k l0_0 a1 l2 = some r) :
    Calls Try.prog 35 #[.agg #[.slice A0_0 l0_0.length c0_0], .int .i64 a1, .slice A2 l2.length c2] w fun e w' => ∃ v0_ : Value, e = .returned (v0_) ∧ Kd.R (Kd.int .i64) 3 w' w.heap.size (fun _ => True) v0_ r ∧ Below w.heap.size w w' := by
  have hu38 := Try.underlying38
  have HR0_0 := Aside0.mk hr0_0
  have HC0_0 := Aside0.mk hc0_0
  clear hr0_0 hc0_0
  have HR2 := Aside0.mk hr2
  have HC2 := Aside0.mk hc2
  clear hr2 hc2
  have HB := Aside0.mk (Below.refl w.heap.size w)
  have H : (mizmazeref10_Walk.l0 k a1 l2 (([a1] : List Int)) 0 l0_0) = some r := h
  clear h
  obtain ⟨y439, hy439⟩ : ∃ y_ : List Int, y_ = (([a1] : List Int)) := ⟨_, rfl⟩
  replace H : (mizmazeref10_Walk.l0 k a1 l2 y439 0 l0_0) = some r := by first | (rw [hy439]; with_reducible exact H) | (have H2_ := (Option.bind_some _ _).symm.trans H; rw [hy439]; with_reducible exact H2_) | (have H2_ := (Option.bind_some _ _).symm.trans H; with_reducible exact H2_) | with_reducible exact H | (rw [hy439]; exact H) | exact H
  have Ny439 := Aside0.mk hy439
  clear hy439
  have H' := Aside0.mk H
  clear H
  go_enter Try.func35, Try.ntmps35
  go_wp2_with (first | ((with_reducible refine gate_dst (N := 3) rfl ?_); refine box_event ?hg (N := 3) ?hd (cs := #[.slice A0_0 l0_0.length c0_0]) (t := 38) ?hr ?_; (case hd => rfl); (case hg => rfl); (case hr => first | (go_simp; done) | (go_simp; rfl)); intro gb438 hg w4 hbox hb; have n0_ := Aside0.mk (below_step (by repeat (first | (with_reducible first | exact HB.out | apply below_alloc | apply pw_below_drewN | apply below_drew1) | exact HB.out)) hb); have n1_ := Aside0.mk (hbox); have n2_ := Aside0.mk ((by rw [hg]; exact (below_size (by repeat (first | (with_reducible first | exact HB.out | apply below_alloc | apply pw_below_drewN | apply below_drew1) | exact HB.out))) : w.heap.size ≤ gb438)); have n3_ := Aside0.mk ((by rw [hg]; exact (below_size (by repeat (first | (with_reducible first | exact HB.out | apply below_alloc | apply pw_below_drewN | apply below_drew1) | exact HB.out))) : w.heap.size ≤ gb438)); clear HB; have HB := n0_; have BK438 := n1_; have GW438 := n2_; have GE438 := n3_; clear n0_ n1_ n2_ n3_; clear hb hbox hg) | ((with_reducible refine gate_dst (N := 10) rfl ?_); refine Kd.R_lit (Kd.int .i64) _ 3 ?hg (N := 10) ?hd (xs := ([a1] : List Int)) (inner := [.int .i64 a1]) (ok := fun _ => True) (okp := fun _ => True) ?hr ?hp (fun _ hk => hk) trivial (Below.refl _ _) (Nat.le_refl _) (by simp) ?_; (case hd => rfl); (case hg => rfl); (case hr => first | (go_simp; done) | (go_simp; rfl)); (case hp => exact (Reps.one (show Kd.M (Kd.int .i64) _ _ _ a1 [.int .i64 a1] from rfl) (Reps.none _ _))); intro v440 w5 ho6 hb hg_ hnew_; clear hg_ hnew_; (first | rw [← Ny439.out] at ho6 | (simp only [Int.reduceToNat] at ho6; rw [← Ny439.out] at ho6)); have n0_ := Aside0.mk (Kd.R_lower ho6 (below_size (by repeat (first | (with_reducible first | exact HB.out | apply below_alloc | apply pw_below_drewN | apply below_drew1 | refine below_set ?_ GE438.out) | exact HB.out)))); have n1_ := Aside0.mk (blk_below (g := gb438) (o := .cells #[.slice A0_0 l0_0.length c0_0] 38 (0, 0)) (by (with_reducible repeat (first | refine blk_drewN ?_ _ | refine blk_drew ?_ | refine blk_alloc ?_ _)); exact BK438.out) hb); have n2_ := Aside0.mk (below_step (by repeat (first | (with_reducible first | exact HB.out | apply below_alloc | apply pw_below_drewN | apply below_drew1 | refine below_set ?_ GE438.out) | exact HB.out)) hb); clear BK438; clear HB; have HO441 := n0_; have BK438 := n1_; have HB := n2_; clear n0_ n1_ n2_; clear hb ho6))
  repeat (go_quiet (first | ((with_reducible refine gate_dst (N := 3) rfl ?_); refine box_event ?hg (N := 3) ?hd (cs := #[.slice A0_0 l0_0.length c0_0]) (t := 38) ?hr ?_; (case hd => rfl); (case hg => rfl); (case hr => first | (go_simp; done) | (go_simp; rfl)); intro gb438 hg w4 hbox hb; have n0_ := Aside0.mk (below_step (by repeat (first | (with_reducible first | exact HB.out | apply below_alloc | apply pw_below_drewN | apply below_drew1) | exact HB.out)) hb); have n1_ := Aside0.mk (hbox); have n2_ := Aside0.mk ((by rw [hg]; exact (below_size (by repeat (first | (with_reducible first | exact HB.out | apply below_alloc | apply pw_below_drewN | apply below_drew1) | exact HB.out))) : w.heap.size ≤ gb438)); have n3_ := Aside0.mk ((by rw [hg]; exact (below_size (by repeat (first | (with_reducible first | exact HB.out | apply below_alloc | apply pw_below_drewN | apply below_drew1) | exact HB.out))) : w.heap.size ≤ gb438)); clear HB; have HB := n0_; have BK438 := n1_; have GW438 := n2_; have GE438 := n3_; clear n0_ n1_ n2_ n3_; clear hb hbox hg) | ((with_reducible refine gate_dst (N := 10) rfl ?_); refine Kd.R_lit (Kd.int .i64) _ 3 ?hg (N := 10) ?hd (xs := ([a1] : List Int)) (inner := [.int .i64 a1]) (ok := fun _ => True) (okp := fun _ => True) ?hr ?hp (fun _ hk => hk) trivial (Below.refl _ _) (Nat.le_refl _) (by simp) ?_; (case hd => rfl); (case hg => rfl); (case hr => first | (go_simp; done) | (go_simp; rfl)); (case hp => exact (Reps.one (show Kd.M (Kd.int .i64) _ _ _ a1 [.int .i64 a1] from rfl) (Reps.none _ _))); intro v440 w5 ho6 hb hg_ hnew_; clear hg_ hnew_; (first | rw [← Ny439.out] at ho6 | (simp only [Int.reduceToNat] at ho6; rw [← Ny439.out] at ho6)); have n0_ := Aside0.mk (Kd.R_lower ho6 (below_size (by repeat (first | (with_reducible first | exact HB.out | apply below_alloc | apply pw_below_drewN | apply below_drew1 | refine below_set ?_ GE438.out) | exact HB.out)))); have n1_ := Aside0.mk (blk_below (g := gb438) (o := .cells #[.slice A0_0 l0_0.length c0_0] 38 (0, 0)) (by (with_reducible repeat (first | refine blk_drewN ?_ _ | refine blk_drew ?_ | refine blk_alloc ?_ _)); exact BK438.out) hb); have n2_ := Aside0.mk (below_step (by repeat (first | (with_reducible first | exact HB.out | apply below_alloc | apply pw_below_drewN | apply below_drew1 | refine below_set ?_ GE438.out) | exact HB.out)) hb); clear BK438; clear HB; have HO441 := n0_; have BK438 := n1_; have HB := n2_; clear n0_ n1_ n2_; clear hb ho6)); try go_wp2_with (first | ((with_reducible refine gate_dst (N := 3) rfl ?_); refine box_event ?hg (N := 3) ?hd (cs := #[.slice A0_0 l0_0.length c0_0]) (t := 38) ?hr ?_; (case hd => rfl); (case hg => rfl); (case hr => first | (go_simp; done) | (go_simp; rfl)); intro gb438 hg w4 hbox hb; have n0_ := Aside0.mk (below_step (by repeat (first | (with_reducible first | exact HB.out | apply below_alloc | apply pw_below_drewN | apply below_drew1) | exact HB.out)) hb); have n1_ := Aside0.mk (hbox); have n2_ := Aside0.mk ((by rw [hg]; exact (below_size (by repeat (first | (with_reducible first | exact HB.out | apply below_alloc | apply pw_below_drewN | apply below_drew1) | exact HB.out))) : w.heap.size ≤ gb438)); have n3_ := Aside0.mk ((by rw [hg]; exact (below_size (by repeat (first | (with_reducible first | exact HB.out | apply below_alloc | apply pw_below_drewN | apply below_drew1) | exact HB.out))) : w.heap.size ≤ gb438)); clear HB; have HB := n0_; have BK438 := n1_; have GW438 := n2_; have GE438 := n3_; clear n0_ n1_ n2_ n3_; clear hb hbox hg) | ((with_reducible refine gate_dst (N := 10) rfl ?_); refine Kd.R_lit (Kd.int .i64) _ 3 ?hg (N := 10) ?hd (xs := ([a1] : List Int)) (inner := [.int .i64 a1]) (ok := fun _ => True) (okp := fun _ => True) ?hr ?hp (fun _ hk => hk) trivial (Below.refl _ _) (Nat.le_refl _) (by simp) ?_; (case hd => rfl); (case hg => rfl); (case hr => first | (go_simp; done) | (go_simp; rfl)); (case hp => exact (Reps.one (show Kd.M (Kd.int .i64) _ _ _ a1 [.int .i64 a1] from rfl) (Reps.none _ _))); intro v440 w5 ho6 hb hg_ hnew_; clear hg_ hnew_; (first | rw [← Ny439.out] at ho6 | (simp only [Int.reduceToNat] at ho6; rw [← Ny439.out] at ho6)); have n0_ := Aside0.mk (Kd.R_lower ho6 (below_size (by repeat (first | (with_reducible first | exact HB.out | apply below_alloc | apply pw_below_drewN | apply below_drew1 | refine below_set ?_ GE438.out) | exact HB.out)))); have n1_ := Aside0.mk (blk_below (g := gb438) (o := .cells #[.slice A0_0 l0_0.length c0_0] 38 (0, 0)) (by (with_reducible repeat (first | refine blk_drewN ?_ _ | refine blk_drew ?_ | refine blk_alloc ?_ _)); exact BK438.out) hb); have n2_ := Aside0.mk (below_step (by repeat (first | (with_reducible first | exact HB.out | apply below_alloc | apply pw_below_drewN | apply below_drew1 | refine below_set ?_ GE438.out) | exact HB.out)) hb); clear BK438; clear HB; have HO441 := n0_; have BK438 := n1_; have HB := n2_; clear n0_ n1_ n2_; clear hb ho6)))
  go_loopg [1, 7, 8] k (fun kq v1 v7 v8 w' => ∃ (x1_1 : Int) (x7_1 : List Int) (x8_1 : Int), v1 = .int .i64 x1_1 ∧ v8 = .int .i64 x8_1 ∧ Aside0 (mizmazeref10_Walk.l0 kq x1_1 l2 x7_1 x8_1 l0_0 = some r) ∧ Aside0 (kq ≤ k) ∧ Aside0 (Kd.R (Kd.int .i64) 3 w' w.heap.size (fun _ => True) v7 x7_1) ∧ Aside0 (w'.heap[gb438]? = some (.cells #[(.slice A0_0 l0_0.length c0_0)] 38 (0, 0))) ∧ Aside0 (Below w.heap.size w w'))
  case atStart => exact ⟨(a1), (y439), (0), (by first | rfl | (simp; done) | (simp [*]; done)), (by first | rfl | (simp; done) | (simp [*]; done)), H', ⟨Nat.le_refl _⟩, ⟨by (with_reducible repeat (first | apply Kd.R_alloc | apply Kd.R_drewN | apply Kd.R_drew)); exact HO441.out⟩, ⟨by (with_reducible repeat (first | refine blk_drewN ?_ _ | refine blk_drew ?_ | refine blk_alloc ?_ _)); exact BK438.out⟩, ⟨by repeat (first | (with_reducible first | exact HB.out | apply below_alloc | apply pw_below_drewN | apply below_drew1 | refine below_set ?_ GE438.out) | exact HB.out)⟩⟩
  case round =>
    clear H'
    try clear c2
    try clear p2
    try clear c3
    obtain ⟨x1_1, x7_1, x8_1, rfl, rfl, HA, HK1, HO_7, BK438, HB⟩ := hrel
    cases gk with
    | zero => exact absurd HA.out (by simp [mizmazeref10_Walk.l0])
    | succ k1 =>
      have H := HA.out
      clear HA
      simp only [mizmazeref10_Walk.l0] at H
      by_cases c7 : x8_1 < (l2.length : Int)
      · rw [if_pos c7] at H
        have c7b0 : decide (x8_1 < (l2.length : Int)) = true := decide_eq_true c7
        clear c7
        by_cases c8 : 0 ≤ x1_1
        · rw [if_pos c8] at H
          have c8b0 : decide (0 ≤ x1_1) = true := decide_eq_true c8
          clear c8
          by_cases c9 : x1_1 < (l0_0.length : Int)
          · rw [if_pos c9] at H
            have c9b0 : decide (x1_1 < (l0_0.length : Int)) = true := decide_eq_true c9
            clear c9
            by_cases c10 : 0 ≤ x8_1
            · rw [if_pos c10] at H
              have c10b0 : decide (0 ≤ x8_1) = true := decide_eq_true c10
              clear c10
              by_cases c11 : 0 ≤ (rd l2 x8_1)
              · rw [if_pos c11] at H
                have c11b0 : decide (0 ≤ (rd l2 x8_1)) = true := decide_eq_true c11
                clear c11
                by_cases c12 : (rd l2 x8_1) < ((rd_L4 l0_0 x1_1).length : Int)
                · rw [if_pos c12] at H
                  have c12b0 : decide ((rd l2 x8_1) < ((rd_L4 l0_0 x1_1).length : Int)) = true := decide_eq_true c12
                  clear c12
                  by_cases c13 : x7_1.length < 17592186044416
                  · rw [if_pos c13] at H
                    have LMc13 := Aside0.mk c13
                    clear c13
                    obtain ⟨y445, hy445⟩ : ∃ y_ : List Int, y_ = (x7_1 ++ [(rd_T44 (rd_L4 l0_0 x1_1) (rd l2 x8_1)).f0]) := ⟨_, rfl⟩
                    replace H : (mizmazeref10_Walk.l0 k1 ((rd_T44 (rd_L4 l0_0 x1_1) (rd l2 x8_1)).f0) l2 y445 (wrap64 (x8_1 + 1)) l0_0) = some r := by first | (rw [hy445]; with_reducible exact H) | (have H2_ := (Option.bind_some _ _).symm.trans H; rw [hy445]; with_reducible exact H2_) | (have H2_ := (Option.bind_some _ _).symm.trans H; with_reducible exact H2_) | with_reducible exact H | (rw [hy445]; exact H) | exact H
                    have Ny445 := Aside0.mk hy445
                    clear hy445
                    have H' := Aside0.mk H
                    clear H
                    have hcz14_0 : wr.cell? ⟨gb438, 0, none⟩ = some (.slice A0_0 l0_0.length c0_0) := (blk_cell BK438.out 0).trans rfl
                    have hfz14_0 := blk_frozen BK438.out 0
                    have p442 : 0 ≤ (x1_1 : Int) := of_decide_eq_true (by first | (with_reducible assumption) | assumption)
                    have q442 : x1_1 < (l0_0.length : Int) := of_decide_eq_true (by first | (with_reducible assumption) | assumption)
                    obtain ⟨ad442, A442_0, c442_0, e442, hx442_0, hl442_0, hi442_0⟩ := at_L4 HR0_0.out x1_1 p442 q442
                    cases e442
                    replace hx442_0 := (HB.out.cell (World.block_lt_of_cell? w _ hx442_0)).trans hx442_0
                    have HR442_0 := Aside0.mk hi442_0
                    have HC442_0 := Aside0.mk hl442_0
                    clear hi442_0 hl442_0
                    replace p442 := eq_true p442
                    replace q442 := eq_true q442
                    have p443 : 0 ≤ (x8_1 : Int) := of_decide_eq_true (by first | (with_reducible assumption) | assumption)
                    have q443 : x8_1 < (l2.length : Int) := of_decide_eq_true (by first | (with_reducible assumption) | assumption)
                    obtain ⟨ad443, e443, hx443_0⟩ := Kd.at_int HR2.out x8_1 p443 q443
                    cases e443
                    replace hx443_0 := (HB.out.cell (World.block_lt_of_cell? w _ hx443_0)).trans hx443_0
                    replace p443 := eq_true p443
                    replace q443 := eq_true q443
                    have p444 : 0 ≤ ((rd l2 x8_1) : Int) := of_decide_eq_true (by first | (with_reducible assumption) | assumption)
                    have q444 : (rd l2 x8_1) < ((rd_L4 l0_0 x1_1).length : Int) := of_decide_eq_true (by first | (with_reducible assumption) | assumption)
                    obtain ⟨ad444, e444, hx444_0, hx444_1⟩ := at_T44 HR442_0.out (rd l2 x8_1) p444 q444
                    cases e444
                    replace hx444_0 := (HB.out.cell (World.block_lt_of_cell? w _ hx444_0)).trans hx444_0
                    replace hx444_1 := (HB.out.cell (World.block_lt_of_cell? w _ hx444_1)).trans hx444_1
                    replace p444 := eq_true p444
                    replace q444 := eq_true q444
                    go_wp2_with (first | ((with_reducible refine gate_builtin (b := .append) (xs := #[.tmp 29, .tmp 31]) rfl ?_); at_builtin; refine Kd.R_append (Kd.int .i64) (w0 := w) w.heap.size rfl (.tmp 29) (.tmp 31) 30 3 (.int .i64 0) 8 rfl Try.underlying30 info3 rfl (by decide) (by omega) u7 x7_1 ((rd_T44 (rd_L4 l0_0 x1_1) (rd l2 x8_1)).f0) [.int .i64 ((rd_T44 (rd_L4 l0_0 x1_1) (rd l2 x8_1)).f0)] (fun _ => True) (fun _ => False) rfl rfl ?aP (fun _ hk => hk.elim) ?aF ?aO ?aB ?aS ?aL ?_; (case aP => exact rfl); (case aB => exact (by repeat (first | (with_reducible first | exact HB.out | apply below_alloc | apply pw_below_drewN | apply below_drew1 | refine below_set ?_ GE438.out) | exact HB.out))); (case aF => exact (fun _ _ => trivial)); (case aO => exact (by (with_reducible repeat (first | apply Kd.R_alloc | apply Kd.R_drewN | apply Kd.R_drew)); exact HO_7.out)); (case aS => exact (below_size (by repeat (first | (with_reducible first | exact HB.out | apply below_alloc | apply pw_below_drewN | apply below_drew1 | refine below_set ?_ GE438.out) | exact HB.out)))); (case aL => have := LMc13.out; omega); intro v446 w15 ho hb hg hat; rw [← Ny445.out] at ho; have n0_ := Aside0.mk (blk_grown (g := gb438) (o := .cells #[.slice (some ad442) l0_0.length c0_0] 38 (0, 0)) (by (with_reducible repeat (first | refine blk_drewN ?_ _ | refine blk_drew ?_ | refine blk_alloc ?_ _)); exact BK438.out) hg (Kd.R_ne HO_7.out BK438.out (by decide))); have n1_ := Aside0.mk (hb); have n2_ := Aside0.mk (ho); clear BK438; clear HB; clear HO_7; have BK438 := n0_; have HB := n1_; have HO447 := n2_; clear n0_ n1_ n2_; clear ho hb hg hat))
                    repeat (go_quiet (first | ((with_reducible refine gate_builtin (b := .append) (xs := #[.tmp 29, .tmp 31]) rfl ?_); at_builtin; refine Kd.R_append (Kd.int .i64) (w0 := w) w.heap.size rfl (.tmp 29) (.tmp 31) 30 3 (.int .i64 0) 8 rfl Try.underlying30 info3 rfl (by decide) (by omega) u7 x7_1 ((rd_T44 (rd_L4 l0_0 x1_1) (rd l2 x8_1)).f0) [.int .i64 ((rd_T44 (rd_L4 l0_0 x1_1) (rd l2 x8_1)).f0)] (fun _ => True) (fun _ => False) rfl rfl ?aP (fun _ hk => hk.elim) ?aF ?aO ?aB ?aS ?aL ?_; (case aP => exact rfl); (case aB => exact (by repeat (first | (with_reducible first | exact HB.out | apply below_alloc | apply pw_below_drewN | apply below_drew1 | refine below_set ?_ GE438.out) | exact HB.out))); (case aF => exact (fun _ _ => trivial)); (case aO => exact (by (with_reducible repeat (first | apply Kd.R_alloc | apply Kd.R_drewN | apply Kd.R_drew)); exact HO_7.out)); (case aS => exact (below_size (by repeat (first | (with_reducible first | exact HB.out | apply below_alloc | apply pw_below_drewN | apply below_drew1 | refine below_set ?_ GE438.out) | exact HB.out)))); (case aL => have := LMc13.out; omega); intro v446 w15 ho hb hg hat; rw [← Ny445.out] at ho; have n0_ := Aside0.mk (blk_grown (g := gb438) (o := .cells #[.slice (some ad442) l0_0.length c0_0] 38 (0, 0)) (by (with_reducible repeat (first | refine blk_drewN ?_ _ | refine blk_drew ?_ | refine blk_alloc ?_ _)); exact BK438.out) hg (Kd.R_ne HO_7.out BK438.out (by decide))); have n1_ := Aside0.mk (hb); have n2_ := Aside0.mk (ho); clear BK438; clear HB; clear HO_7; have BK438 := n0_; have HB := n1_; have HO447 := n2_; clear n0_ n1_ n2_; clear ho hb hg hat)); try go_wp2_with (first | ((with_reducible refine gate_builtin (b := .append) (xs := #[.tmp 29, .tmp 31]) rfl ?_); at_builtin; refine Kd.R_append (Kd.int .i64) (w0 := w) w.heap.size rfl (.tmp 29) (.tmp 31) 30 3 (.int .i64 0) 8 rfl Try.underlying30 info3 rfl (by decide) (by omega) u7 x7_1 ((rd_T44 (rd_L4 l0_0 x1_1) (rd l2 x8_1)).f0) [.int .i64 ((rd_T44 (rd_L4 l0_0 x1_1) (rd l2 x8_1)).f0)] (fun _ => True) (fun _ => False) rfl rfl ?aP (fun _ hk => hk.elim) ?aF ?aO ?aB ?aS ?aL ?_; (case aP => exact rfl); (case aB => exact (by repeat (first | (with_reducible first | exact HB.out | apply below_alloc | apply pw_below_drewN | apply below_drew1 | refine below_set ?_ GE438.out) | exact HB.out))); (case aF => exact (fun _ _ => trivial)); (case aO => exact (by (with_reducible repeat (first | apply Kd.R_alloc | apply Kd.R_drewN | apply Kd.R_drew)); exact HO_7.out)); (case aS => exact (below_size (by repeat (first | (with_reducible first | exact HB.out | apply below_alloc | apply pw_below_drewN | apply below_drew1 | refine below_set ?_ GE438.out) | exact HB.out)))); (case aL => have := LMc13.out; omega); intro v446 w15 ho hb hg hat; rw [← Ny445.out] at ho; have n0_ := Aside0.mk (blk_grown (g := gb438) (o := .cells #[.slice (some ad442) l0_0.length c0_0] 38 (0, 0)) (by (with_reducible repeat (first | refine blk_drewN ?_ _ | refine blk_drew ?_ | refine blk_alloc ?_ _)); exact BK438.out) hg (Kd.R_ne HO_7.out BK438.out (by decide))); have n1_ := Aside0.mk (hb); have n2_ := Aside0.mk (ho); clear BK438; clear HB; clear HO_7; have BK438 := n0_; have HB := n1_; have HO447 := n2_; clear n0_ n1_ n2_; clear ho hb hg hat)))
                    go_roundg k1
                    case measure => have := HK1.out; omega
                    case rel => exact ⟨((rd_T44 (rd_L4 l0_0 x1_1) (rd l2 x8_1)).f0), (y445), (wrap64 (x8_1 + 1)), (by first | rfl | (simp; done) | (simp [*]; done)), (by first | rfl | (simp; done) | (simp [*]; done)), H', ⟨by have := HK1.out; omega⟩, ⟨by (with_reducible repeat (first | apply Kd.R_alloc | apply Kd.R_drewN | apply Kd.R_drew)); exact HO447.out⟩, ⟨by (with_reducible repeat (first | refine blk_drewN ?_ _ | refine blk_drew ?_ | refine blk_alloc ?_ _)); exact BK438.out⟩, ⟨by repeat (first | (with_reducible first | exact HB.out | apply below_alloc | apply pw_below_drewN | apply below_drew1 | refine below_set ?_ GE438.out) | exact HB.out)⟩⟩
                  · rw [if_neg c13] at H
                    exact absurd H (by simp)
                · rw [if_neg c12] at H
                  exact absurd H (by simp)
              · rw [if_neg c11] at H
                exact absurd H (by simp)
            · rw [if_neg c10] at H
              exact absurd H (by simp)
          · rw [if_neg c9] at H
            exact absurd H (by simp)
        · rw [if_neg c8] at H
          exact absurd H (by simp)
      · rw [if_neg c7] at H
        have c7b0 : decide (x8_1 < (l2.length : Int)) = false := decide_eq_false c7
        clear c7
        obtain rfl := Option.some.inj H
        go_wp2
        repeat (go_quiet (fail); try go_wp2)
        go_ret
        exact ⟨_, by first | rfl | (simp [errW_none, errW_some] <;> rfl) | (simp [*, errW_none, errW_some] <;> rfl), by (with_reducible repeat (first | apply Kd.R_alloc | apply Kd.R_drewN | apply Kd.R_drew)); exact HO_7.out, by repeat (first | (with_reducible first | exact HB.out | apply below_alloc | apply pw_below_drewN | apply below_drew1 | refine below_set ?_ GE438.out) | exact HB.out)⟩

end Go.Proofs.Ytgbjbgdnldklpaa.Q
end
/-! Part MNumA -/
section
namespace Go.Proofs.Ytgbjbgdnldklpaa.Q
open Go.RowKit Go.Proofs.YtgbjbgdnldklpaaW.PrintWords Go.Proofs.YtgbjbgdnldklpaaW.PrintLast Go.Proofs.YtgbjbgdnldklpaaW.PrintMore
set_option linter.unusedVariables false
/-! ### numbers, lists, rounds -/
theorem wrapS {i : Nat} (h : i + 1 ≤ 9223372036854775807) : wrap64 ((i : Int) + 1) = ((i + 1 : Nat) : Int) := by
  unfold wrap64; omega
theorem wrapI {z : Int} (h0 : -9223372036854775808 ≤ z) (h : z ≤ 9223372036854775807) : wrap64 z = z := by
  unfold wrap64; omega
theorem rdN (l : List Int) (i : Nat) : rd l (i : Int) = l.getD i 0 := rfl
theorem rdE {l : List Int} {i : Nat} (h : i < l.length) : rd l (i : Int) = l[i] := by
  rw [rdN, List.getD_eq_getElem?_getD, List.getElem?_eq_getElem h]; rfl
theorem rdBE {l : List Bool} {i : Nat} (h : i < l.length) : rdOf false l (i : Int) = l[i] := by
  show l.getD i false = _
  rw [List.getD_eq_getElem?_getD, List.getElem?_eq_getElem h]; rfl
theorem rdB_set {l : List Bool} {i j : Nat} {b : Bool} (hj : j < l.length) : rdOf false (l.set i b) (j : Int) = if i = j then b else rdOf false l (j : Int) := by
  rw [rdBE (by rw [List.length_set]; exact hj), rdBE hj, List.getElem_set]
theorem Ev.const {α : Type} {a : Option α} {r : α} (h : a = some r) : Ev (fun _ => a) r := ⟨0, fun _ _ => h⟩
theorem Ev.next {α : Type} {g : Nat → Option α} {r : α} (h : Ev (fun k => g (k + 1)) r) : Ev g r := Ev.step (fun _ => rfl) h
theorem Ev.ret {α : Type} {r r' : α} (e : r = r') : Ev (fun _ => some r) r' := e ▸ Ev.now r
/-- A loop that asks a question of each number below n. -/
theorem Ev.every {α : Type} {g : Nat → Nat → Option α} {n : Nat} {yes no r : α} (p : Nat → Bool)
    (hy : (∀ i, i < n → p i = true) → r = yes) (hn : ∀ i, i < n → p i = false → r = no)
    (go : ∀ i, i < n → p i = true → Ev (fun k => g k (i + 1)) r → Ev (fun k => g k i) r)
    (stop : ∀ i, i < n → p i = false → Ev (fun k => g k i) no) (fin : Ev (fun k => g k n) yes) : Ev (fun k => g k 0) r := by
  have key : ∀ d i : Nat, i + d = n → (∀ j, j < i → p j = true) → Ev (fun k => g k i) r := by
    intro d
    induction d with
    | zero =>
      intro i hi hj
      obtain rfl : i = n := by omega
      rw [hy hj]; exact fin
    | succ d ih =>
      intro i hi hj
      cases hp : p i with
      | false => rw [hn i (by omega) hp]; exact stop i (by omega) hp
      | true =>
        refine go i (by omega) hp (ih (i + 1) (by omega) fun j h => ?_)
        rcases Nat.lt_or_ge j i with h4 | h4
        · exact hj j h4
        · obtain rfl : j = i := by omega
          exact hp
  exact key n 0 (by omega) fun j h => by omega
/-! ### words -/
def Wd (m : Nat) (w : List Nat) : Prop := ∀ x ∈ w, x < m
theorem Wd.nil (m : Nat) : Wd m [] := fun _ h => nomatch h
theorem Wd.app {m : Nat} {v w : List Nat} (h : Wd m v) (k : Wd m w) : Wd m (v ++ w) := fun x hx => (List.mem_append.1 hx).elim (h x) (k x)
theorem Wd.left {m : Nat} {v w : List Nat} (h : Wd m (v ++ w)) : Wd m v := fun x hx => h x (List.mem_append.2 (Or.inl hx))
theorem Wd.right {m : Nat} {v w : List Nat} (h : Wd m (v ++ w)) : Wd m w := fun x hx => h x (List.mem_append.2 (Or.inr hx))
theorem Wd.tail {m x : Nat} {w : List Nat} (h : Wd m (x :: w)) : Wd m w := fun y hy => h y (List.mem_cons_of_mem _ hy)
theorem Wd.head {m x : Nat} {w : List Nat} (h : Wd m (x :: w)) : x < m := h x List.mem_cons_self
def toI (w : List Nat) : List Int := w.map fun (x : Nat) => (x : Int)
theorem toI_snoc (w : List Nat) (x : Nat) : toI (w ++ [x]) = toI w ++ [(x : Int)] := by simp [toI]
theorem toI_len (w : List Nat) : (toI w).length = w.length := by simp [toI]
theorem toI_rd {w : List Nat} {i : Nat} (h : i < w.length) : rd (toI w) (i : Int) = ((w[i] : Nat) : Int) := by
  rw [rdE (by rw [toI_len]; exact h)]; simp [toI]
theorem nodup_le : ∀ (n : Nat) (l : List Nat), l.Nodup → (∀ x ∈ l, x < n) → l.length ≤ n
  | 0, l, _, h => by
    cases l with
    | nil => exact Nat.le_refl 0
    | cons x l => exact absurd (h x List.mem_cons_self) (Nat.not_lt_zero x)
  | n + 1, l, hd, h => by
    by_cases hn : n ∈ l
    · have h1 := nodup_le n (l.erase n) (hd.erase n) fun x hx => by
        have h2 := h x (List.mem_of_mem_erase hx)
        have h3 : x ≠ n := fun e => by subst e; exact hd.not_mem_erase hx
        omega
      rw [List.length_erase_of_mem hn] at h1; omega
    · have := nodup_le n l hd fun x hx => by
        have h2 := h x hx
        have h3 : x ≠ n := fun e => hn (e ▸ hx)
        omega
      omega
theorem nodup_sub {S T : List Nat} (h : S.Nodup) (hs : ∀ x ∈ S, x ∈ T) : S.length ≤ T.length := by
  induction S generalizing T with
  | nil => exact Nat.zero_le _
  | cons x S ih =>
    rw [List.nodup_cons] at h
    have hx := hs x List.mem_cons_self
    have h2 := ih (T := T.erase x) h.2 fun y hy => by
      have hne : y ≠ x := fun e => h.1 (e ▸ hy)
      exact (List.mem_erase_of_ne hne).2 (hs y (List.mem_cons_of_mem _ hy))
    have := List.length_pos_of_mem hx
    rw [List.length_erase_of_mem hx] at h2
    simp; omega
end Go.Proofs.Ytgbjbgdnldklpaa.Q
end
/-! Part MMazeB -/
section
namespace Go.Proofs.Ytgbjbgdnldklpaa.Q
open Go.RowKit Go.Proofs.YtgbjbgdnldklpaaW.PrintWords Go.Proofs.YtgbjbgdnldklpaaW.PrintLast Go.Proofs.YtgbjbgdnldklpaaW.PrintMore
set_option linter.unusedVariables false
theorem inB_toI {m : Nat} {w : List Nat} : inB (m : Int) (toI w) = true ↔ Wd m w := by
  unfold inB toI
  rw [List.all_eq_true]
  constructor
  · intro h x hx
    have := h (x : Int) (List.mem_map.2 ⟨x, hx, rfl⟩)
    have := of_decide_eq_true this
    omega
  · intro h z hz
    obtain ⟨x, hx, rfl⟩ := List.mem_map.1 hz
    have := h x hx
    exact decide_eq_true (by omega)
theorem toI_of {m : Nat} {l : List Int} (h : inB (m : Int) l = true) : ∃ w, Wd m w ∧ l = toI w := by
  have h' := h
  unfold inB at h
  rw [List.all_eq_true] at h
  have e : l = toI (l.map Int.toNat) := by
    unfold toI
    rw [List.map_map]
    conv => lhs; rw [← List.map_id l]
    refine List.map_congr_left fun z hz => ?_
    have := of_decide_eq_true (h z hz)
    simp; omega
  exact ⟨l.map Int.toNat, by rw [e] at h'; exact inB_toI.1 h', e⟩
/-! ### valid mazes -/
theorem rdLE4 {l : List (List S44)} {i : Nat} (h : i < l.length) : rd_L4 l (i : Int) = l[i] := by
  show l.getD i [] = _
  rw [List.getD_eq_getElem?_getD, List.getElem?_eq_getElem h]; rfl
/-- The room behind a door, and the door there. -/
def gz (z : List (List S44)) (r d : Nat) : Nat := (rd_T44 (rd_L4 z (r : Int)) (d : Int)).f0.toNat
def dz (z : List (List S44)) (r d : Nat) : Nat := (rd_T44 (rd_L4 z (r : Int)) (d : Int)).f1.toNat
structure VZ (z : List (List S44)) (n k : Nat) : Prop where
  len : z.length = n
  n0 : 0 < n
  n60 : n ≤ 60
  k0 : 0 < k
  k6 : k ≤ 6
  row : ∀ r, r < n → (rd_L4 z (r : Int)).length = k
  f0 : ∀ r d, r < n → d < k → (rd_T44 (rd_L4 z (r : Int)) (d : Int)).f0 = (gz z r d : Int)
  f1 : ∀ r d, r < n → d < k → (rd_T44 (rd_L4 z (r : Int)) (d : Int)).f1 = (dz z r d : Int)
  gLt : ∀ r d, r < n → d < k → gz z r d < n
  dLt : ∀ r d, r < n → d < k → dz z r d < k
  back : ∀ r d, r < n → d < k → gz z (gz z r d) (dz z r d) = r ∧ dz z (gz z r d) (dz z r d) = d
theorem okDoor_iff {z : List (List S44)} {n k : Nat} (hn : z.length = n) {r d : Nat} : okDoor z (k : Int) (r : Int) (d : Int) = true ↔
    ((rd_T44 (rd_L4 z (r : Int)) (d : Int)).f0 = (gz z r d : Int) ∧ (rd_T44 (rd_L4 z (r : Int)) (d : Int)).f1 = (dz z r d : Int) ∧ gz z r d < n ∧ dz z r d < k ∧
      (rd_T44 (rd_L4 z ((gz z r d : Nat) : Int)) ((dz z r d : Nat) : Int)).f0 = (r : Int) ∧ (rd_T44 (rd_L4 z ((gz z r d : Nat) : Int)) ((dz z r d : Nat) : Int)).f1 = (d : Int)) := by
  unfold okDoor
  rw [Bool.and_eq_true, Bool.and_eq_true, decide_eq_true_eq, beq_iff_eq, beq_iff_eq]
  constructor
  · rintro ⟨⟨h1, h2, h3, h4⟩, h5, h6⟩
    have e0 : (rd_T44 (rd_L4 z (r : Int)) (d : Int)).f0 = (gz z r d : Int) := by unfold gz; omega
    have e1 : (rd_T44 (rd_L4 z (r : Int)) (d : Int)).f1 = (dz z r d : Int) := by unfold dz; omega
    rw [e0, e1] at h5 h6
    exact ⟨e0, e1, by omega, by omega, h5, h6⟩
  · rintro ⟨e0, e1, h2, h4, h5, h6⟩
    rw [e0, e1]
    exact ⟨⟨by omega, by omega, by omega, by omega⟩, h5, h6⟩
theorem mvB_iff {z : List (List S44)} : mvB z = true ↔ VZ z z.length (rd_L4 z 0).length := by
  unfold mvB
  rw [Bool.and_eq_true, Bool.and_eq_true, decide_eq_true_eq, Bool.not_eq_true', List.any_eq_false, List.all_eq_true]
  have hk : kOfM z = ((rd_L4 z 0).length : Int) := rfl
  constructor
  · rintro ⟨⟨⟨h1, h2, h3, h4⟩, h5⟩, h6⟩
    rw [hk] at h3 h4
    have row : ∀ r, r < z.length → (rd_L4 z (r : Int)).length = (rd_L4 z 0).length := fun r hr => by
      have h := h5 (rd_L4 z (r : Int)) (by rw [rdLE4 hr]; exact List.getElem_mem _)
      unfold lenB at h
      rw [hk] at h
      simp at h
      omega
    have ok : ∀ r d, r < z.length → d < (rd_L4 z 0).length → okDoor z (((rd_L4 z 0).length : Nat) : Int) (r : Int) (d : Int) = true := fun r d hr hd => by
      have h := h6 r (List.mem_range.2 hr)
      unfold okRow at h
      rw [List.all_eq_true] at h
      exact h d (List.mem_range.2 (by rw [hk]; omega))
    refine ⟨rfl, by omega, by omega, by omega, by omega, row, fun r d hr hd => ((okDoor_iff rfl).1 (ok r d hr hd)).1, fun r d hr hd => ((okDoor_iff rfl).1 (ok r d hr hd)).2.1, fun r d hr hd => ((okDoor_iff rfl).1 (ok r d hr hd)).2.2.1, fun r d hr hd => ((okDoor_iff rfl).1 (ok r d hr hd)).2.2.2.1, fun r d hr hd => ?_⟩
    obtain ⟨_, _, _, _, h7, h8⟩ := (okDoor_iff rfl).1 (ok r d hr hd)
    constructor
    · show Int.toNat _ = _; rw [h7]; simp
    · show Int.toNat _ = _; rw [h8]; simp
  · intro V
    have := V.n0; have := V.n60; have := V.k0; have := V.k6
    refine ⟨⟨⟨by omega, by omega, by rw [hk]; omega, by rw [hk]; omega⟩, fun row hrow => ?_⟩, fun r hr => ?_⟩
    · obtain ⟨r, hr, rfl⟩ := List.getElem_of_mem hrow
      have := V.row r hr
      rw [rdLE4 hr] at this
      unfold lenB
      rw [hk]
      simp [this]
    · have hr := List.mem_range.1 hr
      unfold okRow
      rw [List.all_eq_true]
      intro d hd
      have hd := List.mem_range.1 hd
      rw [hk, Int.toNat_natCast] at hd
      rw [hk]
      refine (okDoor_iff rfl).2 ⟨V.f0 r d hr hd, V.f1 r d hr hd, V.gLt r d hr hd, V.dLt r d hr hd, ?_, ?_⟩
      · rw [V.f0 _ _ (V.gLt r d hr hd) (V.dLt r d hr hd), (V.back r d hr hd).1]
      · rw [V.f1 _ _ (V.gLt r d hr hd) (V.dLt r d hr hd), (V.back r d hr hd).2]
theorem mvB_of {z : List (List S44)} {n k : Nat} (V : VZ z n k) : mvB z = true := by
  refine mvB_iff.2 ?_
  have h1 := V.len; subst h1
  have h2 : (rd_L4 z 0).length = k := V.row 0 V.n0
  rw [h2]; exact V
theorem ref_valid10 (z : List (List S44)) : Ev (fun k => mizmazeref10_Valid.f k z) (mvB z) := by
  unfold mizmazeref10_Valid.f
  have big : Ev (fun k => mizmazeref10_Valid.j0 k (z.length : Int) true z) false := by
    refine Ev.next ?_; simp only [mizmazeref10_Valid.j0, if_true]; exact Ev.now _
  have hk : kOfM z = ((rd_L4 z 0).length : Int) := rfl
  by_cases h1 : z.length < 1
  · have e : mvB z = false := by unfold mvB; rw [decide_eq_false (by omega)]; rfl
    rw [e]; simp only [if_pos (by omega : (z.length : Int) < 1)]; exact big
  by_cases h2 : z.length > 60
  · have e : mvB z = false := by unfold mvB; rw [decide_eq_false (by omega)]; rfl
    rw [e]; simp only [if_neg (by omega : ¬ (z.length : Int) < 1), decide_eq_true (by omega : (z.length : Int) > 60)]; exact big
  simp only [if_neg (by omega : ¬ (z.length : Int) < 1), decide_eq_false (by omega : ¬ (z.length : Int) > 60)]
  refine Ev.next ?_
  have bad : Ev (fun k => mizmazeref10_Valid.j1 k (z.length : Int) ((rd_L4 z 0).length : Int) true z) false := by
    refine Ev.next ?_; simp only [mizmazeref10_Valid.j1, if_true]; exact Ev.now _
  simp only [mizmazeref10_Valid.j0, Bool.false_eq_true, if_false, if_pos (by omega : 0 < (z.length : Int))]
  by_cases h3 : (rd_L4 z 0).length < 1
  · have e : mvB z = false := by unfold mvB; rw [decide_eq_false (by rw [hk]; omega)]; rfl
    rw [e]; simp only [if_pos (by omega : ((rd_L4 z 0).length : Int) < 1)]; exact bad
  by_cases h4 : (rd_L4 z 0).length > 6
  · have e : mvB z = false := by unfold mvB; rw [decide_eq_false (by rw [hk]; omega)]; rfl
    rw [e]; simp only [if_neg (by omega : ¬ ((rd_L4 z 0).length : Int) < 1), decide_eq_true (by omega : ((rd_L4 z 0).length : Int) > 6)]; exact bad
  simp only [if_neg (by omega : ¬ ((rd_L4 z 0).length : Int) < 1), decide_eq_false (by omega : ¬ ((rd_L4 z 0).length : Int) > 6)]
  refine Ev.next ?_
  simp only [mizmazeref10_Valid.j1, Bool.false_eq_true, if_false]
  generalize hkk : (rd_L4 z 0).length = kk at h3 h4
  have emv : mvB z = ((!z.any (lenB (kk : Int))) && (List.range z.length).all (okRow z)) := by
    unfold mvB
    rw [decide_eq_true (by rw [hk, hkk]; omega), Bool.true_and, hk, hkk]
  have two : (∀ r, r < z.length → (rd_L4 z (r : Int)).length = kk) → Ev (fun k => mizmazeref10_Valid.l1 k (z.length : Int) (kk : Int) 0 z) ((List.range z.length).all (okRow z)) := by
    intro row
    refine @Ev.every Bool (fun k i => mizmazeref10_Valid.l1 k (z.length : Int) (kk : Int) (i : Int) z) z.length true false _ (fun r => okRow z r) ?_ ?_ ?_ ?_ ?_
    · intro h; rw [List.all_eq_true]; exact fun r hr => h r (List.mem_range.1 hr)
    · intro r hr h
      rw [List.all_eq_false]
      exact ⟨r, List.mem_range.2 hr, by simp [h]⟩
    all_goals skip
    · intro r hr h hE
      refine Ev.step (fun k => by rw [mizmazeref10_Valid.l1, if_pos (by omega)]) ?_
      have inner : ∀ e d : Nat, d + e = kk → Ev (fun k => mizmazeref10_Valid.l2 k (z.length : Int) (kk : Int) (r : Int) (d : Int) z) ((List.range z.length).all (okRow z)) := by
        intro e
        induction e with
        | zero =>
          intro d hd
          exact Ev.step (fun k => by rw [mizmazeref10_Valid.l2, if_neg (by omega), wrapS (by omega)]) hE
        | succ e ih =>
          intro d hd
          have ok : okDoor z (kk : Int) (r : Int) (d : Int) = true := by
            unfold okRow at h
            rw [List.all_eq_true] at h
            have := h d (List.mem_range.2 (by rw [hk, hkk]; omega))
            rw [hk, hkk] at this
            exact this
          obtain ⟨e0, e1, g0, g1, g2, g3⟩ := (okDoor_iff rfl).1 ok
          have rw1 := row r hr
          have rw2 := row _ g0
          refine Ev.step (fun k => by rw [mizmazeref10_Valid.l2, if_pos (by omega), if_pos (by omega), if_pos (by omega), if_pos (by omega), if_pos (by omega), e0, e1, if_neg (by omega), if_neg (by omega), if_neg (by omega), if_neg (by omega), if_pos (by omega), if_pos (by omega), if_pos (by omega), if_pos (by omega), g2, g3, if_neg (by simp), wrapS (by omega)]) (ih (d + 1) (by omega))
      exact inner kk 0 (by omega)
    · intro r hr h
      refine Ev.step (fun k => by rw [mizmazeref10_Valid.l1, if_pos (by omega)]) ?_
      unfold okRow at h
      rw [hk, hkk, Int.toNat_natCast] at h
      have inner : ∀ e d : Nat, d + e = kk → (∀ j, j < d → okDoor z (kk : Int) (r : Int) (j : Int) = true) → Ev (fun k => mizmazeref10_Valid.l2 k (z.length : Int) (kk : Int) (r : Int) (d : Int) z) false := by
        intro e
        induction e with
        | zero =>
          intro d hd hj
          exfalso
          rw [List.all_eq_false] at h
          obtain ⟨j, hj1, hj2⟩ := h
          exact hj2 (hj j (by have := List.mem_range.1 hj1; omega))
        | succ e ih =>
          intro d hd hj
          have rw1 := row r hr
          cases ok : okDoor z (kk : Int) (r : Int) (d : Int) with
          | true =>
            obtain ⟨e0, e1, g0, g1, g2, g3⟩ := (okDoor_iff rfl).1 ok
            have rw2 := row _ g0
            refine Ev.step (fun k => by rw [mizmazeref10_Valid.l2, if_pos (by omega), if_pos (by omega), if_pos (by omega), if_pos (by omega), if_pos (by omega), e0, e1, if_neg (by omega), if_neg (by omega), if_neg (by omega), if_neg (by omega), if_pos (by omega), if_pos (by omega), if_pos (by omega), if_pos (by omega), g2, g3, if_neg (by simp), wrapS (by omega)]) (ih (d + 1) (by omega) fun j hjd => ?_)
            rcases Nat.lt_or_ge j d with h7 | h7
            · exact hj j h7
            · obtain rfl : j = d := by omega
              exact ok
          | false =>
            unfold okDoor at ok
            generalize hb0 : (rd_T44 (rd_L4 z (r : Int)) (d : Int)).f0 = b0 at ok
            generalize hb1 : (rd_T44 (rd_L4 z (r : Int)) (d : Int)).f1 = b1 at ok
            refine Ev.step (f := fun _ => some false) (fun k => ?_) (Ev.now _)
            rw [mizmazeref10_Valid.l2, if_pos (by omega), if_pos (by omega), if_pos (by omega), if_pos (by omega), if_pos (by omega), hb0, hb1]
            by_cases c1 : b0 < 0
            · rw [if_pos c1]
            rw [if_neg c1]
            by_cases c2 : b0 ≥ (z.length : Int)
            · rw [if_pos c2]
            rw [if_neg c2]
            by_cases c3 : b1 < 0
            · rw [if_pos c3]
            rw [if_neg c3]
            by_cases c4 : b1 ≥ (kk : Int)
            · rw [if_pos c4]
            rw [if_neg c4]
            obtain ⟨b0, rfl⟩ := Int.eq_ofNat_of_zero_le (show 0 ≤ b0 by omega)
            have rw2 := row b0 (by omega)
            rw [decide_eq_true (by omega), Bool.true_and] at ok
            rw [if_pos (by omega), if_pos (by omega), if_pos (by omega), if_pos (by omega), if_pos]
            rw [← Bool.not_and, ok]; rfl
      exact inner kk 0 (by omega) fun j hj => by omega
    · exact Ev.step (f := fun _ => some true) (fun k => by rw [mizmazeref10_Valid.l1, if_neg (by omega)]) (Ev.now _)
  rw [emv]
  have outer : ∀ e i : Nat, i + e = z.length → (∀ j, j < i → (rd_L4 z (j : Int)).length = kk) → Ev (fun k => mizmazeref10_Valid.l0 k (z.length : Int) (kk : Int) (i : Int) z) ((!z.any (lenB (kk : Int))) && (List.range z.length).all (okRow z)) := by
    intro e
    induction e with
    | zero =>
      intro i hi hj
      obtain rfl : i = z.length := by omega
      have hany : z.any (lenB (kk : Int)) = false := by
        rw [List.any_eq_false]
        intro row hrow
        obtain ⟨j, hj1, rfl⟩ := List.getElem_of_mem hrow
        have := hj j hj1
        rw [rdLE4 hj1] at this
        unfold lenB
        simp [this]
      rw [hany, Bool.not_false, Bool.true_and]
      exact Ev.step (fun k => by rw [mizmazeref10_Valid.l0, if_neg (by omega)]) (two hj)
    | succ e ih =>
      intro i hi hj
      by_cases hc : (rd_L4 z (i : Int)).length = kk
      · refine Ev.step (fun k => by rw [mizmazeref10_Valid.l0, if_pos (by omega), if_pos (by omega), if_pos (by omega), if_pos (by omega), wrapS (by omega)]) (ih (i + 1) (by omega) fun j hjd => ?_)
        rcases Nat.lt_or_ge j i with h7 | h7
        · exact hj j h7
        · obtain rfl : j = i := by omega
          exact hc
      · have hany : z.any (lenB (kk : Int)) = true := by
          rw [List.any_eq_true]
          refine ⟨rd_L4 z (i : Int), by rw [rdLE4 (by omega)]; exact List.getElem_mem _, ?_⟩
          unfold lenB
          simp
          omega
        rw [hany]
        exact Ev.step (f := fun _ => some false) (fun k => by rw [mizmazeref10_Valid.l0, if_pos (by omega), if_pos (by omega), if_pos (by omega), if_neg (by omega)]) (Ev.now _)
  exact outer z.length 0 (by omega) fun j hj => by omega
theorem ref_word10 (d : Int) (l : List Int) : Ev (fun k => mizmazeref10_Word.f k d l) (decide (l.length ≤ 40000) && inB d l) := by
  unfold mizmazeref10_Word.f
  by_cases h : l.length ≤ 40000
  · rw [decide_eq_true h, Bool.true_and]
    simp only [if_neg (by omega : ¬ (l.length : Int) > 40000)]
    have key : ∀ e i : Nat, i + e = l.length → Ev (fun k => mizmazeref10_Word.l0 k d l (i : Int)) (inB d (l.drop i)) := by
      intro e
      induction e with
      | zero =>
        intro i hi
        refine Ev.step (f := fun _ => some true) (fun k => by rw [mizmazeref10_Word.l0, if_neg (by omega)]) ?_
        rw [List.drop_eq_nil_of_le (by omega)]
        exact Ev.now true
      | succ e ih =>
        intro i hi
        have hlt : i < l.length := by omega
        have e1 : inB d (l.drop i) = (decide (0 ≤ l[i] ∧ l[i] < d) && inB d (l.drop (i + 1))) := by
          rw [List.drop_eq_getElem_cons hlt]; rfl
        rw [e1]
        by_cases h1 : l[i] < 0
        · rw [decide_eq_false (by omega)]
          exact Ev.step (f := fun _ => some false) (fun k => by rw [mizmazeref10_Word.l0, if_pos (by omega), if_pos (by omega), rdE hlt, if_pos h1]) (Ev.now false)
        · by_cases h2 : l[i] ≥ d
          · rw [decide_eq_false (by omega)]
            exact Ev.step (f := fun _ => some false) (fun k => by rw [mizmazeref10_Word.l0, if_pos (by omega), if_pos (by omega), rdE hlt, if_neg h1, if_pos h2]) (Ev.now false)
          · rw [decide_eq_true (by omega)]
            exact Ev.step (fun k => by rw [mizmazeref10_Word.l0, if_pos (by omega), if_pos (by omega), rdE hlt, if_neg h1, if_neg h2, wrapS (by omega)]) (ih (i + 1) (by omega))
    exact key l.length 0 (by omega)
  · rw [decide_eq_false h, Bool.false_and]
    simp only [if_pos (by omega : (l.length : Int) > 40000)]
    exact Ev.now _
/-- Some answer; a valid maze is not wide. -/
theorem wide_ev (z : List (List S44)) : ∃ b, Ev (fun k => mizmazelaw10_Wide.f k z) b ∧ (mvB z = true → b = false) := by
  have key : ∀ e i : Nat, i + e = 100 → ∃ b, Ev (fun k => mizmazelaw10_Wide.l0 k (i : Int) z) b ∧ (mvB z = true → b = false) := by
    intro e
    induction e with
    | zero =>
      intro i hi
      refine ⟨decide ((z.length : Int) > 100), Ev.step (f := fun k => mizmazelaw10_Wide.j1 k (i : Int) false z) (fun k => ?_) (Ev.step (f := fun _ => some (decide ((z.length : Int) > 100))) (fun k => by rw [mizmazelaw10_Wide.j1, if_neg (by simp)]) (Ev.now _)), fun h => ?_⟩
      · rw [mizmazelaw10_Wide.l0]
        by_cases c : (i : Int) < (z.length : Int)
        · rw [if_pos c, decide_eq_false (by omega)]
        · rw [if_neg c]
      · have := (mvB_iff.1 h).n60
        exact decide_eq_false (by omega)
    | succ e ih =>
      intro i hi
      by_cases c : i < z.length
      · by_cases c2 : (rd_L4 z (i : Int)).length > 100
        · refine ⟨true, Ev.step (f := fun k => mizmazelaw10_Wide.j1 k (i : Int) true z) (fun k => by rw [mizmazelaw10_Wide.l0, if_pos (by omega), decide_eq_true (by omega)]) (Ev.step (f := fun _ => some true) (fun k => by rw [mizmazelaw10_Wide.j1, if_pos rfl, if_pos (by omega), if_pos (by omega), if_pos (by omega)]) (Ev.now _)), fun h => ?_⟩
          have V := mvB_iff.1 h
          have h1 := V.row i c
          have h2 := V.k6
          omega
        · obtain ⟨b, hb, hv⟩ := ih (i + 1) (by omega)
          exact ⟨b, Ev.step (f := fun k => mizmazelaw10_Wide.j1 k (i : Int) true z) (fun k => by rw [mizmazelaw10_Wide.l0, if_pos (by omega), decide_eq_true (by omega)]) (Ev.step (fun k => by rw [mizmazelaw10_Wide.j1, if_pos rfl, if_pos (by omega), if_pos (by omega), if_neg (by omega), wrapS (by omega)]) hb), hv⟩
      · refine ⟨decide ((z.length : Int) > 100), Ev.step (f := fun k => mizmazelaw10_Wide.j1 k (i : Int) false z) (fun k => by rw [mizmazelaw10_Wide.l0, if_neg (by omega)]) (Ev.step (f := fun _ => some (decide ((z.length : Int) > 100))) (fun k => by rw [mizmazelaw10_Wide.j1, if_neg (by simp)]) (Ev.now _)), fun h => ?_⟩
        have := (mvB_iff.1 h).n60
        exact decide_eq_false (by omega)
  exact key 100 0 (by omega)
theorem same07 (l : List Int) (hl : l.length ≤ 9223372036854775806) : Ev (fun k => mizmazeref07_Same.f k l l) true := by
  have key : ∀ e i : Nat, i + e = l.length → Ev (fun k => mizmazeref07_Same.l0 k l l (i : Int)) true := by
    intro e
    induction e with
    | zero => intro i hi; exact Ev.step (f := fun _ => some true) (fun k => by rw [mizmazeref07_Same.l0, if_neg (by omega)]) (Ev.now _)
    | succ e ih => intro i hi; exact Ev.step (fun k => by rw [mizmazeref07_Same.l0, if_pos (by omega), if_pos (by omega), if_pos (by omega), if_pos rfl, wrapS (by omega)]) (ih (i + 1) (by omega))
  refine (key l.length 0 (by omega)).congr fun k => ?_
  unfold mizmazeref07_Same.f
  rw [if_pos rfl]; rfl
end Go.Proofs.Ytgbjbgdnldklpaa.Q
end
/-! Part MWalkZ -/
section
namespace Go.Proofs.Ytgbjbgdnldklpaa.Q
open Go.RowKit Go.Proofs.YtgbjbgdnldklpaaW.PrintWords Go.Proofs.YtgbjbgdnldklpaaW.PrintLast Go.Proofs.YtgbjbgdnldklpaaW.PrintMore
set_option linter.unusedVariables false
set_option linter.unusedSectionVars false
/-! ### the rooms where one is -/
def stepsZ (z : List (List S44)) : Nat → List Nat → List Nat
  | _, [] => []
  | s, x :: w => gz z s x :: stepsZ z (gz z s x) w
def pathZ (z : List (List S44)) (s : Nat) (w : List Nat) : List Nat := s :: stepsZ z s w
theorem stepsZ_len (z : List (List S44)) : ∀ (w : List Nat) (s : Nat), (stepsZ z s w).length = w.length
  | [], _ => rfl
  | x :: w, s => by simp [stepsZ, stepsZ_len z w]
theorem pathZ_len (z : List (List S44)) (s : Nat) (w : List Nat) : (pathZ z s w).length = w.length + 1 := by simp [pathZ, stepsZ_len]
section
variable {z : List (List S44)} {n m : Nat} (V : VZ z n m)
include V
theorem stepsZ_lt : ∀ {w : List Nat} {s : Nat}, s < n → Wd m w → ∀ t ∈ stepsZ z s w, t < n
  | [], s, hs, hw, t, ht => by cases ht
  | x :: w, s, hs, hw, t, ht => by
    have h1 := V.gLt s x hs hw.head
    rcases List.mem_cons.1 ht with rfl | ht
    · exact h1
    · exact stepsZ_lt h1 hw.tail t ht
theorem pathZ_lt {w : List Nat} {s : Nat} (hs : s < n) (hw : Wd m w) : ∀ t ∈ pathZ z s w, t < n := fun t ht => by
  rcases List.mem_cons.1 ht with rfl | ht
  · exact hs
  · exact stepsZ_lt V hs hw t ht
theorem walk_loop {w : List Nat} (hw : Wd m w) (hl : w.length ≤ 1000000) : ∀ (e i s : Nat) (out : List Int), i + e = w.length → s < n → out.length ≤ i + 1 → Ev (fun k => maze_Walk.l0 k (s : Int) out (toI w) (w.length : Int) (i : Int) z) (out ++ toI (stepsZ z s (w.drop i)), 0)
  | 0, i, s, out, he, hs, ho => by
    refine Ev.step (f := fun _ => some (out, (0 : Int))) (fun k => by rw [maze_Walk.l0, if_neg (by omega)]) (Ev.ret ?_)
    rw [List.drop_eq_nil_of_le (by omega)]
    simp [stepsZ, toI]
  | e + 1, i, s, out, he, hs, ho => by
    have hi : i < w.length := by omega
    have hx : w[i] < m := hw _ (List.getElem_mem hi)
    have hlen := V.len
    have hrow := V.row s hs
    have ih := walk_loop hw hl e (i + 1) (gz z s w[i]) (out ++ [((gz z s w[i] : Nat) : Int)]) (by omega) (V.gLt s _ hs hx) (by simp; omega)
    have e1 : out ++ toI (stepsZ z s (w.drop i)) = (out ++ [((gz z s w[i] : Nat) : Int)]) ++ toI (stepsZ z (gz z s w[i]) (w.drop (i + 1))) := by
      rw [List.drop_eq_getElem_cons hi]
      simp [stepsZ, toI]
    rw [e1]
    refine Ev.step (fun k => by rw [maze_Walk.l0, if_pos (by omega), if_pos (by omega), if_pos (by rw [toI_len]; omega), if_pos (by omega), if_pos (by omega), toI_rd hi, if_pos (by omega), if_pos (by omega), V.f0 s _ hs hx, if_pos (by omega), wrapS (by omega)]) ih
theorem walk_ev {w : List Nat} (hw : Wd m w) (hl : w.length ≤ 40000) {s : Nat} (hs : s < n) : Ev (fun k => maze_Walk.f k z (s : Int) (toI w)) (toI (pathZ z s w), 0) := by
  have hlen := V.len
  have hr0 : (rd_L4 z 0).length = m := V.row 0 V.n0
  have h0 := V.n0
  have := walk_loop V hw (by omega) w.length 0 s [(s : Int)] (by omega) hs (by simp)
  have e1 : ([(s : Int)] ++ toI (stepsZ z s (w.drop 0)), (0 : Int)) = (toI (pathZ z s w), 0) := by simp [pathZ, toI]
  rw [e1] at this
  refine this.congr fun k => ?_
  unfold maze_Walk.f maze_Valid.f maze_fits.f
  rw [mvB_of V, Option.bind_some, if_pos rfl, if_neg (by omega), if_neg (by omega), if_pos (by omega), hr0, Option.bind_some, toI_len, decide_eq_true hl, Bool.true_and, inB_toI.2 hw, if_pos rfl]
  rfl
theorem walk_arg {a : Int} {l : List Int} (h : ¬ ((0 ≤ a ∧ a < n) ∧ l.length ≤ 40000 ∧ inB (m : Int) l = true)) : Ev (fun k => maze_Walk.f k z a l) ([], 2) := by
  have hlen := V.len
  have hr0 : (rd_L4 z 0).length = m := V.row 0 V.n0
  have h0 := V.n0
  refine Ev.congr (f := fun _ => some ([], 2)) (fun k => ?_) (Ev.now _)
  unfold maze_Walk.f maze_Valid.f maze_fits.f
  rw [mvB_of V, Option.bind_some, if_pos rfl]
  by_cases h1 : a < 0
  · rw [if_pos h1]
  · by_cases h2 : a ≥ (n : Int)
    · rw [if_neg h1, if_pos (by omega)]
    · rw [if_neg h1, if_neg (by omega), if_pos (by omega), hr0, Option.bind_some, if_neg]
      rw [Bool.and_eq_true, decide_eq_true_eq]
      rintro ⟨h3, h4⟩
      exact h ⟨⟨by omega, by omega⟩, h3, h4⟩
end
theorem walk_form {z : List (List S44)} (h : mvB z = false) (a : Int) (l : List Int) : Ev (fun k => maze_Walk.f k z a l) ([], 1) := by
  refine Ev.congr (f := fun _ => some ([], 1)) (fun k => ?_) (Ev.now _)
  unfold maze_Walk.f maze_Valid.f
  rw [h, Option.bind_some, if_neg (by simp)]
end Go.Proofs.Ytgbjbgdnldklpaa.Q
end
