/- The law MazeBack holds: whoever goes back through a door is where one was, and a word is walked back through the same rooms; no bound on the arguments beyond their types'. (text 7 of 17) -/
import Derived.Test.YtgbjbgdnldklpaaZMazeBackf
/-! Part QMazeWalk -/
section
-- Written by xprint.py, a program of this session's, over the kit's print. Lean checks it.
namespace Go.Proofs.Ytgbjbgdnldklpaa.Q
open Go.RowKit Go.Proofs.YtgbjbgdnldklpaaW.PrintWords Go.Proofs.YtgbjbgdnldklpaaW.PrintLast Go.Proofs.YtgbjbgdnldklpaaW.PrintMore
attribute [local go_sem] max2_int min2_int max_two min_two max_three min_three max_four min_four
set_option linter.unusedVariables false
set_option linter.unusedSimpArgs false

/-! ### maze_Walk: function 22 -/
def maze_Walk.l0 : Nat → Int → List Int → List Int → Int → Int → List (List (S44)) → Option (List Int × Int)
  | 0, _, _, _, _, _, _ => none
  | k + 1, x1, x8, x37, x38, x39, x192000 => if x39 < x38 then (if 0 ≤ x39 then (if x39 < (x37.length : Int) then (if 0 ≤ x1 then (if x1 < (x192000.length : Int) then (if 0 ≤ (rd x37 x39) then (if (rd x37 x39) < ((rd_L4 x192000 x1).length : Int) then (if x8.length < 17592186044416 then (maze_Walk.l0 k ((rd_T44 (rd_L4 x192000 x1) (rd x37 x39)).f0) (x8 ++ [(rd_T44 (rd_L4 x192000 x1) (rd x37 x39)).f0]) x37 x38 (wrap64 (x39 + 1)) x192000) else (none)) else (none)) else (none)) else (none)) else (none)) else (none)) else (none)) else (some (x8, 0))
def maze_Walk.f (k : Nat) (l0_0 : List (List (S44))) (a1 : Int) (l2 : List Int) : Option (List Int × Int) := (maze_Valid.f l0_0).bind fun t192 => (if t192 = true then (if a1 < 0 then (some (([] : List Int), 2)) else (if a1 ≥ (l0_0.length : Int) then (some (([] : List Int), 2)) else (if 0 < (l0_0.length : Int) then ((maze_fits.f l2 ((rd_L4 l0_0 0).length : Int)).bind fun t194 => (if t194 = true then (maze_Walk.l0 k a1 (([a1] : List Int)) l2 (l2.length : Int) 0 l0_0) else (some (([] : List Int), 2)))) else (none)))) else (some (([] : List Int), 1)))
theorem maze_Walk.mono_l : ∀ k, (∀ y0 y1 y2 y3 y4 y5, LeO (maze_Walk.l0 k y0 y1 y2 y3 y4 y5) (maze_Walk.l0 (k + 1) y0 y1 y2 y3 y4 y5))
  | 0 => fun _ _ _ _ _ _ r h => by simp [maze_Walk.l0] at h
  | k + 1 => by
    have ih0 := maze_Walk.mono_l k
    · intro y0 y1 y2 y3 y4 y5
      unfold maze_Walk.l0
      repeat' first
      | (with_reducible exact ih0 _ _ _ _ _ _)
      | (with_reducible exact LeO.refl _)
      | (with_reducible exact LeO.none _)
      | (with_reducible refine LeO.ite ?_ ?_)
      | (with_reducible refine LeO.bind ?_ (fun _ => ?_))
      | exact ih0 _ _ _ _ _ _
      | exact LeO.none _
      | refine LeO.ite ?_ ?_
      | refine LeO.bind ?_ (fun _ => ?_)
theorem maze_Walk.mono : ∀ a0 a1 a2 k, LeO (maze_Walk.f k a0 a1 a2) (maze_Walk.f (k + 1) a0 a1 a2) := by
  intro a0 a1 a2 k
  have ih0 := maze_Walk.mono_l k
  unfold maze_Walk.f
  repeat' first
      | (with_reducible exact ih0 _ _ _ _ _ _)
      | (with_reducible exact LeO.refl _)
      | (with_reducible exact LeO.none _)
      | (with_reducible refine LeO.ite ?_ ?_)
      | (with_reducible refine LeO.bind ?_ (fun _ => ?_))
      | exact ih0 _ _ _ _ _ _
      | exact LeO.none _
      | refine LeO.ite ?_ ?_
      | refine LeO.bind ?_ (fun _ => ?_)
set_option maxHeartbeats 8000000 in
set_option maxRecDepth 100000 in
theorem maze_Walk.calls (k : Nat) (A0_0 : Option Addr) (c0_0 : Nat) (l0_0 : List (List (S44))) (a1 : Int) (A2 : Option Addr) (c2 : Nat) (l2 : List Int) (r1 : List Int) (r2 : Int) (w : World) (hr0_0 : Kd.C (Kd.slice 44 k44) w A0_0 l0_0.length l0_0) (hc0_0 : l0_0.length ≤ c0_0) (hr2 : Kd.C (Kd.int .i64) w A2 l2.length l2) (hc2 : l2.length ≤ c2) (h : maze_Walk.f k l0_0 a1 l2 = some (r1, r2)) :
    Calls Try.prog 22 #[.agg #[.slice A0_0 l0_0.length c0_0], .int .i64 a1, .slice A2 l2.length c2] w fun e w' => ∃ v0_ : Value, e = .returned (.tuple #[v0_, .int .i64 r2]) ∧ Kd.R (Kd.int .i64) 3 w' w.heap.size (fun _ => True) v0_ r1 ∧ Below w.heap.size w w' := by
  have hu38 := Try.underlying38
  have HR0_0 := Aside0.mk hr0_0
  have HC0_0 := Aside0.mk hc0_0
  clear hr0_0 hc0_0
  have HR2 := Aside0.mk hr2
  have HC2 := Aside0.mk hc2
  clear hr2 hc2
  have HB := Aside0.mk (Below.refl w.heap.size w)
  have H : ((maze_Valid.f l0_0).bind fun t192 => (if t192 = true then (if a1 < 0 then (some (([] : List Int), 2)) else (if a1 ≥ (l0_0.length : Int) then (some (([] : List Int), 2)) else (if 0 < (l0_0.length : Int) then ((maze_fits.f l2 ((rd_L4 l0_0 0).length : Int)).bind fun t194 => (if t194 = true then (maze_Walk.l0 k a1 (([a1] : List Int)) l2 (l2.length : Int) 0 l0_0) else (some (([] : List Int), 2)))) else (none)))) else (some (([] : List Int), 1)))) = some (r1, r2) := h
  clear h
  replace H := Option.bind_eq_some_iff.mp H
  obtain ⟨t192, A40, H⟩ := H
  replace H : (if t192 = true then (if a1 < 0 then (some (([] : List Int), 2)) else (if a1 ≥ (l0_0.length : Int) then (some (([] : List Int), 2)) else (if 0 < (l0_0.length : Int) then ((maze_fits.f l2 ((rd_L4 l0_0 0).length : Int)).bind fun t194 => (if t194 = true then (maze_Walk.l0 k a1 (([a1] : List Int)) l2 (l2.length : Int) 0 l0_0) else (some (([] : List Int), 2)))) else (none)))) else (some (([] : List Int), 1))) = some (r1, r2) := H
  have A4 := Aside0.mk A40
  clear A40
  by_cases c5 : t192 = true
  · subst c5
    have H1 : (if a1 < 0 then (some (([] : List Int), 2)) else (if a1 ≥ (l0_0.length : Int) then (some (([] : List Int), 2)) else (if 0 < (l0_0.length : Int) then ((maze_fits.f l2 ((rd_L4 l0_0 0).length : Int)).bind fun t194 => (if t194 = true then (maze_Walk.l0 k a1 (([a1] : List Int)) l2 (l2.length : Int) 0 l0_0) else (some (([] : List Int), 2)))) else (none)))) = some (r1, r2) := by rw [if_pos rfl] at H; exact H
    clear H
    have H := H1
    clear H1
    by_cases c6 : a1 < 0
    · rw [if_pos c6] at H
      have c6b0 : decide (a1 < 0) = true := decide_eq_true c6
      clear c6
      simp only [Option.some.injEq, Prod.mk.injEq] at H
      obtain ⟨rfl, rfl⟩ := H
      go_enter Try.func22, Try.ntmps22
      go_wp2_with (first | ((with_reducible refine gate_dst (N := 3) rfl ?_); (try (refine gate_guard (by rfl) ?_; dsimp only)); refine box_event ?hg (N := 3) ?hd (cs := #[.slice A0_0 l0_0.length c0_0]) (t := 38) ?hr ?_; (case hd => rfl); (case hg => rfl); (case hr => first | (go_simp; done) | (go_simp; rfl)); intro gb191 hg w7 hbox hb; have n0_ := Aside0.mk (below_step (by repeat (first | (with_reducible first | exact HB.out | apply below_alloc | apply pw_below_drewN | apply below_drew1) | exact HB.out)) hb); have n1_ := Aside0.mk (hbox); have n2_ := Aside0.mk ((by rw [hg]; exact (below_size (by repeat (first | (with_reducible first | exact HB.out | apply below_alloc | apply pw_below_drewN | apply below_drew1) | exact HB.out))) : w.heap.size ≤ gb191)); have n3_ := Aside0.mk ((by rw [hg]; exact (below_size (by repeat (first | (with_reducible first | exact HB.out | apply below_alloc | apply pw_below_drewN | apply below_drew1) | exact HB.out))) : w.heap.size ≤ gb191)); clear HB; have HB := n0_; have BK191 := n1_; have GW191 := n2_; have GE191 := n3_; clear n0_ n1_ n2_ n3_; clear hb hbox hg; have hcz8_0 : w7.cell? ⟨gb191, 0, none⟩ = some (.slice A0_0 l0_0.length c0_0) := (blk_cell BK191.out 0).trans rfl; have hfz8_0 := blk_frozen BK191.out 0) | ((with_reducible refine gate_callee (f := 24) rfl ?_); refine goesL_ (some 13) rfl rfl Try.func24 (by kernel_rfl) rfl #[.agg #[.slice A0_0 l0_0.length c0_0]] rfl (by (try simp only [List.map_toArray, List.map_cons, List.map_nil]); first | done | rfl | (simp only [List.length_drop, List.length_take]; rfl)) ?_; (with_reducible refine (maze_Valid.calls _ _ l0_0 true _ ?side1 ?side2 A4.out).mono ?_); (case side1 => repeat (first | exact (Kd.C_below HR0_0.out HB.out) | (with_reducible refine Kd.C_alloc ?_ _) | (with_reducible refine Kd.C_drewN ?_ _) | (with_reducible refine Kd.C_drew ?_))); (case side2 => exact HC0_0.out); rintro e w9 ⟨rfl, hb⟩; refine ⟨_, rfl, ?_⟩; have n0_ := Aside0.mk (blk_below (g := gb191) (o := .cells #[.slice A0_0 l0_0.length c0_0] 38 (0, 0)) (by (with_reducible repeat (first | refine blk_drewN ?_ _ | refine blk_drew ?_ | refine blk_alloc ?_ _)); exact BK191.out) hb); have n1_ := Aside0.mk (below_step (by repeat (first | (with_reducible first | exact HB.out | apply below_alloc | apply pw_below_drewN | apply below_drew1 | refine below_set ?_ GE191.out) | exact HB.out)) hb); clear BK191; clear HB; have BK191 := n0_; have HB := n1_; clear n0_ n1_; (try clear hb); (try clear hb2); (try clear hk); (try clear hi)))
      go_ret2
      exact ⟨_, by first | rfl | (simp [errW_none, errW_some] <;> rfl) | (simp [*, errW_none, errW_some] <;> rfl), by first | exact Kd.R_nil _ _ _ _ _ | exact Kd.N_nil _ _ _ _ _ | exact Kd.V_nil _ _ _ _ _ | exact Kd.Q_nil _ _ _ _ _ | exact Kd.S_nil _ _ _ _ _, by repeat (first | (with_reducible first | exact HB.out | apply below_alloc | apply pw_below_drewN | apply below_drew1 | refine below_set ?_ GE191.out) | exact HB.out)⟩
    · rw [if_neg c6] at H
      have c6b0 : decide (a1 < 0) = false := decide_eq_false c6
      clear c6
      by_cases c10 : a1 ≥ (l0_0.length : Int)
      · rw [if_pos c10] at H
        have c10b0 : decide ((l0_0.length : Int) ≤ a1) = true := decide_eq_true c10
        clear c10
        simp only [Option.some.injEq, Prod.mk.injEq] at H
        obtain ⟨rfl, rfl⟩ := H
        go_enter Try.func22, Try.ntmps22
        go_wp2_with (first | ((with_reducible refine gate_dst (N := 3) rfl ?_); (try (refine gate_guard (by rfl) ?_; dsimp only)); refine box_event ?hg (N := 3) ?hd (cs := #[.slice A0_0 l0_0.length c0_0]) (t := 38) ?hr ?_; (case hd => rfl); (case hg => rfl); (case hr => first | (go_simp; done) | (go_simp; rfl)); intro gb191 hg w11 hbox hb; have n0_ := Aside0.mk (below_step (by repeat (first | (with_reducible first | exact HB.out | apply below_alloc | apply pw_below_drewN | apply below_drew1) | exact HB.out)) hb); have n1_ := Aside0.mk (hbox); have n2_ := Aside0.mk ((by rw [hg]; exact (below_size (by repeat (first | (with_reducible first | exact HB.out | apply below_alloc | apply pw_below_drewN | apply below_drew1) | exact HB.out))) : w.heap.size ≤ gb191)); have n3_ := Aside0.mk ((by rw [hg]; exact (below_size (by repeat (first | (with_reducible first | exact HB.out | apply below_alloc | apply pw_below_drewN | apply below_drew1) | exact HB.out))) : w.heap.size ≤ gb191)); clear HB; have HB := n0_; have BK191 := n1_; have GW191 := n2_; have GE191 := n3_; clear n0_ n1_ n2_ n3_; clear hb hbox hg; have hcz12_0 : w11.cell? ⟨gb191, 0, none⟩ = some (.slice A0_0 l0_0.length c0_0) := (blk_cell BK191.out 0).trans rfl; have hfz12_0 := blk_frozen BK191.out 0) | ((with_reducible refine gate_callee (f := 24) rfl ?_); refine goesL_ (some 13) rfl rfl Try.func24 (by kernel_rfl) rfl #[.agg #[.slice A0_0 l0_0.length c0_0]] rfl (by (try simp only [List.map_toArray, List.map_cons, List.map_nil]); first | done | rfl | (simp only [List.length_drop, List.length_take]; rfl)) ?_; (with_reducible refine (maze_Valid.calls _ _ l0_0 true _ ?side1 ?side2 A4.out).mono ?_); (case side1 => repeat (first | exact (Kd.C_below HR0_0.out HB.out) | (with_reducible refine Kd.C_alloc ?_ _) | (with_reducible refine Kd.C_drewN ?_ _) | (with_reducible refine Kd.C_drew ?_))); (case side2 => exact HC0_0.out); rintro e w13 ⟨rfl, hb⟩; refine ⟨_, rfl, ?_⟩; have n0_ := Aside0.mk (blk_below (g := gb191) (o := .cells #[.slice A0_0 l0_0.length c0_0] 38 (0, 0)) (by (with_reducible repeat (first | refine blk_drewN ?_ _ | refine blk_drew ?_ | refine blk_alloc ?_ _)); exact BK191.out) hb); have n1_ := Aside0.mk (below_step (by repeat (first | (with_reducible first | exact HB.out | apply below_alloc | apply pw_below_drewN | apply below_drew1 | refine below_set ?_ GE191.out) | exact HB.out)) hb); clear BK191; clear HB; have BK191 := n0_; have HB := n1_; clear n0_ n1_; (try clear hb); (try clear hb2); (try clear hk); (try clear hi); have hcz14_0 : w13.cell? ⟨gb191, 0, none⟩ = some (.slice A0_0 l0_0.length c0_0) := (blk_cell BK191.out 0).trans rfl; have hfz14_0 := blk_frozen BK191.out 0))
        go_ret2
        exact ⟨_, by first | rfl | (simp [errW_none, errW_some] <;> rfl) | (simp [*, errW_none, errW_some] <;> rfl), by first | exact Kd.R_nil _ _ _ _ _ | exact Kd.N_nil _ _ _ _ _ | exact Kd.V_nil _ _ _ _ _ | exact Kd.Q_nil _ _ _ _ _ | exact Kd.S_nil _ _ _ _ _, by repeat (first | (with_reducible first | exact HB.out | apply below_alloc | apply pw_below_drewN | apply below_drew1 | refine below_set ?_ GE191.out) | exact HB.out)⟩
      · rw [if_neg c10] at H
        have c10b0 : decide ((l0_0.length : Int) ≤ a1) = false := decide_eq_false c10
        clear c10
        by_cases c15 : 0 < (l0_0.length : Int)
        · rw [if_pos c15] at H
          have c15b0 : decide (0 < (l0_0.length : Int)) = true := decide_eq_true c15
          have c15b1 : decide (0 < l0_0.length) = true := decide_eq_true (by omega)
          clear c15
          replace H := Option.bind_eq_some_iff.mp H
          obtain ⟨t194, A160, H⟩ := H
          replace H : (if t194 = true then (maze_Walk.l0 k a1 (([a1] : List Int)) l2 (l2.length : Int) 0 l0_0) else (some (([] : List Int), 2))) = some (r1, r2) := H
          have A16 := Aside0.mk A160
          clear A160
          by_cases c17 : t194 = true
          · subst c17
            have H1 : (maze_Walk.l0 k a1 (([a1] : List Int)) l2 (l2.length : Int) 0 l0_0) = some (r1, r2) := by rw [if_pos rfl] at H; exact H
            clear H
            have H := H1
            clear H1
            obtain ⟨y195, hy195⟩ : ∃ y_ : List Int, y_ = (([a1] : List Int)) := ⟨_, rfl⟩
            replace H : (maze_Walk.l0 k a1 y195 l2 (l2.length : Int) 0 l0_0) = some (r1, r2) := by first | (rw [hy195]; with_reducible exact H) | (have H2_ := (Option.bind_some _ _).symm.trans H; rw [hy195]; with_reducible exact H2_) | (have H2_ := (Option.bind_some _ _).symm.trans H; with_reducible exact H2_) | with_reducible exact H | (rw [hy195]; exact H) | exact H
            have Ny195 := Aside0.mk hy195
            clear hy195
            have H' := Aside0.mk H
            clear H
            go_enter Try.func22, Try.ntmps22
            go_wp2_with (first | ((with_reducible refine gate_dst (N := 3) rfl ?_); (try (refine gate_guard (by rfl) ?_; dsimp only)); refine box_event ?hg (N := 3) ?hd (cs := #[.slice A0_0 l0_0.length c0_0]) (t := 38) ?hr ?_; (case hd => rfl); (case hg => rfl); (case hr => first | (go_simp; done) | (go_simp; rfl)); intro gb191 hg w18 hbox hb; have n0_ := Aside0.mk (below_step (by repeat (first | (with_reducible first | exact HB.out | apply below_alloc | apply pw_below_drewN | apply below_drew1) | exact HB.out)) hb); have n1_ := Aside0.mk (hbox); have n2_ := Aside0.mk ((by rw [hg]; exact (below_size (by repeat (first | (with_reducible first | exact HB.out | apply below_alloc | apply pw_below_drewN | apply below_drew1) | exact HB.out))) : w.heap.size ≤ gb191)); have n3_ := Aside0.mk ((by rw [hg]; exact (below_size (by repeat (first | (with_reducible first | exact HB.out | apply below_alloc | apply pw_below_drewN | apply below_drew1) | exact HB.out))) : w.heap.size ≤ gb191)); clear HB; have HB := n0_; have BK191 := n1_; have GW191 := n2_; have GE191 := n3_; clear n0_ n1_ n2_ n3_; clear hb hbox hg; have hcz19_0 : w18.cell? ⟨gb191, 0, none⟩ = some (.slice A0_0 l0_0.length c0_0) := (blk_cell BK191.out 0).trans rfl; have hfz19_0 := blk_frozen BK191.out 0) | ((with_reducible refine gate_callee (f := 24) rfl ?_); refine goesL_ (some 13) rfl rfl Try.func24 (by kernel_rfl) rfl #[.agg #[.slice A0_0 l0_0.length c0_0]] rfl (by (try simp only [List.map_toArray, List.map_cons, List.map_nil]); first | done | rfl | (simp only [List.length_drop, List.length_take]; rfl)) ?_; (with_reducible refine (maze_Valid.calls _ _ l0_0 true _ ?side1 ?side2 A4.out).mono ?_); (case side1 => repeat (first | exact (Kd.C_below HR0_0.out HB.out) | (with_reducible refine Kd.C_alloc ?_ _) | (with_reducible refine Kd.C_drewN ?_ _) | (with_reducible refine Kd.C_drew ?_))); (case side2 => exact HC0_0.out); rintro e w20 ⟨rfl, hb⟩; refine ⟨_, rfl, ?_⟩; have n0_ := Aside0.mk (blk_below (g := gb191) (o := .cells #[.slice A0_0 l0_0.length c0_0] 38 (0, 0)) (by (with_reducible repeat (first | refine blk_drewN ?_ _ | refine blk_drew ?_ | refine blk_alloc ?_ _)); exact BK191.out) hb); have n1_ := Aside0.mk (below_step (by repeat (first | (with_reducible first | exact HB.out | apply below_alloc | apply pw_below_drewN | apply below_drew1 | refine below_set ?_ GE191.out) | exact HB.out)) hb); clear BK191; clear HB; have BK191 := n0_; have HB := n1_; clear n0_ n1_; (try clear hb); (try clear hb2); (try clear hk); (try clear hi); have hcz21_0 : w20.cell? ⟨gb191, 0, none⟩ = some (.slice A0_0 l0_0.length c0_0) := (blk_cell BK191.out 0).trans rfl; have hfz21_0 := blk_frozen BK191.out 0; have p193 : 0 ≤ (0 : Int) := (by omega); have q193 : 0 < (l0_0.length : Int) := of_decide_eq_true (by first | (with_reducible assumption) | assumption); obtain ⟨ad193, A193_0, c193_0, e193, hx193_0, hl193_0, hi193_0⟩ := at_L4 HR0_0.out 0 p193 q193; cases e193; have qi193 : (0 < l0_0.length) = True := eq_true (by omega); (try rw [show ((0 : Int)).toNat = 0 from rfl] at hx193_0); (try rw [Addr.add_zero'] at hx193_0); replace hx193_0 := (HB.out.cell (World.block_lt_of_cell? w _ hx193_0)).trans hx193_0; have HR193_0 := Aside0.mk hi193_0; have HC193_0 := Aside0.mk hl193_0; clear hi193_0 hl193_0; replace p193 := eq_true p193; replace q193 := eq_true q193) | (go_at_call 41; (with_reducible refine (maze_fits.calls _ _ l2 ((rd_L4 l0_0 0).length : Int) true _ ?side1 ?side2 A16.out).mono ?_); (case side1 => repeat (first | exact (Kd.C_below HR2.out HB.out) | (with_reducible refine Kd.C_alloc ?_ _) | (with_reducible refine Kd.C_drewN ?_ _) | (with_reducible refine Kd.C_drew ?_))); (case side2 => exact HC2.out); rintro e w22 ⟨rfl, hb⟩; have n0_ := Aside0.mk (blk_below (g := gb191) (o := .cells #[.slice (some ad193) l0_0.length c0_0] 38 (0, 0)) (by (with_reducible repeat (first | refine blk_drewN ?_ _ | refine blk_drew ?_ | refine blk_alloc ?_ _)); exact BK191.out) hb); have n1_ := Aside0.mk (below_step (by repeat (first | (with_reducible first | exact HB.out | apply below_alloc | apply pw_below_drewN | apply below_drew1 | refine below_set ?_ GE191.out) | exact HB.out)) hb); clear BK191; clear HB; have BK191 := n0_; have HB := n1_; clear n0_ n1_; (try clear hb); (try clear hb2); (try clear hk); (try clear hi)) | ((with_reducible refine gate_dst (N := 36) rfl ?_); (try (refine gate_guard (by rfl) ?_; dsimp only)); refine Kd.R_lit (Kd.int .i64) _ 3 ?hg (N := 36) ?hd (xs := ([a1] : List Int)) (inner := [.int .i64 a1]) (ok := fun _ => True) (okp := fun _ => True) ?hr ?hp (fun _ hk => hk) trivial (Below.refl _ _) (Nat.le_refl _) (by simp) ?_; (case hd => rfl); (case hg => rfl); (case hr => first | (go_simp; done) | (go_simp; rfl)); (case hp => exact (Reps.one (show Kd.M (Kd.int .i64) _ _ _ a1 [.int .i64 a1] from rfl) (Reps.none _ _))); intro v196 w23 ho24 hb hg_ hnew_; clear hg_ hnew_; (first | rw [← Ny195.out] at ho24 | (simp only [Int.reduceToNat] at ho24; rw [← Ny195.out] at ho24)); have n0_ := Aside0.mk (Kd.R_lower ho24 (below_size (by repeat (first | (with_reducible first | exact HB.out | apply below_alloc | apply pw_below_drewN | apply below_drew1 | refine below_set ?_ GE191.out) | exact HB.out)))); have n1_ := Aside0.mk (blk_below (g := gb191) (o := .cells #[.slice (some ad193) l0_0.length c0_0] 38 (0, 0)) (by (with_reducible repeat (first | refine blk_drewN ?_ _ | refine blk_drew ?_ | refine blk_alloc ?_ _)); exact BK191.out) hb); have n2_ := Aside0.mk (below_step (by repeat (first | (with_reducible first | exact HB.out | apply below_alloc | apply pw_below_drewN | apply below_drew1 | refine below_set ?_ GE191.out) | exact HB.out)) hb); clear BK191; clear HB; have HO197 := n0_; have BK191 := n1_; have HB := n2_; clear n0_ n1_ n2_; clear hb ho24))
            go_loopg [1, 8, 39] k (fun kq v1 v8 v39 w' => ∃ (x1_1 : Int) (x8_1 : List Int) (x39_1 : Int), v1 = .int .i64 x1_1 ∧ v39 = .int .i64 x39_1 ∧ Aside0 (maze_Walk.l0 kq x1_1 x8_1 l2 (l2.length : Int) x39_1 l0_0 = some (r1, r2)) ∧ Aside0 (kq ≤ k) ∧ Aside0 (Kd.R (Kd.int .i64) 3 w' w.heap.size (fun _ => True) v8 x8_1) ∧ Aside0 (w'.heap[gb191]? = some (.cells #[(.slice (some ad193) l0_0.length c0_0)] 38 (0, 0))) ∧ Aside0 (Below w.heap.size w w'))
            case atStart => exact ⟨(a1), (y195), (0), (by first | rfl | (simp; done) | (simp [*]; done)), (by first | rfl | (simp; done) | (simp [*]; done)), H', ⟨Nat.le_refl _⟩, ⟨by (with_reducible repeat (first | apply Kd.R_alloc | apply Kd.R_drewN | apply Kd.R_drew)); exact HO197.out⟩, ⟨by (with_reducible repeat (first | refine blk_drewN ?_ _ | refine blk_drew ?_ | refine blk_alloc ?_ _)); exact BK191.out⟩, ⟨by repeat (first | (with_reducible first | exact HB.out | apply below_alloc | apply pw_below_drewN | apply below_drew1 | refine below_set ?_ GE191.out) | exact HB.out)⟩⟩
            case round =>
              clear H'
              try clear c1
              try clear p1
              try clear q1
              try clear hx1
              try clear qi1
              try clear c2
              try clear p2
              try clear c5
              try clear c6
              try clear c6b0
              try clear c10
              try clear c10b0
              try clear c15
              try clear c15b0
              try clear c15b1
              try clear c17
              try clear c19
              try clear p19
              try clear q19
              try clear hx19
              try clear qi19
              try clear c22
              try clear c24
              try clear hcz12_0
              try clear hcz14_0
              try clear hcz19_0
              try clear hcz21_0
              try clear hcz8_0
              try clear hfz12_0
              try clear hfz14_0
              try clear hfz19_0
              try clear hfz21_0
              try clear hfz8_0
              try clear hx193_0
              try clear p193
              try clear q193
              obtain ⟨x1_1, x8_1, x39_1, rfl, rfl, HA, HK1, HO_8, BK191, HB⟩ := hrel
              cases gk with
              | zero => exact absurd HA.out (by simp [maze_Walk.l0])
              | succ k1 =>
                have H := HA.out
                clear HA
                simp only [maze_Walk.l0] at H
                by_cases c25 : x39_1 < (l2.length : Int)
                · rw [if_pos c25] at H
                  have c25b0 : decide (x39_1 < (l2.length : Int)) = true := decide_eq_true c25
                  clear c25
                  by_cases c26 : 0 ≤ x39_1
                  · rw [if_pos c26] at H
                    have c26b0 : decide (0 ≤ x39_1) = true := decide_eq_true c26
                    clear c26
                    by_cases c27 : x39_1 < (l2.length : Int)
                    · rw [if_pos c27] at H
                      have c27b0 : decide (x39_1 < (l2.length : Int)) = true := decide_eq_true c27
                      clear c27
                      by_cases c28 : 0 ≤ x1_1
                      · rw [if_pos c28] at H
                        have c28b0 : decide (0 ≤ x1_1) = true := decide_eq_true c28
                        clear c28
                        by_cases c29 : x1_1 < (l0_0.length : Int)
                        · rw [if_pos c29] at H
                          have c29b0 : decide (x1_1 < (l0_0.length : Int)) = true := decide_eq_true c29
                          clear c29
                          by_cases c30 : 0 ≤ (rd l2 x39_1)
                          · rw [if_pos c30] at H
                            have c30b0 : decide (0 ≤ (rd l2 x39_1)) = true := decide_eq_true c30
                            clear c30
                            by_cases c31 : (rd l2 x39_1) < ((rd_L4 l0_0 x1_1).length : Int)
                            · rw [if_pos c31] at H
                              have c31b0 : decide ((rd l2 x39_1) < ((rd_L4 l0_0 x1_1).length : Int)) = true := decide_eq_true c31
                              clear c31
                              by_cases c32 : x8_1.length < 17592186044416
                              · rw [if_pos c32] at H
                                have LMc32 := Aside0.mk c32
                                clear c32
                                obtain ⟨y201, hy201⟩ : ∃ y_ : List Int, y_ = (x8_1 ++ [(rd_T44 (rd_L4 l0_0 x1_1) (rd l2 x39_1)).f0]) := ⟨_, rfl⟩
                                replace H : (maze_Walk.l0 k1 ((rd_T44 (rd_L4 l0_0 x1_1) (rd l2 x39_1)).f0) y201 l2 (l2.length : Int) (wrap64 (x39_1 + 1)) l0_0) = some (r1, r2) := by first | (rw [hy201]; with_reducible exact H) | (have H2_ := (Option.bind_some _ _).symm.trans H; rw [hy201]; with_reducible exact H2_) | (have H2_ := (Option.bind_some _ _).symm.trans H; with_reducible exact H2_) | with_reducible exact H | (rw [hy201]; exact H) | exact H
                                have Ny201 := Aside0.mk hy201
                                clear hy201
                                have H' := Aside0.mk H
                                clear H
                                have p198 : 0 ≤ (x39_1 : Int) := of_decide_eq_true (by first | (with_reducible assumption) | assumption)
                                have q198 : x39_1 < (l2.length : Int) := of_decide_eq_true (by first | (with_reducible assumption) | assumption)
                                obtain ⟨ad198, e198, hx198_0⟩ := Kd.at_int HR2.out x39_1 p198 q198
                                cases e198
                                replace hx198_0 := (HB.out.cell (World.block_lt_of_cell? w _ hx198_0)).trans hx198_0
                                replace p198 := eq_true p198
                                replace q198 := eq_true q198
                                have hcz33_0 : wr.cell? ⟨gb191, 0, none⟩ = some (.slice (some ad193) l0_0.length c0_0) := (blk_cell BK191.out 0).trans rfl
                                have hfz33_0 := blk_frozen BK191.out 0
                                have p199 : 0 ≤ (x1_1 : Int) := of_decide_eq_true (by first | (with_reducible assumption) | assumption)
                                have q199 : x1_1 < (l0_0.length : Int) := of_decide_eq_true (by first | (with_reducible assumption) | assumption)
                                obtain ⟨ad199, A199_0, c199_0, e199, hx199_0, hl199_0, hi199_0⟩ := at_L4 HR0_0.out x1_1 p199 q199
                                obtain rfl : ad193 = ad199 := (by injection e199)
                                replace hx199_0 := (HB.out.cell (World.block_lt_of_cell? w _ hx199_0)).trans hx199_0
                                have HR199_0 := Aside0.mk hi199_0
                                have HC199_0 := Aside0.mk hl199_0
                                clear hi199_0 hl199_0
                                replace p199 := eq_true p199
                                replace q199 := eq_true q199
                                have p200 : 0 ≤ ((rd l2 x39_1) : Int) := of_decide_eq_true (by first | (with_reducible assumption) | assumption)
                                have q200 : (rd l2 x39_1) < ((rd_L4 l0_0 x1_1).length : Int) := of_decide_eq_true (by first | (with_reducible assumption) | assumption)
                                obtain ⟨ad200, e200, hx200_0, hx200_1⟩ := at_T44 HR199_0.out (rd l2 x39_1) p200 q200
                                cases e200
                                replace hx200_0 := (HB.out.cell (World.block_lt_of_cell? w _ hx200_0)).trans hx200_0
                                replace hx200_1 := (HB.out.cell (World.block_lt_of_cell? w _ hx200_1)).trans hx200_1
                                replace p200 := eq_true p200
                                replace q200 := eq_true q200
                                go_wp2_with (first | ((with_reducible refine gate_builtin (b := .append) (xs := #[.tmp 52, .tmp 54]) rfl ?_); (try (refine gate_guard (by rfl) ?_; dsimp only)); at_builtin; refine Kd.R_append (Kd.int .i64) (w0 := w) w.heap.size rfl (.tmp 52) (.tmp 54) 30 3 (.int .i64 0) 8 rfl Try.underlying30 info3 rfl (by decide) (by omega) u8 x8_1 ((rd_T44 (rd_L4 l0_0 x1_1) (rd l2 x39_1)).f0) [.int .i64 ((rd_T44 (rd_L4 l0_0 x1_1) (rd l2 x39_1)).f0)] (fun _ => True) (fun _ => False) rfl rfl ?aP (fun _ hk => hk.elim) ?aF ?aO ?aB ?aS ?aL ?_; (case aP => exact rfl); (case aB => exact (by repeat (first | (with_reducible first | exact HB.out | apply below_alloc | apply pw_below_drewN | apply below_drew1 | refine below_set ?_ GE191.out) | exact HB.out))); (case aF => exact (fun _ _ => trivial)); (case aO => exact (by (with_reducible repeat (first | apply Kd.R_alloc | apply Kd.R_drewN | apply Kd.R_drew)); exact HO_8.out)); (case aS => exact (below_size (by repeat (first | (with_reducible first | exact HB.out | apply below_alloc | apply pw_below_drewN | apply below_drew1 | refine below_set ?_ GE191.out) | exact HB.out)))); (case aL => have := LMc32.out; omega); intro v202 w34 ho hb hg hat; rw [← Ny201.out] at ho; have n0_ := Aside0.mk (blk_grown (g := gb191) (o := .cells #[.slice (some ad193) l0_0.length c0_0] 38 (0, 0)) (by (with_reducible repeat (first | refine blk_drewN ?_ _ | refine blk_drew ?_ | refine blk_alloc ?_ _)); exact BK191.out) hg (Kd.R_ne HO_8.out BK191.out (by decide))); have n1_ := Aside0.mk (hb); have n2_ := Aside0.mk (ho); clear BK191; clear HB; clear HO_8; have BK191 := n0_; have HB := n1_; have HO203 := n2_; clear n0_ n1_ n2_; clear ho hb hg hat))
                                go_roundg k1
                                case measure => have := HK1.out; omega
                                case rel => exact ⟨((rd_T44 (rd_L4 l0_0 x1_1) (rd l2 x39_1)).f0), (y201), (wrap64 (x39_1 + 1)), (by first | rfl | (simp; done) | (simp [*]; done)), (by first | rfl | (simp; done) | (simp [*]; done)), H', ⟨by have := HK1.out; omega⟩, ⟨by (with_reducible repeat (first | apply Kd.R_alloc | apply Kd.R_drewN | apply Kd.R_drew)); exact HO203.out⟩, ⟨by (with_reducible repeat (first | refine blk_drewN ?_ _ | refine blk_drew ?_ | refine blk_alloc ?_ _)); exact BK191.out⟩, ⟨by repeat (first | (with_reducible first | exact HB.out | apply below_alloc | apply pw_below_drewN | apply below_drew1 | refine below_set ?_ GE191.out) | exact HB.out)⟩⟩
                              · rw [if_neg c32] at H
                                exact absurd H (by simp)
                            · rw [if_neg c31] at H
                              exact absurd H (by simp)
                          · rw [if_neg c30] at H
                            exact absurd H (by simp)
                        · rw [if_neg c29] at H
                          exact absurd H (by simp)
                      · rw [if_neg c28] at H
                        exact absurd H (by simp)
                    · rw [if_neg c27] at H
                      exact absurd H (by simp)
                  · rw [if_neg c26] at H
                    exact absurd H (by simp)
                · rw [if_neg c25] at H
                  have c25b0 : decide (x39_1 < (l2.length : Int)) = false := decide_eq_false c25
                  clear c25
                  simp only [Option.some.injEq, Prod.mk.injEq] at H
                  obtain ⟨rfl, rfl⟩ := H
                  go_wp2
                  go_ret2
                  exact ⟨_, by first | rfl | (simp [errW_none, errW_some] <;> rfl) | (simp [*, errW_none, errW_some] <;> rfl), by (with_reducible repeat (first | apply Kd.R_alloc | apply Kd.R_drewN | apply Kd.R_drew)); exact HO_8.out, by repeat (first | (with_reducible first | exact HB.out | apply below_alloc | apply pw_below_drewN | apply below_drew1 | refine below_set ?_ GE191.out) | exact HB.out)⟩
          · replace c17 := Bool.eq_false_iff.mpr c17
            subst c17
            have H1 : (some (([] : List Int), 2)) = some (r1, r2) := by rw [if_neg (show ¬ (false = true) by decide)] at H; exact H
            clear H
            have H := H1
            clear H1
            simp only [Option.some.injEq, Prod.mk.injEq] at H
            obtain ⟨rfl, rfl⟩ := H
            go_enter Try.func22, Try.ntmps22
            go_wp2_with (first | ((with_reducible refine gate_dst (N := 3) rfl ?_); (try (refine gate_guard (by rfl) ?_; dsimp only)); refine box_event ?hg (N := 3) ?hd (cs := #[.slice A0_0 l0_0.length c0_0]) (t := 38) ?hr ?_; (case hd => rfl); (case hg => rfl); (case hr => first | (go_simp; done) | (go_simp; rfl)); intro gb191 hg w35 hbox hb; have n0_ := Aside0.mk (below_step (by repeat (first | (with_reducible first | exact HB.out | apply below_alloc | apply pw_below_drewN | apply below_drew1) | exact HB.out)) hb); have n1_ := Aside0.mk (hbox); have n2_ := Aside0.mk ((by rw [hg]; exact (below_size (by repeat (first | (with_reducible first | exact HB.out | apply below_alloc | apply pw_below_drewN | apply below_drew1) | exact HB.out))) : w.heap.size ≤ gb191)); have n3_ := Aside0.mk ((by rw [hg]; exact (below_size (by repeat (first | (with_reducible first | exact HB.out | apply below_alloc | apply pw_below_drewN | apply below_drew1) | exact HB.out))) : w.heap.size ≤ gb191)); clear HB; have HB := n0_; have BK191 := n1_; have GW191 := n2_; have GE191 := n3_; clear n0_ n1_ n2_ n3_; clear hb hbox hg; have hcz36_0 : w35.cell? ⟨gb191, 0, none⟩ = some (.slice A0_0 l0_0.length c0_0) := (blk_cell BK191.out 0).trans rfl; have hfz36_0 := blk_frozen BK191.out 0) | ((with_reducible refine gate_callee (f := 24) rfl ?_); refine goesL_ (some 13) rfl rfl Try.func24 (by kernel_rfl) rfl #[.agg #[.slice A0_0 l0_0.length c0_0]] rfl (by (try simp only [List.map_toArray, List.map_cons, List.map_nil]); first | done | rfl | (simp only [List.length_drop, List.length_take]; rfl)) ?_; (with_reducible refine (maze_Valid.calls _ _ l0_0 true _ ?side1 ?side2 A4.out).mono ?_); (case side1 => repeat (first | exact (Kd.C_below HR0_0.out HB.out) | (with_reducible refine Kd.C_alloc ?_ _) | (with_reducible refine Kd.C_drewN ?_ _) | (with_reducible refine Kd.C_drew ?_))); (case side2 => exact HC0_0.out); rintro e w37 ⟨rfl, hb⟩; refine ⟨_, rfl, ?_⟩; have n0_ := Aside0.mk (blk_below (g := gb191) (o := .cells #[.slice A0_0 l0_0.length c0_0] 38 (0, 0)) (by (with_reducible repeat (first | refine blk_drewN ?_ _ | refine blk_drew ?_ | refine blk_alloc ?_ _)); exact BK191.out) hb); have n1_ := Aside0.mk (below_step (by repeat (first | (with_reducible first | exact HB.out | apply below_alloc | apply pw_below_drewN | apply below_drew1 | refine below_set ?_ GE191.out) | exact HB.out)) hb); clear BK191; clear HB; have BK191 := n0_; have HB := n1_; clear n0_ n1_; (try clear hb); (try clear hb2); (try clear hk); (try clear hi); have hcz38_0 : w37.cell? ⟨gb191, 0, none⟩ = some (.slice A0_0 l0_0.length c0_0) := (blk_cell BK191.out 0).trans rfl; have hfz38_0 := blk_frozen BK191.out 0; have p193 : 0 ≤ (0 : Int) := (by omega); have q193 : 0 < (l0_0.length : Int) := of_decide_eq_true (by first | (with_reducible assumption) | assumption); obtain ⟨ad193, A193_0, c193_0, e193, hx193_0, hl193_0, hi193_0⟩ := at_L4 HR0_0.out 0 p193 q193; cases e193; have qi193 : (0 < l0_0.length) = True := eq_true (by omega); (try rw [show ((0 : Int)).toNat = 0 from rfl] at hx193_0); (try rw [Addr.add_zero'] at hx193_0); replace hx193_0 := (HB.out.cell (World.block_lt_of_cell? w _ hx193_0)).trans hx193_0; have HR193_0 := Aside0.mk hi193_0; have HC193_0 := Aside0.mk hl193_0; clear hi193_0 hl193_0; replace p193 := eq_true p193; replace q193 := eq_true q193) | (go_at_call 41; (with_reducible refine (maze_fits.calls _ _ l2 ((rd_L4 l0_0 0).length : Int) false _ ?side1 ?side2 A16.out).mono ?_); (case side1 => repeat (first | exact (Kd.C_below HR2.out HB.out) | (with_reducible refine Kd.C_alloc ?_ _) | (with_reducible refine Kd.C_drewN ?_ _) | (with_reducible refine Kd.C_drew ?_))); (case side2 => exact HC2.out); rintro e w39 ⟨rfl, hb⟩; have n0_ := Aside0.mk (blk_below (g := gb191) (o := .cells #[.slice (some ad193) l0_0.length c0_0] 38 (0, 0)) (by (with_reducible repeat (first | refine blk_drewN ?_ _ | refine blk_drew ?_ | refine blk_alloc ?_ _)); exact BK191.out) hb); have n1_ := Aside0.mk (below_step (by repeat (first | (with_reducible first | exact HB.out | apply below_alloc | apply pw_below_drewN | apply below_drew1 | refine below_set ?_ GE191.out) | exact HB.out)) hb); clear BK191; clear HB; have BK191 := n0_; have HB := n1_; clear n0_ n1_; (try clear hb); (try clear hb2); (try clear hk); (try clear hi)))
            go_ret2
            exact ⟨_, by first | rfl | (simp [errW_none, errW_some] <;> rfl) | (simp [*, errW_none, errW_some] <;> rfl), by first | exact Kd.R_nil _ _ _ _ _ | exact Kd.N_nil _ _ _ _ _ | exact Kd.V_nil _ _ _ _ _ | exact Kd.Q_nil _ _ _ _ _ | exact Kd.S_nil _ _ _ _ _, by repeat (first | (with_reducible first | exact HB.out | apply below_alloc | apply pw_below_drewN | apply below_drew1 | refine below_set ?_ GE191.out) | exact HB.out)⟩
        · rw [if_neg c15] at H
          exact absurd H (by simp)
  · replace c5 := Bool.eq_false_iff.mpr c5
    subst c5
    have H1 : (some (([] : List Int), 1)) = some (r1, r2) := by rw [if_neg (show ¬ (false = true) by decide)] at H; exact H
    clear H
    have H := H1
    clear H1
    simp only [Option.some.injEq, Prod.mk.injEq] at H
    obtain ⟨rfl, rfl⟩ := H
    go_enter Try.func22, Try.ntmps22
    go_wp2_with (first | ((with_reducible refine gate_dst (N := 3) rfl ?_); (try (refine gate_guard (by rfl) ?_; dsimp only)); refine box_event ?hg (N := 3) ?hd (cs := #[.slice A0_0 l0_0.length c0_0]) (t := 38) ?hr ?_; (case hd => rfl); (case hg => rfl); (case hr => first | (go_simp; done) | (go_simp; rfl)); intro gb191 hg w40 hbox hb; have n0_ := Aside0.mk (below_step (by repeat (first | (with_reducible first | exact HB.out | apply below_alloc | apply pw_below_drewN | apply below_drew1) | exact HB.out)) hb); have n1_ := Aside0.mk (hbox); have n2_ := Aside0.mk ((by rw [hg]; exact (below_size (by repeat (first | (with_reducible first | exact HB.out | apply below_alloc | apply pw_below_drewN | apply below_drew1) | exact HB.out))) : w.heap.size ≤ gb191)); have n3_ := Aside0.mk ((by rw [hg]; exact (below_size (by repeat (first | (with_reducible first | exact HB.out | apply below_alloc | apply pw_below_drewN | apply below_drew1) | exact HB.out))) : w.heap.size ≤ gb191)); clear HB; have HB := n0_; have BK191 := n1_; have GW191 := n2_; have GE191 := n3_; clear n0_ n1_ n2_ n3_; clear hb hbox hg; have hcz41_0 : w40.cell? ⟨gb191, 0, none⟩ = some (.slice A0_0 l0_0.length c0_0) := (blk_cell BK191.out 0).trans rfl; have hfz41_0 := blk_frozen BK191.out 0) | ((with_reducible refine gate_callee (f := 24) rfl ?_); refine goesL_ (some 13) rfl rfl Try.func24 (by kernel_rfl) rfl #[.agg #[.slice A0_0 l0_0.length c0_0]] rfl (by (try simp only [List.map_toArray, List.map_cons, List.map_nil]); first | done | rfl | (simp only [List.length_drop, List.length_take]; rfl)) ?_; (with_reducible refine (maze_Valid.calls _ _ l0_0 false _ ?side1 ?side2 A4.out).mono ?_); (case side1 => repeat (first | exact (Kd.C_below HR0_0.out HB.out) | (with_reducible refine Kd.C_alloc ?_ _) | (with_reducible refine Kd.C_drewN ?_ _) | (with_reducible refine Kd.C_drew ?_))); (case side2 => exact HC0_0.out); rintro e w42 ⟨rfl, hb⟩; refine ⟨_, rfl, ?_⟩; have n0_ := Aside0.mk (blk_below (g := gb191) (o := .cells #[.slice A0_0 l0_0.length c0_0] 38 (0, 0)) (by (with_reducible repeat (first | refine blk_drewN ?_ _ | refine blk_drew ?_ | refine blk_alloc ?_ _)); exact BK191.out) hb); have n1_ := Aside0.mk (below_step (by repeat (first | (with_reducible first | exact HB.out | apply below_alloc | apply pw_below_drewN | apply below_drew1 | refine below_set ?_ GE191.out) | exact HB.out)) hb); clear BK191; clear HB; have BK191 := n0_; have HB := n1_; clear n0_ n1_; (try clear hb); (try clear hb2); (try clear hk); (try clear hi)))
    go_ret2
    exact ⟨_, by first | rfl | (simp [errW_none, errW_some] <;> rfl) | (simp [*, errW_none, errW_some] <;> rfl), by first | exact Kd.R_nil _ _ _ _ _ | exact Kd.N_nil _ _ _ _ _ | exact Kd.V_nil _ _ _ _ _ | exact Kd.Q_nil _ _ _ _ _ | exact Kd.S_nil _ _ _ _ _, by repeat (first | (with_reducible first | exact HB.out | apply below_alloc | apply pw_below_drewN | apply below_drew1 | refine below_set ?_ GE191.out) | exact HB.out)⟩

end Go.Proofs.Ytgbjbgdnldklpaa.Q
end
/-! Part MWalkZ -/
section
namespace Go.Proofs.Ytgbjbgdnldklpaa.Q
open Go.RowKit Go.Proofs.YtgbjbgdnldklpaaW.PrintWords Go.Proofs.YtgbjbgdnldklpaaW.PrintLast Go.Proofs.YtgbjbgdnldklpaaW.PrintMore
set_option linter.unusedVariables false
set_option linter.unusedSectionVars false
/-! ### the rooms where one is -/
def stepsZ (z : List (List S44)) : Nat → List Nat → List Nat
  | _, [] => []
  | s, x :: w => gz z s x :: stepsZ z (gz z s x) w
def pathZ (z : List (List S44)) (s : Nat) (w : List Nat) : List Nat := s :: stepsZ z s w
theorem stepsZ_len (z : List (List S44)) : ∀ (w : List Nat) (s : Nat), (stepsZ z s w).length = w.length
  | [], _ => rfl
  | x :: w, s => by simp [stepsZ, stepsZ_len z w]
theorem pathZ_len (z : List (List S44)) (s : Nat) (w : List Nat) : (pathZ z s w).length = w.length + 1 := by simp [pathZ, stepsZ_len]
section
variable {z : List (List S44)} {n m : Nat} (V : VZ z n m)
include V
theorem stepsZ_lt : ∀ {w : List Nat} {s : Nat}, s < n → Wd m w → ∀ t ∈ stepsZ z s w, t < n
  | [], s, hs, hw, t, ht => by cases ht
  | x :: w, s, hs, hw, t, ht => by
    have h1 := V.gLt s x hs hw.head
    rcases List.mem_cons.1 ht with rfl | ht
    · exact h1
    · exact stepsZ_lt h1 hw.tail t ht
theorem pathZ_lt {w : List Nat} {s : Nat} (hs : s < n) (hw : Wd m w) : ∀ t ∈ pathZ z s w, t < n := fun t ht => by
  rcases List.mem_cons.1 ht with rfl | ht
  · exact hs
  · exact stepsZ_lt V hs hw t ht
theorem walk_loop {w : List Nat} (hw : Wd m w) (hl : w.length ≤ 1000000) : ∀ (e i s : Nat) (out : List Int), i + e = w.length → s < n → out.length ≤ i + 1 → Ev (fun k => maze_Walk.l0 k (s : Int) out (toI w) (w.length : Int) (i : Int) z) (out ++ toI (stepsZ z s (w.drop i)), 0)
  | 0, i, s, out, he, hs, ho => by
    refine Ev.step (f := fun _ => some (out, (0 : Int))) (fun k => by rw [maze_Walk.l0, if_neg (by omega)]) (Ev.ret ?_)
    rw [List.drop_eq_nil_of_le (by omega)]
    simp [stepsZ, toI]
  | e + 1, i, s, out, he, hs, ho => by
    have hi : i < w.length := by omega
    have hx : w[i] < m := hw _ (List.getElem_mem hi)
    have hlen := V.len
    have hrow := V.row s hs
    have ih := walk_loop hw hl e (i + 1) (gz z s w[i]) (out ++ [((gz z s w[i] : Nat) : Int)]) (by omega) (V.gLt s _ hs hx) (by simp; omega)
    have e1 : out ++ toI (stepsZ z s (w.drop i)) = (out ++ [((gz z s w[i] : Nat) : Int)]) ++ toI (stepsZ z (gz z s w[i]) (w.drop (i + 1))) := by
      rw [List.drop_eq_getElem_cons hi]
      simp [stepsZ, toI]
    rw [e1]
    refine Ev.step (fun k => by rw [maze_Walk.l0, if_pos (by omega), if_pos (by omega), if_pos (by rw [toI_len]; omega), if_pos (by omega), if_pos (by omega), toI_rd hi, if_pos (by omega), if_pos (by omega), V.f0 s _ hs hx, if_pos (by omega), wrapS (by omega)]) ih
theorem walk_ev {w : List Nat} (hw : Wd m w) (hl : w.length ≤ 40000) {s : Nat} (hs : s < n) : Ev (fun k => maze_Walk.f k z (s : Int) (toI w)) (toI (pathZ z s w), 0) := by
  have hlen := V.len
  have hr0 : (rd_L4 z 0).length = m := V.row 0 V.n0
  have h0 := V.n0
  have := walk_loop V hw (by omega) w.length 0 s [(s : Int)] (by omega) hs (by simp)
  have e1 : ([(s : Int)] ++ toI (stepsZ z s (w.drop 0)), (0 : Int)) = (toI (pathZ z s w), 0) := by simp [pathZ, toI]
  rw [e1] at this
  refine this.congr fun k => ?_
  unfold maze_Walk.f maze_Valid.f maze_fits.f
  rw [mvB_of V, Option.bind_some, if_pos rfl, if_neg (by omega), if_neg (by omega), if_pos (by omega), hr0, Option.bind_some, toI_len, decide_eq_true hl, Bool.true_and, inB_toI.2 hw, if_pos rfl]
  rfl
theorem walk_arg {a : Int} {l : List Int} (h : ¬ ((0 ≤ a ∧ a < n) ∧ l.length ≤ 40000 ∧ inB (m : Int) l = true)) : Ev (fun k => maze_Walk.f k z a l) ([], 2) := by
  have hlen := V.len
  have hr0 : (rd_L4 z 0).length = m := V.row 0 V.n0
  have h0 := V.n0
  refine Ev.congr (f := fun _ => some ([], 2)) (fun k => ?_) (Ev.now _)
  unfold maze_Walk.f maze_Valid.f maze_fits.f
  rw [mvB_of V, Option.bind_some, if_pos rfl]
  by_cases h1 : a < 0
  · rw [if_pos h1]
  · by_cases h2 : a ≥ (n : Int)
    · rw [if_neg h1, if_pos (by omega)]
    · rw [if_neg h1, if_neg (by omega), if_pos (by omega), hr0, Option.bind_some, if_neg]
      rw [Bool.and_eq_true, decide_eq_true_eq]
      rintro ⟨h3, h4⟩
      exact h ⟨⟨by omega, by omega⟩, h3, h4⟩
end
end Go.Proofs.Ytgbjbgdnldklpaa.Q
end
/-! Part MConnZ -/
section
namespace Go.Proofs.Ytgbjbgdnldklpaa.Q
open Go.RowKit Go.Proofs.YtgbjbgdnldklpaaW.PrintWords Go.Proofs.YtgbjbgdnldklpaaW.PrintLast Go.Proofs.YtgbjbgdnldklpaaW.PrintMore
set_option linter.unusedVariables false
set_option linter.unusedSectionVars false
/-- The last room of a path. -/
def endZ (z : List (List S44)) : Nat → List Nat → Nat
  | s, [] => s
  | s, x :: w => endZ z (gz z s x) w
theorem endZ_app (z : List (List S44)) : ∀ (u v : List Nat) (s : Nat), endZ z s (u ++ v) = endZ z (endZ z s u) v
  | [], _, _ => rfl
  | x :: u, v, s => by simp [endZ, endZ_app z u v]
theorem pathZ_last (z : List (List S44)) : ∀ (w : List Nat) (s : Nat), (pathZ z s w)[w.length]'(by rw [pathZ_len]; omega) = endZ z s w
  | [], _ => rfl
  | x :: w, s => by
    have := pathZ_last z w (gz z s x)
    simpa [pathZ, stepsZ, endZ] using this
/-! ### connected mazes -/
structure BfZ (z : List (List S44)) (n m : Nat) (Q : List Nat) : Prop where
  nd : Q.Nodup
  lt : ∀ t ∈ Q, t < n
  z0 : 0 ∈ Q
  wd : ∀ (i : Nat) (hi : i < Q.length), ∃ w, Wd m w ∧ w.length ≤ i ∧ endZ z 0 w = Q[i]
section
variable {z : List (List S44)} {n m : Nat} (V : VZ z n m)
include V
theorem endZ_lt : ∀ {w : List Nat} {s : Nat}, s < n → Wd m w → endZ z s w < n
  | [], s, hs, hw => hs
  | x :: w, s, hs, hw => endZ_lt (w := w) (s := gz z s x) (V.gLt s x hs hw.head) hw.tail
end
end Go.Proofs.Ytgbjbgdnldklpaa.Q
end
/-! Part MBackZ -/
section
namespace Go.Proofs.Ytgbjbgdnldklpaa.Q
open Go.RowKit Go.Proofs.YtgbjbgdnldklpaaW.PrintWords Go.Proofs.YtgbjbgdnldklpaaW.PrintLast Go.Proofs.YtgbjbgdnldklpaaW.PrintMore
set_option linter.unusedVariables false
set_option linter.unusedSectionVars false
set_option linter.unusedSimpArgs false
/-- The doors that the doors of a word are joined to, from the last one back. -/
def bkZ (z : List (List S44)) : Nat → List Nat → List Nat
  | _, [] => []
  | s, x :: w => bkZ z (gz z s x) w ++ [dz z s x]
theorem bkZ_len (z : List (List S44)) : ∀ (w : List Nat) (s : Nat), (bkZ z s w).length = w.length
  | [], _ => rfl
  | x :: w, s => by simp [bkZ, bkZ_len z w]
theorem stepsZ_app (z : List (List S44)) : ∀ (u v : List Nat) (s : Nat), stepsZ z s (u ++ v) = stepsZ z s u ++ stepsZ z (endZ z s u) v
  | [], _, _ => rfl
  | x :: u, v, s => by simp [stepsZ, endZ, stepsZ_app z u v]
section
variable {z : List (List S44)} {n m : Nat} (V : VZ z n m)
include V
theorem bkZ_wd : ∀ {w : List Nat} {s : Nat}, s < n → Wd m w → Wd m (bkZ z s w)
  | [], s, hs, hw => Wd.nil m
  | x :: w, s, hs, hw => by
    refine Wd.app (bkZ_wd (V.gLt s x hs hw.head) hw.tail) fun y hy => ?_
    rw [List.mem_singleton.1 hy]
    exact V.dLt s x hs hw.head
theorem bk_ends : ∀ {w : List Nat} {s : Nat}, s < n → Wd m w → endZ z (endZ z s w) (bkZ z s w) = s ∧ pathZ z (endZ z s w) (bkZ z s w) = (pathZ z s w).reverse
  | [], s, hs, hw => ⟨rfl, rfl⟩
  | x :: w, s, hs, hw => by
    have hx := hw.head
    obtain ⟨h1, h2⟩ := bk_ends (V.gLt s x hs hx) hw.tail
    obtain ⟨b1, b2⟩ := V.back s x hs hx
    constructor
    · show endZ z (endZ z (gz z s x) w) (bkZ z (gz z s x) w ++ [dz z s x]) = s
      rw [endZ_app, h1]
      exact b1
    · show pathZ z (endZ z (gz z s x) w) (bkZ z (gz z s x) w ++ [dz z s x]) = (s :: pathZ z (gz z s x) w).reverse
      rw [List.reverse_cons, ← h2]
      unfold pathZ
      rw [stepsZ_app, h1]
      simp [stepsZ, b1]
/-- The word back, at each place. -/
theorem bkZ_at : ∀ {w : List Nat} {s : Nat}, s < n → Wd m w → ∀ (j : Nat) (hj : j < w.length), (bkZ z s w)[w.length - 1 - j]'(by rw [bkZ_len]; omega) = dz z ((pathZ z s w)[j]'(by rw [pathZ_len]; omega)) w[j]
  | [], s, hs, hw, j, hj => by simp at hj
  | x :: w, s, hs, hw, 0, hj => by
    have hl := bkZ_len z w (gz z s x)
    simp only [bkZ, List.length_cons]
    rw [List.getElem_append_right (by omega)]
    simp [pathZ]
  | x :: w, s, hs, hw, j + 1, hj => by
    have hj' : j < w.length := by simpa using hj
    have hl := bkZ_len z w (gz z s x)
    have ih := bkZ_at (V.gLt s x hs hw.head) hw.tail j hj'
    simp only [bkZ, List.length_cons]
    rw [List.getElem_append_left (by omega)]
    have e : w.length + 1 - 1 - (j + 1) = w.length - 1 - j := by omega
    simp only [e]
    rw [ih]
    simp [pathZ, stepsZ]
end
end Go.Proofs.Ytgbjbgdnldklpaa.Q
end
