/- The law ShortCerny holds: Cerny returns the documented automaton, or the documented error, for any number, and its shortest reset word has (n - 1)^2 letters, for n up to MaxSmall; no bound on the argument beyond its type's. (text 14 of 29) -/
import Derived.Test.YtogoppejcmaocaaZShortCernyf
/-! Part QRef03Word -/
section
-- Written by xprint.py, a program of this session's, over the kit's print. Lean checks it.
namespace Go.Proofs.Ytogoppejcmaocaa.Q
open Go.RowKit Go.Proofs.YtogoppejcmaocaaW.PrintWords Go.Proofs.YtogoppejcmaocaaW.PrintLast Go.Proofs.YtogoppejcmaocaaW.PrintMore
attribute [local go_sem] max2_int min2_int max_two min_two max_three min_three max_four min_four
set_option linter.unusedVariables false
set_option linter.unusedSimpArgs false

/-! ### mizmazeref03_Word: function 41 -/
mutual
def mizmazeref03_Word.l0 : Nat → List (List Int) → Int → Int → List Int → List (List Int) → Option (List Int × Bool)
  | 0, _, _, _, _, _ => none
  | k + 1, x1, x2, x3, x10, x363000 => if 0 ≤ x2 then (if x2 < (x1.length : Int) then (if 0 ≤ x3 then (if x3 < ((rd_L1 x1 x2).length : Int) then (if (rd (rd_L1 x1 x2) x3) > 0 then (mizmazeref03_Word.l1 k x1 x2 x3 x10 0 x363000) else (some (x10, true))) else (none)) else (none)) else (none)) else (none)
def mizmazeref03_Word.l1 : Nat → List (List Int) → Int → Int → List Int → Int → List (List Int) → Option (List Int × Bool)
  | 0, _, _, _, _, _, _ => none
  | k + 1, x1, x2, x3, x10, x11, x363000 => if 0 ≤ x2 then (if x2 < (x363000.length : Int) then (if 0 ≤ x11 then (if x11 < ((rd_L1 x363000 x2).length : Int) then (if 0 ≤ (rd (rd_L1 x363000 x2) x11) then (if (rd (rd_L1 x363000 x2) x11) < (x1.length : Int) then (if 0 ≤ x3 then (if x3 < (x363000.length : Int) then (if x11 < ((rd_L1 x363000 x3).length : Int) then (if 0 ≤ (rd (rd_L1 x363000 x3) x11) then (if (rd (rd_L1 x363000 x3) x11) < ((rd_L1 x1 (rd (rd_L1 x363000 x2) x11)).length : Int) then (if x2 < (x1.length : Int) then (if x3 < ((rd_L1 x1 x2).length : Int) then (if (rd (rd_L1 x1 (rd (rd_L1 x363000 x2) x11)) (rd (rd_L1 x363000 x3) x11)) = (wrap64 ((rd (rd_L1 x1 x2) x3) - 1)) then (if x10.length < 17592186044416 then (mizmazeref03_Word.l0 k x1 (rd (rd_L1 x363000 x2) x11) (rd (rd_L1 x363000 x3) x11) (x10 ++ [x11]) x363000) else (none)) else (mizmazeref03_Word.l1 k x1 x2 x3 x10 (wrap64 (x11 + 1)) x363000)) else (none)) else (none)) else (none)) else (none)) else (none)) else (none)) else (none)) else (none)) else (none)) else (none)) else (none)) else (none)) else (none)
end
def mizmazeref03_Word.f (k : Nat) (l0_0 : List (List Int)) (l1 : List (List Int)) (a2 : Int) (a3 : Int) : Option (List Int × Bool) := if 0 ≤ a2 then (if a2 < (l1.length : Int) then (if 0 ≤ a3 then (if a3 < ((rd_L1 l1 a2).length : Int) then (if (rd (rd_L1 l1 a2) a3) < 0 then (some (([] : List Int), false)) else (mizmazeref03_Word.l0 k l1 a2 a3 ([] : List Int) l0_0)) else (none)) else (none)) else (none)) else (none)
theorem mizmazeref03_Word.mono_l : ∀ k, (∀ y0 y1 y2 y3 y4, LeO (mizmazeref03_Word.l0 k y0 y1 y2 y3 y4) (mizmazeref03_Word.l0 (k + 1) y0 y1 y2 y3 y4)) ∧ (∀ y0 y1 y2 y3 y4 y5, LeO (mizmazeref03_Word.l1 k y0 y1 y2 y3 y4 y5) (mizmazeref03_Word.l1 (k + 1) y0 y1 y2 y3 y4 y5))
  | 0 => ⟨fun _ _ _ _ _ r h => by simp [mizmazeref03_Word.l0] at h, fun _ _ _ _ _ _ r h => by simp [mizmazeref03_Word.l1] at h⟩
  | k + 1 => by
    obtain ⟨ih0, ih1⟩ := mizmazeref03_Word.mono_l k
    refine ⟨?_, ?_⟩
    · intro y0 y1 y2 y3 y4
      unfold mizmazeref03_Word.l0
      repeat' first
      | (with_reducible exact ih0 _ _ _ _ _)
      | (with_reducible exact ih1 _ _ _ _ _ _)
      | (with_reducible exact LeO.refl _)
      | (with_reducible exact LeO.none _)
      | (with_reducible refine LeO.ite ?_ ?_)
      | (with_reducible refine LeO.bind ?_ (fun _ => ?_))
      | exact ih0 _ _ _ _ _
      | exact ih1 _ _ _ _ _ _
      | exact LeO.none _
      | refine LeO.ite ?_ ?_
      | refine LeO.bind ?_ (fun _ => ?_)
    · intro y0 y1 y2 y3 y4 y5
      unfold mizmazeref03_Word.l1
      repeat' first
      | (with_reducible exact ih0 _ _ _ _ _)
      | (with_reducible exact ih1 _ _ _ _ _ _)
      | (with_reducible exact LeO.refl _)
      | (with_reducible exact LeO.none _)
      | (with_reducible refine LeO.ite ?_ ?_)
      | (with_reducible refine LeO.bind ?_ (fun _ => ?_))
      | exact ih0 _ _ _ _ _
      | exact ih1 _ _ _ _ _ _
      | exact LeO.none _
      | refine LeO.ite ?_ ?_
      | refine LeO.bind ?_ (fun _ => ?_)
theorem mizmazeref03_Word.mono : ∀ a0 a1 a2 a3 k, LeO (mizmazeref03_Word.f k a0 a1 a2 a3) (mizmazeref03_Word.f (k + 1) a0 a1 a2 a3) := by
  intro a0 a1 a2 a3 k
  obtain ⟨ih0, ih1⟩ := mizmazeref03_Word.mono_l k
  unfold mizmazeref03_Word.f
  repeat' first
      | (with_reducible exact ih0 _ _ _ _ _)
      | (with_reducible exact ih1 _ _ _ _ _ _)
      | (with_reducible exact LeO.refl _)
      | (with_reducible exact LeO.none _)
      | (with_reducible refine LeO.ite ?_ ?_)
      | (with_reducible refine LeO.bind ?_ (fun _ => ?_))
      | exact ih0 _ _ _ _ _
      | exact ih1 _ _ _ _ _ _
      | exact LeO.none _
      | refine LeO.ite ?_ ?_
      | refine LeO.bind ?_ (fun _ => ?_)
set_option maxHeartbeats 8000000 in
set_option maxRecDepth 100000 in
theorem mizmazeref03_Word.calls (k : Nat) (A0_0 : Option Addr) (c0_0 : Nat) (l0_0 : List (List Int)) (A1 : Option Addr) (c1 : Nat) (l1 : List (List Int)) (a2 : Int) (a3 : Int) (r1 : List Int) (r2 : Bool) (w : World) (hr0_0 : Kd.C (Kd.slice 3 (Kd.int .i64)) w A0_0 l0_0.length l0_0) (hc0_0 : l0_0.length ≤ c0_0) (hr1 : Kd.C (Kd.slice 3 (Kd.int .i64)) w A1 l1.length l1) (hc1 : l1.length ≤ c1) (h : mizmazeref03_Word.f k l0_0 l1 a2 a3 = some (r1, r2)) :
    Calls Try.prog 41 #[.agg #[.slice A0_0 l0_0.length c0_0], .slice A1 l1.length c1, .int .i64 a2, .int .i64 a3] w fun e w' => ∃ v0_ : Value, e = .returned (.tuple #[v0_, .bool r2]) ∧ Kd.R (Kd.int .i64) 3 w' w.heap.size (fun _ => True) v0_ r1 ∧ Below w.heap.size w w' := by
  have hu24 := Try.underlying24
  have HR0_0 := Aside0.mk hr0_0
  have HC0_0 := Aside0.mk hc0_0
  clear hr0_0 hc0_0
  have HR1 := Aside0.mk hr1
  have HC1 := Aside0.mk hc1
  clear hr1 hc1
  have HB := Aside0.mk (Below.refl w.heap.size w)
  have H : (if 0 ≤ a2 then (if a2 < (l1.length : Int) then (if 0 ≤ a3 then (if a3 < ((rd_L1 l1 a2).length : Int) then (if (rd (rd_L1 l1 a2) a3) < 0 then (some (([] : List Int), false)) else (mizmazeref03_Word.l0 k l1 a2 a3 ([] : List Int) l0_0)) else (none)) else (none)) else (none)) else (none)) = some (r1, r2) := h
  clear h
  by_cases c5 : 0 ≤ a2
  · rw [if_pos c5] at H
    have c5b0 : decide (0 ≤ a2) = true := decide_eq_true c5
    clear c5
    by_cases c6 : a2 < (l1.length : Int)
    · rw [if_pos c6] at H
      have c6b0 : decide (a2 < (l1.length : Int)) = true := decide_eq_true c6
      clear c6
      by_cases c7 : 0 ≤ a3
      · rw [if_pos c7] at H
        have c7b0 : decide (0 ≤ a3) = true := decide_eq_true c7
        clear c7
        by_cases c8 : a3 < ((rd_L1 l1 a2).length : Int)
        · rw [if_pos c8] at H
          have c8b0 : decide (a3 < ((rd_L1 l1 a2).length : Int)) = true := decide_eq_true c8
          clear c8
          by_cases c9 : (rd (rd_L1 l1 a2) a3) < 0
          · rw [if_pos c9] at H
            have c9b0 : decide ((rd (rd_L1 l1 a2) a3) < 0) = true := decide_eq_true c9
            clear c9
            simp only [Option.some.injEq, Prod.mk.injEq] at H
            obtain ⟨rfl, rfl⟩ := H
            go_enter Try.func41, Try.ntmps41
            go_wp2_with (first | ((with_reducible refine gate_dst (N := 4) rfl ?_); refine box_event ?hg (N := 4) ?hd (cs := #[.slice A0_0 l0_0.length c0_0]) (t := 24) ?hr ?_; (case hd => rfl); (case hg => rfl); (case hr => first | (go_simp; done) | (go_simp; rfl)); intro gb362 hg w10 hbox hb; have n0_ := Aside0.mk (below_step (by repeat (first | (with_reducible first | exact HB.out | apply below_alloc | apply pw_below_drewN | apply below_drew1) | exact HB.out)) hb); have n1_ := Aside0.mk (hbox); have n2_ := Aside0.mk ((by rw [hg]; exact (below_size (by repeat (first | (with_reducible first | exact HB.out | apply below_alloc | apply pw_below_drewN | apply below_drew1) | exact HB.out))) : w.heap.size ≤ gb362)); have n3_ := Aside0.mk ((by rw [hg]; exact (below_size (by repeat (first | (with_reducible first | exact HB.out | apply below_alloc | apply pw_below_drewN | apply below_drew1) | exact HB.out))) : w.heap.size ≤ gb362)); clear HB; have HB := n0_; have BK362 := n1_; have GW362 := n2_; have GE362 := n3_; clear n0_ n1_ n2_ n3_; clear hb hbox hg; have p363 : 0 ≤ (a2 : Int) := of_decide_eq_true (by first | (with_reducible assumption) | assumption); have q363 : a2 < (l1.length : Int) := of_decide_eq_true (by first | (with_reducible assumption) | assumption); obtain ⟨ad363, A363_0, c363_0, e363, hx363_0, hl363_0, hi363_0⟩ := at_L1 HR1.out a2 p363 q363; cases e363; replace hx363_0 := (HB.out.cell (World.block_lt_of_cell? w _ hx363_0)).trans hx363_0; have HR363_0 := Aside0.mk hi363_0; have HC363_0 := Aside0.mk hl363_0; clear hi363_0 hl363_0; replace p363 := eq_true p363; replace q363 := eq_true q363; have p364 : 0 ≤ (a3 : Int) := of_decide_eq_true (by first | (with_reducible assumption) | assumption); have q364 : a3 < ((rd_L1 l1 a2).length : Int) := of_decide_eq_true (by first | (with_reducible assumption) | assumption); obtain ⟨ad364, e364, hx364_0⟩ := Kd.at_int HR363_0.out a3 p364 q364; cases e364; replace hx364_0 := (HB.out.cell (World.block_lt_of_cell? w _ hx364_0)).trans hx364_0; replace p364 := eq_true p364; replace q364 := eq_true q364))
            repeat (go_quiet (first | ((with_reducible refine gate_dst (N := 4) rfl ?_); refine box_event ?hg (N := 4) ?hd (cs := #[.slice A0_0 l0_0.length c0_0]) (t := 24) ?hr ?_; (case hd => rfl); (case hg => rfl); (case hr => first | (go_simp; done) | (go_simp; rfl)); intro gb362 hg w10 hbox hb; have n0_ := Aside0.mk (below_step (by repeat (first | (with_reducible first | exact HB.out | apply below_alloc | apply pw_below_drewN | apply below_drew1) | exact HB.out)) hb); have n1_ := Aside0.mk (hbox); have n2_ := Aside0.mk ((by rw [hg]; exact (below_size (by repeat (first | (with_reducible first | exact HB.out | apply below_alloc | apply pw_below_drewN | apply below_drew1) | exact HB.out))) : w.heap.size ≤ gb362)); have n3_ := Aside0.mk ((by rw [hg]; exact (below_size (by repeat (first | (with_reducible first | exact HB.out | apply below_alloc | apply pw_below_drewN | apply below_drew1) | exact HB.out))) : w.heap.size ≤ gb362)); clear HB; have HB := n0_; have BK362 := n1_; have GW362 := n2_; have GE362 := n3_; clear n0_ n1_ n2_ n3_; clear hb hbox hg; have p363 : 0 ≤ (a2 : Int) := of_decide_eq_true (by first | (with_reducible assumption) | assumption); have q363 : a2 < (l1.length : Int) := of_decide_eq_true (by first | (with_reducible assumption) | assumption); obtain ⟨ad363, A363_0, c363_0, e363, hx363_0, hl363_0, hi363_0⟩ := at_L1 HR1.out a2 p363 q363; cases e363; replace hx363_0 := (HB.out.cell (World.block_lt_of_cell? w _ hx363_0)).trans hx363_0; have HR363_0 := Aside0.mk hi363_0; have HC363_0 := Aside0.mk hl363_0; clear hi363_0 hl363_0; replace p363 := eq_true p363; replace q363 := eq_true q363; have p364 : 0 ≤ (a3 : Int) := of_decide_eq_true (by first | (with_reducible assumption) | assumption); have q364 : a3 < ((rd_L1 l1 a2).length : Int) := of_decide_eq_true (by first | (with_reducible assumption) | assumption); obtain ⟨ad364, e364, hx364_0⟩ := Kd.at_int HR363_0.out a3 p364 q364; cases e364; replace hx364_0 := (HB.out.cell (World.block_lt_of_cell? w _ hx364_0)).trans hx364_0; replace p364 := eq_true p364; replace q364 := eq_true q364)); try go_wp2_with (first | ((with_reducible refine gate_dst (N := 4) rfl ?_); refine box_event ?hg (N := 4) ?hd (cs := #[.slice A0_0 l0_0.length c0_0]) (t := 24) ?hr ?_; (case hd => rfl); (case hg => rfl); (case hr => first | (go_simp; done) | (go_simp; rfl)); intro gb362 hg w10 hbox hb; have n0_ := Aside0.mk (below_step (by repeat (first | (with_reducible first | exact HB.out | apply below_alloc | apply pw_below_drewN | apply below_drew1) | exact HB.out)) hb); have n1_ := Aside0.mk (hbox); have n2_ := Aside0.mk ((by rw [hg]; exact (below_size (by repeat (first | (with_reducible first | exact HB.out | apply below_alloc | apply pw_below_drewN | apply below_drew1) | exact HB.out))) : w.heap.size ≤ gb362)); have n3_ := Aside0.mk ((by rw [hg]; exact (below_size (by repeat (first | (with_reducible first | exact HB.out | apply below_alloc | apply pw_below_drewN | apply below_drew1) | exact HB.out))) : w.heap.size ≤ gb362)); clear HB; have HB := n0_; have BK362 := n1_; have GW362 := n2_; have GE362 := n3_; clear n0_ n1_ n2_ n3_; clear hb hbox hg; have p363 : 0 ≤ (a2 : Int) := of_decide_eq_true (by first | (with_reducible assumption) | assumption); have q363 : a2 < (l1.length : Int) := of_decide_eq_true (by first | (with_reducible assumption) | assumption); obtain ⟨ad363, A363_0, c363_0, e363, hx363_0, hl363_0, hi363_0⟩ := at_L1 HR1.out a2 p363 q363; cases e363; replace hx363_0 := (HB.out.cell (World.block_lt_of_cell? w _ hx363_0)).trans hx363_0; have HR363_0 := Aside0.mk hi363_0; have HC363_0 := Aside0.mk hl363_0; clear hi363_0 hl363_0; replace p363 := eq_true p363; replace q363 := eq_true q363; have p364 : 0 ≤ (a3 : Int) := of_decide_eq_true (by first | (with_reducible assumption) | assumption); have q364 : a3 < ((rd_L1 l1 a2).length : Int) := of_decide_eq_true (by first | (with_reducible assumption) | assumption); obtain ⟨ad364, e364, hx364_0⟩ := Kd.at_int HR363_0.out a3 p364 q364; cases e364; replace hx364_0 := (HB.out.cell (World.block_lt_of_cell? w _ hx364_0)).trans hx364_0; replace p364 := eq_true p364; replace q364 := eq_true q364)))
            go_ret2
            exact ⟨_, by first | rfl | (simp [errW_none, errW_some] <;> rfl) | (simp [*, errW_none, errW_some] <;> rfl), by first | exact Kd.R_nil _ _ _ _ _ | exact Kd.N_nil _ _ _ _ _ | exact Kd.V_nil _ _ _ _ _ | exact Kd.Q_nil _ _ _ _ _ | exact Kd.S_nil _ _ _ _ _, by repeat (first | (with_reducible first | exact HB.out | apply below_alloc | apply pw_below_drewN | apply below_drew1 | refine below_set ?_ GE362.out) | exact HB.out)⟩
          · rw [if_neg c9] at H
            have c9b0 : decide ((rd (rd_L1 l1 a2) a3) < 0) = false := decide_eq_false c9
            clear c9
            have H' := Aside0.mk H
            clear H
            go_enter Try.func41, Try.ntmps41
            go_wp2_with (first | ((with_reducible refine gate_dst (N := 4) rfl ?_); refine box_event ?hg (N := 4) ?hd (cs := #[.slice A0_0 l0_0.length c0_0]) (t := 24) ?hr ?_; (case hd => rfl); (case hg => rfl); (case hr => first | (go_simp; done) | (go_simp; rfl)); intro gb362 hg w11 hbox hb; have n0_ := Aside0.mk (below_step (by repeat (first | (with_reducible first | exact HB.out | apply below_alloc | apply pw_below_drewN | apply below_drew1) | exact HB.out)) hb); have n1_ := Aside0.mk (hbox); have n2_ := Aside0.mk ((by rw [hg]; exact (below_size (by repeat (first | (with_reducible first | exact HB.out | apply below_alloc | apply pw_below_drewN | apply below_drew1) | exact HB.out))) : w.heap.size ≤ gb362)); have n3_ := Aside0.mk ((by rw [hg]; exact (below_size (by repeat (first | (with_reducible first | exact HB.out | apply below_alloc | apply pw_below_drewN | apply below_drew1) | exact HB.out))) : w.heap.size ≤ gb362)); clear HB; have HB := n0_; have BK362 := n1_; have GW362 := n2_; have GE362 := n3_; clear n0_ n1_ n2_ n3_; clear hb hbox hg; have p363 : 0 ≤ (a2 : Int) := of_decide_eq_true (by first | (with_reducible assumption) | assumption); have q363 : a2 < (l1.length : Int) := of_decide_eq_true (by first | (with_reducible assumption) | assumption); obtain ⟨ad363, A363_0, c363_0, e363, hx363_0, hl363_0, hi363_0⟩ := at_L1 HR1.out a2 p363 q363; cases e363; replace hx363_0 := (HB.out.cell (World.block_lt_of_cell? w _ hx363_0)).trans hx363_0; have HR363_0 := Aside0.mk hi363_0; have HC363_0 := Aside0.mk hl363_0; clear hi363_0 hl363_0; replace p363 := eq_true p363; replace q363 := eq_true q363; have p364 : 0 ≤ (a3 : Int) := of_decide_eq_true (by first | (with_reducible assumption) | assumption); have q364 : a3 < ((rd_L1 l1 a2).length : Int) := of_decide_eq_true (by first | (with_reducible assumption) | assumption); obtain ⟨ad364, e364, hx364_0⟩ := Kd.at_int HR363_0.out a3 p364 q364; cases e364; replace hx364_0 := (HB.out.cell (World.block_lt_of_cell? w _ hx364_0)).trans hx364_0; replace p364 := eq_true p364; replace q364 := eq_true q364))
            repeat (go_quiet (first | ((with_reducible refine gate_dst (N := 4) rfl ?_); refine box_event ?hg (N := 4) ?hd (cs := #[.slice A0_0 l0_0.length c0_0]) (t := 24) ?hr ?_; (case hd => rfl); (case hg => rfl); (case hr => first | (go_simp; done) | (go_simp; rfl)); intro gb362 hg w11 hbox hb; have n0_ := Aside0.mk (below_step (by repeat (first | (with_reducible first | exact HB.out | apply below_alloc | apply pw_below_drewN | apply below_drew1) | exact HB.out)) hb); have n1_ := Aside0.mk (hbox); have n2_ := Aside0.mk ((by rw [hg]; exact (below_size (by repeat (first | (with_reducible first | exact HB.out | apply below_alloc | apply pw_below_drewN | apply below_drew1) | exact HB.out))) : w.heap.size ≤ gb362)); have n3_ := Aside0.mk ((by rw [hg]; exact (below_size (by repeat (first | (with_reducible first | exact HB.out | apply below_alloc | apply pw_below_drewN | apply below_drew1) | exact HB.out))) : w.heap.size ≤ gb362)); clear HB; have HB := n0_; have BK362 := n1_; have GW362 := n2_; have GE362 := n3_; clear n0_ n1_ n2_ n3_; clear hb hbox hg; have p363 : 0 ≤ (a2 : Int) := of_decide_eq_true (by first | (with_reducible assumption) | assumption); have q363 : a2 < (l1.length : Int) := of_decide_eq_true (by first | (with_reducible assumption) | assumption); obtain ⟨ad363, A363_0, c363_0, e363, hx363_0, hl363_0, hi363_0⟩ := at_L1 HR1.out a2 p363 q363; cases e363; replace hx363_0 := (HB.out.cell (World.block_lt_of_cell? w _ hx363_0)).trans hx363_0; have HR363_0 := Aside0.mk hi363_0; have HC363_0 := Aside0.mk hl363_0; clear hi363_0 hl363_0; replace p363 := eq_true p363; replace q363 := eq_true q363; have p364 : 0 ≤ (a3 : Int) := of_decide_eq_true (by first | (with_reducible assumption) | assumption); have q364 : a3 < ((rd_L1 l1 a2).length : Int) := of_decide_eq_true (by first | (with_reducible assumption) | assumption); obtain ⟨ad364, e364, hx364_0⟩ := Kd.at_int HR363_0.out a3 p364 q364; cases e364; replace hx364_0 := (HB.out.cell (World.block_lt_of_cell? w _ hx364_0)).trans hx364_0; replace p364 := eq_true p364; replace q364 := eq_true q364)); try go_wp2_with (first | ((with_reducible refine gate_dst (N := 4) rfl ?_); refine box_event ?hg (N := 4) ?hd (cs := #[.slice A0_0 l0_0.length c0_0]) (t := 24) ?hr ?_; (case hd => rfl); (case hg => rfl); (case hr => first | (go_simp; done) | (go_simp; rfl)); intro gb362 hg w11 hbox hb; have n0_ := Aside0.mk (below_step (by repeat (first | (with_reducible first | exact HB.out | apply below_alloc | apply pw_below_drewN | apply below_drew1) | exact HB.out)) hb); have n1_ := Aside0.mk (hbox); have n2_ := Aside0.mk ((by rw [hg]; exact (below_size (by repeat (first | (with_reducible first | exact HB.out | apply below_alloc | apply pw_below_drewN | apply below_drew1) | exact HB.out))) : w.heap.size ≤ gb362)); have n3_ := Aside0.mk ((by rw [hg]; exact (below_size (by repeat (first | (with_reducible first | exact HB.out | apply below_alloc | apply pw_below_drewN | apply below_drew1) | exact HB.out))) : w.heap.size ≤ gb362)); clear HB; have HB := n0_; have BK362 := n1_; have GW362 := n2_; have GE362 := n3_; clear n0_ n1_ n2_ n3_; clear hb hbox hg; have p363 : 0 ≤ (a2 : Int) := of_decide_eq_true (by first | (with_reducible assumption) | assumption); have q363 : a2 < (l1.length : Int) := of_decide_eq_true (by first | (with_reducible assumption) | assumption); obtain ⟨ad363, A363_0, c363_0, e363, hx363_0, hl363_0, hi363_0⟩ := at_L1 HR1.out a2 p363 q363; cases e363; replace hx363_0 := (HB.out.cell (World.block_lt_of_cell? w _ hx363_0)).trans hx363_0; have HR363_0 := Aside0.mk hi363_0; have HC363_0 := Aside0.mk hl363_0; clear hi363_0 hl363_0; replace p363 := eq_true p363; replace q363 := eq_true q363; have p364 : 0 ≤ (a3 : Int) := of_decide_eq_true (by first | (with_reducible assumption) | assumption); have q364 : a3 < ((rd_L1 l1 a2).length : Int) := of_decide_eq_true (by first | (with_reducible assumption) | assumption); obtain ⟨ad364, e364, hx364_0⟩ := Kd.at_int HR363_0.out a3 p364 q364; cases e364; replace hx364_0 := (HB.out.cell (World.block_lt_of_cell? w _ hx364_0)).trans hx364_0; replace p364 := eq_true p364; replace q364 := eq_true q364)))
            go_loopg [2, 3, 10] k (fun kq v2 v3 v10 w' => ∃ (x2_1 : Int) (x3_1 : Int) (x10_1 : List Int), v2 = .int .i64 x2_1 ∧ v3 = .int .i64 x3_1 ∧ Aside0 (mizmazeref03_Word.l0 kq l1 x2_1 x3_1 x10_1 l0_0 = some (r1, r2)) ∧ Aside0 (kq ≤ k) ∧ Aside0 (Kd.R (Kd.int .i64) 3 w' w.heap.size (fun _ => True) v10 x10_1) ∧ Aside0 (w'.heap[gb362]? = some (.cells #[(.slice A0_0 l0_0.length c0_0)] 24 (0, 0))) ∧ Aside0 (Below w.heap.size w w'))
            case atStart => exact ⟨(a2), (a3), (([] : List Int)), (by first | rfl | (simp; done) | (simp [*]; done)), (by first | rfl | (simp; done) | (simp [*]; done)), H', ⟨Nat.le_refl _⟩, ⟨by first | exact Kd.R_nil _ _ _ _ _ | exact Kd.N_nil _ _ _ _ _ | exact Kd.V_nil _ _ _ _ _ | exact Kd.Q_nil _ _ _ _ _ | exact Kd.S_nil _ _ _ _ _⟩, ⟨by (with_reducible repeat (first | refine blk_drewN ?_ _ | refine blk_drew ?_ | refine blk_alloc ?_ _)); exact BK362.out⟩, ⟨by repeat (first | (with_reducible first | exact HB.out | apply below_alloc | apply pw_below_drewN | apply below_drew1 | refine below_set ?_ GE362.out) | exact HB.out)⟩⟩
            case round =>
              clear H'
              try clear c1
              try clear p2
              try clear c3
              try clear p3
              try clear q3
              try clear hx3
              try clear c4
              try clear c5
              try clear c5b0
              try clear c6
              try clear c6b0
              try clear c7
              try clear c7b0
              try clear c8
              try clear c8b0
              try clear c9
              try clear c9b0
              try clear hx363_0
              try clear hx364_0
              try clear p363
              try clear p364
              try clear q363
              try clear q364
              obtain ⟨x2_1, x3_1, x10_1, rfl, rfl, HA, HK1, HO_10, BK362, HB⟩ := hrel
              cases gk with
              | zero => exact absurd HA.out (by simp [mizmazeref03_Word.l0])
              | succ k1 =>
                have H := HA.out
                clear HA
                simp only [mizmazeref03_Word.l0] at H
                by_cases c12 : 0 ≤ x2_1
                · rw [if_pos c12] at H
                  have c12b0 : decide (0 ≤ x2_1) = true := decide_eq_true c12
                  clear c12
                  by_cases c13 : x2_1 < (l1.length : Int)
                  · rw [if_pos c13] at H
                    have c13b0 : decide (x2_1 < (l1.length : Int)) = true := decide_eq_true c13
                    clear c13
                    by_cases c14 : 0 ≤ x3_1
                    · rw [if_pos c14] at H
                      have c14b0 : decide (0 ≤ x3_1) = true := decide_eq_true c14
                      clear c14
                      by_cases c15 : x3_1 < ((rd_L1 l1 x2_1).length : Int)
                      · rw [if_pos c15] at H
                        have c15b0 : decide (x3_1 < ((rd_L1 l1 x2_1).length : Int)) = true := decide_eq_true c15
                        clear c15
                        by_cases c16 : (rd (rd_L1 l1 x2_1) x3_1) > 0
                        · rw [if_pos c16] at H
                          have c16b0 : decide (0 < (rd (rd_L1 l1 x2_1) x3_1)) = true := decide_eq_true c16
                          clear c16
                          have H' := Aside0.mk H
                          clear H
                          have p365 : 0 ≤ (x2_1 : Int) := of_decide_eq_true (by first | (with_reducible assumption) | assumption)
                          have q365 : x2_1 < (l1.length : Int) := of_decide_eq_true (by first | (with_reducible assumption) | assumption)
                          obtain ⟨ad365, A365_0, c365_0, e365, hx365_0, hl365_0, hi365_0⟩ := at_L1 HR1.out x2_1 p365 q365
                          obtain rfl : ad363 = ad365 := (by injection e365)
                          replace hx365_0 := (HB.out.cell (World.block_lt_of_cell? w _ hx365_0)).trans hx365_0
                          have HR365_0 := Aside0.mk hi365_0
                          have HC365_0 := Aside0.mk hl365_0
                          clear hi365_0 hl365_0
                          replace p365 := eq_true p365
                          replace q365 := eq_true q365
                          have p366 : 0 ≤ (x3_1 : Int) := of_decide_eq_true (by first | (with_reducible assumption) | assumption)
                          have q366 : x3_1 < ((rd_L1 l1 x2_1).length : Int) := of_decide_eq_true (by first | (with_reducible assumption) | assumption)
                          obtain ⟨ad366, e366, hx366_0⟩ := Kd.at_int HR365_0.out x3_1 p366 q366
                          cases e366
                          replace hx366_0 := (HB.out.cell (World.block_lt_of_cell? w _ hx366_0)).trans hx366_0
                          replace p366 := eq_true p366
                          replace q366 := eq_true q366
                          go_wp2
                          repeat (go_quiet (fail); try go_wp2)
                          go_loopg [11] k1 (fun kq v11 w' => ∃ (x11_2 : Int), v11 = .int .i64 x11_2 ∧ Aside0 (mizmazeref03_Word.l1 kq l1 x2_1 x3_1 x10_1 x11_2 l0_0 = some (r1, r2)) ∧ Aside0 (kq ≤ k1) ∧ Aside0 (Kd.R (Kd.int .i64) 3 w' w.heap.size (fun _ => True) u10 x10_1) ∧ Aside0 (w'.heap[gb362]? = some (.cells #[(.slice A0_0 l0_0.length c0_0)] 24 (0, 0))) ∧ Aside0 (Below w.heap.size w w'))
                          case atStart => exact ⟨(0), (by first | rfl | (simp; done) | (simp [*]; done)), H', ⟨Nat.le_refl _⟩, ⟨by (with_reducible repeat (first | apply Kd.R_alloc | apply Kd.R_drewN | apply Kd.R_drew)); exact HO_10.out⟩, ⟨by (with_reducible repeat (first | refine blk_drewN ?_ _ | refine blk_drew ?_ | refine blk_alloc ?_ _)); exact BK362.out⟩, ⟨by repeat (first | (with_reducible first | exact HB.out | apply below_alloc | apply pw_below_drewN | apply below_drew1 | refine below_set ?_ GE362.out) | exact HB.out)⟩⟩
                          case round =>
                            clear H'
                            try clear c1
                            try clear p2
                            try clear c3
                            try clear p3
                            try clear q3
                            try clear hx3
                            try clear c4
                            try clear c5
                            try clear c5b0
                            try clear c6
                            try clear c6b0
                            try clear c7
                            try clear c7b0
                            try clear c8
                            try clear c8b0
                            try clear c9
                            try clear c9b0
                            try clear c12
                            try clear c12b0
                            try clear c13
                            try clear c13b0
                            try clear c14
                            try clear c14b0
                            try clear c15
                            try clear c15b0
                            try clear c16
                            try clear c16b0
                            try clear hx363_0
                            try clear hx364_0
                            try clear hx365_0
                            try clear hx366_0
                            try clear p2
                            try clear p3
                            try clear p363
                            try clear p364
                            try clear p365
                            try clear p366
                            try clear q3
                            try clear q363
                            try clear q364
                            try clear q365
                            try clear q366
                            obtain ⟨x11_2, rfl, HA, HK2, HO_10, BK362, HB⟩ := hrel
                            cases gk with
                            | zero => exact absurd HA.out (by simp [mizmazeref03_Word.l1])
                            | succ k2 =>
                              have H := HA.out
                              clear HA
                              simp only [mizmazeref03_Word.l1] at H
                              by_cases c17 : 0 ≤ x2_1
                              · rw [if_pos c17] at H
                                have c17b0 : decide (0 ≤ x2_1) = true := decide_eq_true c17
                                clear c17
                                by_cases c18 : x2_1 < (l0_0.length : Int)
                                · rw [if_pos c18] at H
                                  have c18b0 : decide (x2_1 < (l0_0.length : Int)) = true := decide_eq_true c18
                                  clear c18
                                  by_cases c19 : 0 ≤ x11_2
                                  · rw [if_pos c19] at H
                                    have c19b0 : decide (0 ≤ x11_2) = true := decide_eq_true c19
                                    clear c19
                                    by_cases c20 : x11_2 < ((rd_L1 l0_0 x2_1).length : Int)
                                    · rw [if_pos c20] at H
                                      have c20b0 : decide (x11_2 < ((rd_L1 l0_0 x2_1).length : Int)) = true := decide_eq_true c20
                                      clear c20
                                      by_cases c21 : 0 ≤ (rd (rd_L1 l0_0 x2_1) x11_2)
                                      · rw [if_pos c21] at H
                                        have c21b0 : decide (0 ≤ (rd (rd_L1 l0_0 x2_1) x11_2)) = true := decide_eq_true c21
                                        clear c21
                                        by_cases c22 : (rd (rd_L1 l0_0 x2_1) x11_2) < (l1.length : Int)
                                        · rw [if_pos c22] at H
                                          have c22b0 : decide ((rd (rd_L1 l0_0 x2_1) x11_2) < (l1.length : Int)) = true := decide_eq_true c22
                                          clear c22
                                          by_cases c23 : 0 ≤ x3_1
                                          · rw [if_pos c23] at H
                                            have c23b0 : decide (0 ≤ x3_1) = true := decide_eq_true c23
                                            clear c23
                                            by_cases c24 : x3_1 < (l0_0.length : Int)
                                            · rw [if_pos c24] at H
                                              have c24b0 : decide (x3_1 < (l0_0.length : Int)) = true := decide_eq_true c24
                                              clear c24
                                              by_cases c25 : x11_2 < ((rd_L1 l0_0 x3_1).length : Int)
                                              · rw [if_pos c25] at H
                                                have c25b0 : decide (x11_2 < ((rd_L1 l0_0 x3_1).length : Int)) = true := decide_eq_true c25
                                                clear c25
                                                by_cases c26 : 0 ≤ (rd (rd_L1 l0_0 x3_1) x11_2)
                                                · rw [if_pos c26] at H
                                                  have c26b0 : decide (0 ≤ (rd (rd_L1 l0_0 x3_1) x11_2)) = true := decide_eq_true c26
                                                  clear c26
                                                  by_cases c27 : (rd (rd_L1 l0_0 x3_1) x11_2) < ((rd_L1 l1 (rd (rd_L1 l0_0 x2_1) x11_2)).length : Int)
                                                  · rw [if_pos c27] at H
                                                    have c27b0 : decide ((rd (rd_L1 l0_0 x3_1) x11_2) < ((rd_L1 l1 (rd (rd_L1 l0_0 x2_1) x11_2)).length : Int)) = true := decide_eq_true c27
                                                    clear c27
                                                    by_cases c28 : x2_1 < (l1.length : Int)
                                                    · rw [if_pos c28] at H
                                                      have c28b0 : decide (x2_1 < (l1.length : Int)) = true := decide_eq_true c28
                                                      clear c28
                                                      by_cases c29 : x3_1 < ((rd_L1 l1 x2_1).length : Int)
                                                      · rw [if_pos c29] at H
                                                        have c29b0 : decide (x3_1 < ((rd_L1 l1 x2_1).length : Int)) = true := decide_eq_true c29
                                                        clear c29
                                                        by_cases c30 : (rd (rd_L1 l1 (rd (rd_L1 l0_0 x2_1) x11_2)) (rd (rd_L1 l0_0 x3_1) x11_2)) = (wrap64 ((rd (rd_L1 l1 x2_1) x3_1) - 1))
                                                        · rw [if_pos c30] at H
                                                          have c30b0 : ((rd (rd_L1 l1 (rd (rd_L1 l0_0 x2_1) x11_2)) (rd (rd_L1 l0_0 x3_1) x11_2)) == (wrap64 ((rd (rd_L1 l1 x2_1) x3_1) - 1))) = true := beq_iff_eq.mpr c30
                                                          have c30b1 : ((rd (rd_L1 l1 (rd (rd_L1 l0_0 x2_1) x11_2)) (rd (rd_L1 l0_0 x3_1) x11_2)) != (wrap64 ((rd (rd_L1 l1 x2_1) x3_1) - 1))) = false := bne_eq_false_iff_eq.mpr c30
                                                          clear c30
                                                          by_cases c31 : x10_1.length < 17592186044416
                                                          · rw [if_pos c31] at H
                                                            have LMc31 := Aside0.mk c31
                                                            clear c31
                                                            obtain ⟨y375, hy375⟩ : ∃ y_ : List Int, y_ = (x10_1 ++ [x11_2]) := ⟨_, rfl⟩
                                                            replace H : (mizmazeref03_Word.l0 k2 l1 (rd (rd_L1 l0_0 x2_1) x11_2) (rd (rd_L1 l0_0 x3_1) x11_2) y375 l0_0) = some (r1, r2) := by first | (rw [hy375]; with_reducible exact H) | (have H2_ := (Option.bind_some _ _).symm.trans H; rw [hy375]; with_reducible exact H2_) | (have H2_ := (Option.bind_some _ _).symm.trans H; with_reducible exact H2_) | with_reducible exact H | (rw [hy375]; exact H) | exact H
                                                            have Ny375 := Aside0.mk hy375
                                                            clear hy375
                                                            have H' := Aside0.mk H
                                                            clear H
                                                            have hcz32_0 : wr.cell? ⟨gb362, 0, none⟩ = some (.slice A0_0 l0_0.length c0_0) := (blk_cell BK362.out 0).trans rfl
                                                            have hfz32_0 := blk_frozen BK362.out 0
                                                            have p367 : 0 ≤ (x2_1 : Int) := of_decide_eq_true (by first | (with_reducible assumption) | assumption)
                                                            have q367 : x2_1 < (l0_0.length : Int) := of_decide_eq_true (by first | (with_reducible assumption) | assumption)
                                                            obtain ⟨ad367, A367_0, c367_0, e367, hx367_0, hl367_0, hi367_0⟩ := at_L1 HR0_0.out x2_1 p367 q367
                                                            cases e367
                                                            replace hx367_0 := (HB.out.cell (World.block_lt_of_cell? w _ hx367_0)).trans hx367_0
                                                            have HR367_0 := Aside0.mk hi367_0
                                                            have HC367_0 := Aside0.mk hl367_0
                                                            clear hi367_0 hl367_0
                                                            replace p367 := eq_true p367
                                                            replace q367 := eq_true q367
                                                            have p368 : 0 ≤ (x11_2 : Int) := of_decide_eq_true (by first | (with_reducible assumption) | assumption)
                                                            have q368 : x11_2 < ((rd_L1 l0_0 x2_1).length : Int) := of_decide_eq_true (by first | (with_reducible assumption) | assumption)
                                                            obtain ⟨ad368, e368, hx368_0⟩ := Kd.at_int HR367_0.out x11_2 p368 q368
                                                            cases e368
                                                            replace hx368_0 := (HB.out.cell (World.block_lt_of_cell? w _ hx368_0)).trans hx368_0
                                                            replace p368 := eq_true p368
                                                            replace q368 := eq_true q368
                                                            have p369 : 0 ≤ ((rd (rd_L1 l0_0 x2_1) x11_2) : Int) := of_decide_eq_true (by first | (with_reducible assumption) | assumption)
                                                            have q369 : (rd (rd_L1 l0_0 x2_1) x11_2) < (l1.length : Int) := of_decide_eq_true (by first | (with_reducible assumption) | assumption)
                                                            obtain ⟨ad369, A369_0, c369_0, e369, hx369_0, hl369_0, hi369_0⟩ := at_L1 HR1.out (rd (rd_L1 l0_0 x2_1) x11_2) p369 q369
                                                            obtain rfl : ad363 = ad369 := (by injection e369)
                                                            replace hx369_0 := (HB.out.cell (World.block_lt_of_cell? w _ hx369_0)).trans hx369_0
                                                            have HR369_0 := Aside0.mk hi369_0
                                                            have HC369_0 := Aside0.mk hl369_0
                                                            clear hi369_0 hl369_0
                                                            replace p369 := eq_true p369
                                                            replace q369 := eq_true q369
                                                            have p370 : 0 ≤ (x3_1 : Int) := of_decide_eq_true (by first | (with_reducible assumption) | assumption)
                                                            have q370 : x3_1 < (l0_0.length : Int) := of_decide_eq_true (by first | (with_reducible assumption) | assumption)
                                                            obtain ⟨ad370, A370_0, c370_0, e370, hx370_0, hl370_0, hi370_0⟩ := at_L1 HR0_0.out x3_1 p370 q370
                                                            obtain rfl : ad367 = ad370 := (by injection e370)
                                                            replace hx370_0 := (HB.out.cell (World.block_lt_of_cell? w _ hx370_0)).trans hx370_0
                                                            have HR370_0 := Aside0.mk hi370_0
                                                            have HC370_0 := Aside0.mk hl370_0
                                                            clear hi370_0 hl370_0
                                                            replace p370 := eq_true p370
                                                            replace q370 := eq_true q370
                                                            have p371 : 0 ≤ (x11_2 : Int) := of_decide_eq_true (by first | (with_reducible assumption) | assumption)
                                                            have q371 : x11_2 < ((rd_L1 l0_0 x3_1).length : Int) := of_decide_eq_true (by first | (with_reducible assumption) | assumption)
                                                            obtain ⟨ad371, e371, hx371_0⟩ := Kd.at_int HR370_0.out x11_2 p371 q371
                                                            cases e371
                                                            replace hx371_0 := (HB.out.cell (World.block_lt_of_cell? w _ hx371_0)).trans hx371_0
                                                            replace p371 := eq_true p371
                                                            replace q371 := eq_true q371
                                                            have p372 : 0 ≤ ((rd (rd_L1 l0_0 x3_1) x11_2) : Int) := of_decide_eq_true (by first | (with_reducible assumption) | assumption)
                                                            have q372 : (rd (rd_L1 l0_0 x3_1) x11_2) < ((rd_L1 l1 (rd (rd_L1 l0_0 x2_1) x11_2)).length : Int) := of_decide_eq_true (by first | (with_reducible assumption) | assumption)
                                                            obtain ⟨ad372, e372, hx372_0⟩ := Kd.at_int HR369_0.out (rd (rd_L1 l0_0 x3_1) x11_2) p372 q372
                                                            cases e372
                                                            replace hx372_0 := (HB.out.cell (World.block_lt_of_cell? w _ hx372_0)).trans hx372_0
                                                            replace p372 := eq_true p372
                                                            replace q372 := eq_true q372
                                                            have p373 : 0 ≤ (x2_1 : Int) := of_decide_eq_true (by first | (with_reducible assumption) | assumption)
                                                            have q373 : x2_1 < (l1.length : Int) := of_decide_eq_true (by first | (with_reducible assumption) | assumption)
                                                            obtain ⟨ad373, A373_0, c373_0, e373, hx373_0, hl373_0, hi373_0⟩ := at_L1 HR1.out x2_1 p373 q373
                                                            obtain rfl : ad363 = ad373 := (by injection e373)
                                                            replace hx373_0 := (HB.out.cell (World.block_lt_of_cell? w _ hx373_0)).trans hx373_0
                                                            have HR373_0 := Aside0.mk hi373_0
                                                            have HC373_0 := Aside0.mk hl373_0
                                                            clear hi373_0 hl373_0
                                                            replace p373 := eq_true p373
                                                            replace q373 := eq_true q373
                                                            have p374 : 0 ≤ (x3_1 : Int) := of_decide_eq_true (by first | (with_reducible assumption) | assumption)
                                                            have q374 : x3_1 < ((rd_L1 l1 x2_1).length : Int) := of_decide_eq_true (by first | (with_reducible assumption) | assumption)
                                                            obtain ⟨ad374, e374, hx374_0⟩ := Kd.at_int HR373_0.out x3_1 p374 q374
                                                            cases e374
                                                            replace hx374_0 := (HB.out.cell (World.block_lt_of_cell? w _ hx374_0)).trans hx374_0
                                                            replace p374 := eq_true p374
                                                            replace q374 := eq_true q374
                                                            go_wp2_with (first | ((with_reducible refine gate_builtin (b := .append) (xs := #[.tmp 60, .tmp 62]) rfl ?_); at_builtin; refine Kd.R_append (Kd.int .i64) (w0 := w) w.heap.size rfl (.tmp 60) (.tmp 62) 25 3 (.int .i64 0) 8 rfl Try.underlying25 info3 rfl (by decide) (by omega) u10 x10_1 x11_2 [.int .i64 x11_2] (fun _ => True) (fun _ => False) rfl rfl ?aP (fun _ hk => hk.elim) ?aF ?aO ?aB ?aS ?aL ?_; (case aP => exact rfl); (case aB => exact (by repeat (first | (with_reducible first | exact HB.out | apply below_alloc | apply pw_below_drewN | apply below_drew1 | refine below_set ?_ GE362.out) | exact HB.out))); (case aF => exact (fun _ _ => trivial)); (case aO => exact (by (with_reducible repeat (first | apply Kd.R_alloc | apply Kd.R_drewN | apply Kd.R_drew)); exact HO_10.out)); (case aS => exact (below_size (by repeat (first | (with_reducible first | exact HB.out | apply below_alloc | apply pw_below_drewN | apply below_drew1 | refine below_set ?_ GE362.out) | exact HB.out)))); (case aL => have := LMc31.out; omega); intro v376 w33 ho hb hg hat; rw [← Ny375.out] at ho; have n0_ := Aside0.mk (blk_grown (g := gb362) (o := .cells #[.slice (some ad367) l0_0.length c0_0] 24 (0, 0)) (by (with_reducible repeat (first | refine blk_drewN ?_ _ | refine blk_drew ?_ | refine blk_alloc ?_ _)); exact BK362.out) hg (Kd.R_ne HO_10.out BK362.out (by decide))); have n1_ := Aside0.mk (hb); have n2_ := Aside0.mk (ho); clear BK362; clear HB; clear HO_10; have BK362 := n0_; have HB := n1_; have HO377 := n2_; clear n0_ n1_ n2_; clear ho hb hg hat; have hcz34_0 : w33.cell? ⟨gb362, 0, none⟩ = some (.slice (some ad367) l0_0.length c0_0) := (blk_cell BK362.out 0).trans rfl; have hfz34_0 := blk_frozen BK362.out 0; have p378 : 0 ≤ (x2_1 : Int) := of_decide_eq_true (by first | (with_reducible assumption) | assumption); have q378 : x2_1 < (l0_0.length : Int) := of_decide_eq_true (by first | (with_reducible assumption) | assumption); obtain ⟨ad378, A378_0, c378_0, e378, hx378_0, hl378_0, hi378_0⟩ := at_L1 HR0_0.out x2_1 p378 q378; obtain rfl : ad367 = ad378 := (by injection e378); replace hx378_0 := (HB.out.cell (World.block_lt_of_cell? w _ hx378_0)).trans hx378_0; have HR378_0 := Aside0.mk hi378_0; have HC378_0 := Aside0.mk hl378_0; clear hi378_0 hl378_0; replace p378 := eq_true p378; replace q378 := eq_true q378; have p379 : 0 ≤ (x11_2 : Int) := of_decide_eq_true (by first | (with_reducible assumption) | assumption); have q379 : x11_2 < ((rd_L1 l0_0 x2_1).length : Int) := of_decide_eq_true (by first | (with_reducible assumption) | assumption); obtain ⟨ad379, e379, hx379_0⟩ := Kd.at_int HR378_0.out x11_2 p379 q379; cases e379; replace hx379_0 := (HB.out.cell (World.block_lt_of_cell? w _ hx379_0)).trans hx379_0; replace p379 := eq_true p379; replace q379 := eq_true q379; have p380 : 0 ≤ (x3_1 : Int) := of_decide_eq_true (by first | (with_reducible assumption) | assumption); have q380 : x3_1 < (l0_0.length : Int) := of_decide_eq_true (by first | (with_reducible assumption) | assumption); obtain ⟨ad380, A380_0, c380_0, e380, hx380_0, hl380_0, hi380_0⟩ := at_L1 HR0_0.out x3_1 p380 q380; obtain rfl : ad367 = ad380 := (by injection e380); replace hx380_0 := (HB.out.cell (World.block_lt_of_cell? w _ hx380_0)).trans hx380_0; have HR380_0 := Aside0.mk hi380_0; have HC380_0 := Aside0.mk hl380_0; clear hi380_0 hl380_0; replace p380 := eq_true p380; replace q380 := eq_true q380; have p381 : 0 ≤ (x11_2 : Int) := of_decide_eq_true (by first | (with_reducible assumption) | assumption); have q381 : x11_2 < ((rd_L1 l0_0 x3_1).length : Int) := of_decide_eq_true (by first | (with_reducible assumption) | assumption); obtain ⟨ad381, e381, hx381_0⟩ := Kd.at_int HR380_0.out x11_2 p381 q381; cases e381; replace hx381_0 := (HB.out.cell (World.block_lt_of_cell? w _ hx381_0)).trans hx381_0; replace p381 := eq_true p381; replace q381 := eq_true q381))
                                                            repeat (go_quiet (first | ((with_reducible refine gate_builtin (b := .append) (xs := #[.tmp 60, .tmp 62]) rfl ?_); at_builtin; refine Kd.R_append (Kd.int .i64) (w0 := w) w.heap.size rfl (.tmp 60) (.tmp 62) 25 3 (.int .i64 0) 8 rfl Try.underlying25 info3 rfl (by decide) (by omega) u10 x10_1 x11_2 [.int .i64 x11_2] (fun _ => True) (fun _ => False) rfl rfl ?aP (fun _ hk => hk.elim) ?aF ?aO ?aB ?aS ?aL ?_; (case aP => exact rfl); (case aB => exact (by repeat (first | (with_reducible first | exact HB.out | apply below_alloc | apply pw_below_drewN | apply below_drew1 | refine below_set ?_ GE362.out) | exact HB.out))); (case aF => exact (fun _ _ => trivial)); (case aO => exact (by (with_reducible repeat (first | apply Kd.R_alloc | apply Kd.R_drewN | apply Kd.R_drew)); exact HO_10.out)); (case aS => exact (below_size (by repeat (first | (with_reducible first | exact HB.out | apply below_alloc | apply pw_below_drewN | apply below_drew1 | refine below_set ?_ GE362.out) | exact HB.out)))); (case aL => have := LMc31.out; omega); intro v376 w33 ho hb hg hat; rw [← Ny375.out] at ho; have n0_ := Aside0.mk (blk_grown (g := gb362) (o := .cells #[.slice (some ad367) l0_0.length c0_0] 24 (0, 0)) (by (with_reducible repeat (first | refine blk_drewN ?_ _ | refine blk_drew ?_ | refine blk_alloc ?_ _)); exact BK362.out) hg (Kd.R_ne HO_10.out BK362.out (by decide))); have n1_ := Aside0.mk (hb); have n2_ := Aside0.mk (ho); clear BK362; clear HB; clear HO_10; have BK362 := n0_; have HB := n1_; have HO377 := n2_; clear n0_ n1_ n2_; clear ho hb hg hat; have hcz34_0 : w33.cell? ⟨gb362, 0, none⟩ = some (.slice (some ad367) l0_0.length c0_0) := (blk_cell BK362.out 0).trans rfl; have hfz34_0 := blk_frozen BK362.out 0; have p378 : 0 ≤ (x2_1 : Int) := of_decide_eq_true (by first | (with_reducible assumption) | assumption); have q378 : x2_1 < (l0_0.length : Int) := of_decide_eq_true (by first | (with_reducible assumption) | assumption); obtain ⟨ad378, A378_0, c378_0, e378, hx378_0, hl378_0, hi378_0⟩ := at_L1 HR0_0.out x2_1 p378 q378; obtain rfl : ad367 = ad378 := (by injection e378); replace hx378_0 := (HB.out.cell (World.block_lt_of_cell? w _ hx378_0)).trans hx378_0; have HR378_0 := Aside0.mk hi378_0; have HC378_0 := Aside0.mk hl378_0; clear hi378_0 hl378_0; replace p378 := eq_true p378; replace q378 := eq_true q378; have p379 : 0 ≤ (x11_2 : Int) := of_decide_eq_true (by first | (with_reducible assumption) | assumption); have q379 : x11_2 < ((rd_L1 l0_0 x2_1).length : Int) := of_decide_eq_true (by first | (with_reducible assumption) | assumption); obtain ⟨ad379, e379, hx379_0⟩ := Kd.at_int HR378_0.out x11_2 p379 q379; cases e379; replace hx379_0 := (HB.out.cell (World.block_lt_of_cell? w _ hx379_0)).trans hx379_0; replace p379 := eq_true p379; replace q379 := eq_true q379; have p380 : 0 ≤ (x3_1 : Int) := of_decide_eq_true (by first | (with_reducible assumption) | assumption); have q380 : x3_1 < (l0_0.length : Int) := of_decide_eq_true (by first | (with_reducible assumption) | assumption); obtain ⟨ad380, A380_0, c380_0, e380, hx380_0, hl380_0, hi380_0⟩ := at_L1 HR0_0.out x3_1 p380 q380; obtain rfl : ad367 = ad380 := (by injection e380); replace hx380_0 := (HB.out.cell (World.block_lt_of_cell? w _ hx380_0)).trans hx380_0; have HR380_0 := Aside0.mk hi380_0; have HC380_0 := Aside0.mk hl380_0; clear hi380_0 hl380_0; replace p380 := eq_true p380; replace q380 := eq_true q380; have p381 : 0 ≤ (x11_2 : Int) := of_decide_eq_true (by first | (with_reducible assumption) | assumption); have q381 : x11_2 < ((rd_L1 l0_0 x3_1).length : Int) := of_decide_eq_true (by first | (with_reducible assumption) | assumption); obtain ⟨ad381, e381, hx381_0⟩ := Kd.at_int HR380_0.out x11_2 p381 q381; cases e381; replace hx381_0 := (HB.out.cell (World.block_lt_of_cell? w _ hx381_0)).trans hx381_0; replace p381 := eq_true p381; replace q381 := eq_true q381)); try go_wp2_with (first | ((with_reducible refine gate_builtin (b := .append) (xs := #[.tmp 60, .tmp 62]) rfl ?_); at_builtin; refine Kd.R_append (Kd.int .i64) (w0 := w) w.heap.size rfl (.tmp 60) (.tmp 62) 25 3 (.int .i64 0) 8 rfl Try.underlying25 info3 rfl (by decide) (by omega) u10 x10_1 x11_2 [.int .i64 x11_2] (fun _ => True) (fun _ => False) rfl rfl ?aP (fun _ hk => hk.elim) ?aF ?aO ?aB ?aS ?aL ?_; (case aP => exact rfl); (case aB => exact (by repeat (first | (with_reducible first | exact HB.out | apply below_alloc | apply pw_below_drewN | apply below_drew1 | refine below_set ?_ GE362.out) | exact HB.out))); (case aF => exact (fun _ _ => trivial)); (case aO => exact (by (with_reducible repeat (first | apply Kd.R_alloc | apply Kd.R_drewN | apply Kd.R_drew)); exact HO_10.out)); (case aS => exact (below_size (by repeat (first | (with_reducible first | exact HB.out | apply below_alloc | apply pw_below_drewN | apply below_drew1 | refine below_set ?_ GE362.out) | exact HB.out)))); (case aL => have := LMc31.out; omega); intro v376 w33 ho hb hg hat; rw [← Ny375.out] at ho; have n0_ := Aside0.mk (blk_grown (g := gb362) (o := .cells #[.slice (some ad367) l0_0.length c0_0] 24 (0, 0)) (by (with_reducible repeat (first | refine blk_drewN ?_ _ | refine blk_drew ?_ | refine blk_alloc ?_ _)); exact BK362.out) hg (Kd.R_ne HO_10.out BK362.out (by decide))); have n1_ := Aside0.mk (hb); have n2_ := Aside0.mk (ho); clear BK362; clear HB; clear HO_10; have BK362 := n0_; have HB := n1_; have HO377 := n2_; clear n0_ n1_ n2_; clear ho hb hg hat; have hcz34_0 : w33.cell? ⟨gb362, 0, none⟩ = some (.slice (some ad367) l0_0.length c0_0) := (blk_cell BK362.out 0).trans rfl; have hfz34_0 := blk_frozen BK362.out 0; have p378 : 0 ≤ (x2_1 : Int) := of_decide_eq_true (by first | (with_reducible assumption) | assumption); have q378 : x2_1 < (l0_0.length : Int) := of_decide_eq_true (by first | (with_reducible assumption) | assumption); obtain ⟨ad378, A378_0, c378_0, e378, hx378_0, hl378_0, hi378_0⟩ := at_L1 HR0_0.out x2_1 p378 q378; obtain rfl : ad367 = ad378 := (by injection e378); replace hx378_0 := (HB.out.cell (World.block_lt_of_cell? w _ hx378_0)).trans hx378_0; have HR378_0 := Aside0.mk hi378_0; have HC378_0 := Aside0.mk hl378_0; clear hi378_0 hl378_0; replace p378 := eq_true p378; replace q378 := eq_true q378; have p379 : 0 ≤ (x11_2 : Int) := of_decide_eq_true (by first | (with_reducible assumption) | assumption); have q379 : x11_2 < ((rd_L1 l0_0 x2_1).length : Int) := of_decide_eq_true (by first | (with_reducible assumption) | assumption); obtain ⟨ad379, e379, hx379_0⟩ := Kd.at_int HR378_0.out x11_2 p379 q379; cases e379; replace hx379_0 := (HB.out.cell (World.block_lt_of_cell? w _ hx379_0)).trans hx379_0; replace p379 := eq_true p379; replace q379 := eq_true q379; have p380 : 0 ≤ (x3_1 : Int) := of_decide_eq_true (by first | (with_reducible assumption) | assumption); have q380 : x3_1 < (l0_0.length : Int) := of_decide_eq_true (by first | (with_reducible assumption) | assumption); obtain ⟨ad380, A380_0, c380_0, e380, hx380_0, hl380_0, hi380_0⟩ := at_L1 HR0_0.out x3_1 p380 q380; obtain rfl : ad367 = ad380 := (by injection e380); replace hx380_0 := (HB.out.cell (World.block_lt_of_cell? w _ hx380_0)).trans hx380_0; have HR380_0 := Aside0.mk hi380_0; have HC380_0 := Aside0.mk hl380_0; clear hi380_0 hl380_0; replace p380 := eq_true p380; replace q380 := eq_true q380; have p381 : 0 ≤ (x11_2 : Int) := of_decide_eq_true (by first | (with_reducible assumption) | assumption); have q381 : x11_2 < ((rd_L1 l0_0 x3_1).length : Int) := of_decide_eq_true (by first | (with_reducible assumption) | assumption); obtain ⟨ad381, e381, hx381_0⟩ := Kd.at_int HR380_0.out x11_2 p381 q381; cases e381; replace hx381_0 := (HB.out.cell (World.block_lt_of_cell? w _ hx381_0)).trans hx381_0; replace p381 := eq_true p381; replace q381 := eq_true q381)))
                                                            go_roundg k2
                                                            case measure => have := HK1.out; have := HK2.out; omega
                                                            case rel => exact ⟨(rd (rd_L1 l0_0 x2_1) x11_2), (rd (rd_L1 l0_0 x3_1) x11_2), (y375), (by first | rfl | (simp; done) | (simp [*]; done)), (by first | rfl | (simp; done) | (simp [*]; done)), H', ⟨by have := HK1.out; have := HK2.out; omega⟩, ⟨by (with_reducible repeat (first | apply Kd.R_alloc | apply Kd.R_drewN | apply Kd.R_drew)); exact HO377.out⟩, ⟨by (with_reducible repeat (first | refine blk_drewN ?_ _ | refine blk_drew ?_ | refine blk_alloc ?_ _)); exact BK362.out⟩, ⟨by repeat (first | (with_reducible first | exact HB.out | apply below_alloc | apply pw_below_drewN | apply below_drew1 | refine below_set ?_ GE362.out) | exact HB.out)⟩⟩
                                                          · rw [if_neg c31] at H
                                                            exact absurd H (by simp)
                                                        · rw [if_neg c30] at H
                                                          have c30b0 : ((rd (rd_L1 l1 (rd (rd_L1 l0_0 x2_1) x11_2)) (rd (rd_L1 l0_0 x3_1) x11_2)) == (wrap64 ((rd (rd_L1 l1 x2_1) x3_1) - 1))) = false := beq_eq_false_iff_ne.mpr c30
                                                          have c30b1 : ((rd (rd_L1 l1 (rd (rd_L1 l0_0 x2_1) x11_2)) (rd (rd_L1 l0_0 x3_1) x11_2)) != (wrap64 ((rd (rd_L1 l1 x2_1) x3_1) - 1))) = true := bne_iff_ne.mpr c30
                                                          have H' := Aside0.mk H
                                                          clear H
                                                          have hcz35_0 : wr.cell? ⟨gb362, 0, none⟩ = some (.slice A0_0 l0_0.length c0_0) := (blk_cell BK362.out 0).trans rfl
                                                          have hfz35_0 := blk_frozen BK362.out 0
                                                          have p367 : 0 ≤ (x2_1 : Int) := of_decide_eq_true (by first | (with_reducible assumption) | assumption)
                                                          have q367 : x2_1 < (l0_0.length : Int) := of_decide_eq_true (by first | (with_reducible assumption) | assumption)
                                                          obtain ⟨ad367, A367_0, c367_0, e367, hx367_0, hl367_0, hi367_0⟩ := at_L1 HR0_0.out x2_1 p367 q367
                                                          cases e367
                                                          replace hx367_0 := (HB.out.cell (World.block_lt_of_cell? w _ hx367_0)).trans hx367_0
                                                          have HR367_0 := Aside0.mk hi367_0
                                                          have HC367_0 := Aside0.mk hl367_0
                                                          clear hi367_0 hl367_0
                                                          replace p367 := eq_true p367
                                                          replace q367 := eq_true q367
                                                          have p368 : 0 ≤ (x11_2 : Int) := of_decide_eq_true (by first | (with_reducible assumption) | assumption)
                                                          have q368 : x11_2 < ((rd_L1 l0_0 x2_1).length : Int) := of_decide_eq_true (by first | (with_reducible assumption) | assumption)
                                                          obtain ⟨ad368, e368, hx368_0⟩ := Kd.at_int HR367_0.out x11_2 p368 q368
                                                          cases e368
                                                          replace hx368_0 := (HB.out.cell (World.block_lt_of_cell? w _ hx368_0)).trans hx368_0
                                                          replace p368 := eq_true p368
                                                          replace q368 := eq_true q368
                                                          have p369 : 0 ≤ ((rd (rd_L1 l0_0 x2_1) x11_2) : Int) := of_decide_eq_true (by first | (with_reducible assumption) | assumption)
                                                          have q369 : (rd (rd_L1 l0_0 x2_1) x11_2) < (l1.length : Int) := of_decide_eq_true (by first | (with_reducible assumption) | assumption)
                                                          obtain ⟨ad369, A369_0, c369_0, e369, hx369_0, hl369_0, hi369_0⟩ := at_L1 HR1.out (rd (rd_L1 l0_0 x2_1) x11_2) p369 q369
                                                          obtain rfl : ad363 = ad369 := (by injection e369)
                                                          replace hx369_0 := (HB.out.cell (World.block_lt_of_cell? w _ hx369_0)).trans hx369_0
                                                          have HR369_0 := Aside0.mk hi369_0
                                                          have HC369_0 := Aside0.mk hl369_0
                                                          clear hi369_0 hl369_0
                                                          replace p369 := eq_true p369
                                                          replace q369 := eq_true q369
                                                          have p370 : 0 ≤ (x3_1 : Int) := of_decide_eq_true (by first | (with_reducible assumption) | assumption)
                                                          have q370 : x3_1 < (l0_0.length : Int) := of_decide_eq_true (by first | (with_reducible assumption) | assumption)
                                                          obtain ⟨ad370, A370_0, c370_0, e370, hx370_0, hl370_0, hi370_0⟩ := at_L1 HR0_0.out x3_1 p370 q370
                                                          obtain rfl : ad367 = ad370 := (by injection e370)
                                                          replace hx370_0 := (HB.out.cell (World.block_lt_of_cell? w _ hx370_0)).trans hx370_0
                                                          have HR370_0 := Aside0.mk hi370_0
                                                          have HC370_0 := Aside0.mk hl370_0
                                                          clear hi370_0 hl370_0
                                                          replace p370 := eq_true p370
                                                          replace q370 := eq_true q370
                                                          have p371 : 0 ≤ (x11_2 : Int) := of_decide_eq_true (by first | (with_reducible assumption) | assumption)
                                                          have q371 : x11_2 < ((rd_L1 l0_0 x3_1).length : Int) := of_decide_eq_true (by first | (with_reducible assumption) | assumption)
                                                          obtain ⟨ad371, e371, hx371_0⟩ := Kd.at_int HR370_0.out x11_2 p371 q371
                                                          cases e371
                                                          replace hx371_0 := (HB.out.cell (World.block_lt_of_cell? w _ hx371_0)).trans hx371_0
                                                          replace p371 := eq_true p371
                                                          replace q371 := eq_true q371
                                                          have p372 : 0 ≤ ((rd (rd_L1 l0_0 x3_1) x11_2) : Int) := of_decide_eq_true (by first | (with_reducible assumption) | assumption)
                                                          have q372 : (rd (rd_L1 l0_0 x3_1) x11_2) < ((rd_L1 l1 (rd (rd_L1 l0_0 x2_1) x11_2)).length : Int) := of_decide_eq_true (by first | (with_reducible assumption) | assumption)
                                                          obtain ⟨ad372, e372, hx372_0⟩ := Kd.at_int HR369_0.out (rd (rd_L1 l0_0 x3_1) x11_2) p372 q372
                                                          cases e372
                                                          replace hx372_0 := (HB.out.cell (World.block_lt_of_cell? w _ hx372_0)).trans hx372_0
                                                          replace p372 := eq_true p372
                                                          replace q372 := eq_true q372
                                                          have p373 : 0 ≤ (x2_1 : Int) := of_decide_eq_true (by first | (with_reducible assumption) | assumption)
                                                          have q373 : x2_1 < (l1.length : Int) := of_decide_eq_true (by first | (with_reducible assumption) | assumption)
                                                          obtain ⟨ad373, A373_0, c373_0, e373, hx373_0, hl373_0, hi373_0⟩ := at_L1 HR1.out x2_1 p373 q373
                                                          obtain rfl : ad363 = ad373 := (by injection e373)
                                                          replace hx373_0 := (HB.out.cell (World.block_lt_of_cell? w _ hx373_0)).trans hx373_0
                                                          have HR373_0 := Aside0.mk hi373_0
                                                          have HC373_0 := Aside0.mk hl373_0
                                                          clear hi373_0 hl373_0
                                                          replace p373 := eq_true p373
                                                          replace q373 := eq_true q373
                                                          have p374 : 0 ≤ (x3_1 : Int) := of_decide_eq_true (by first | (with_reducible assumption) | assumption)
                                                          have q374 : x3_1 < ((rd_L1 l1 x2_1).length : Int) := of_decide_eq_true (by first | (with_reducible assumption) | assumption)
                                                          obtain ⟨ad374, e374, hx374_0⟩ := Kd.at_int HR373_0.out x3_1 p374 q374
                                                          cases e374
                                                          replace hx374_0 := (HB.out.cell (World.block_lt_of_cell? w _ hx374_0)).trans hx374_0
                                                          replace p374 := eq_true p374
                                                          replace q374 := eq_true q374
                                                          go_wp2
                                                          repeat (go_quiet (fail); try go_wp2)
                                                          go_roundg k2
                                                          case measure => have := HK1.out; have := HK2.out; omega
                                                          case rel => exact ⟨(wrap64 (x11_2 + 1)), (by first | rfl | (simp; done) | (simp [*]; done)), H', ⟨by have := HK1.out; have := HK2.out; omega⟩, ⟨by (with_reducible repeat (first | apply Kd.R_alloc | apply Kd.R_drewN | apply Kd.R_drew)); exact HO_10.out⟩, ⟨by (with_reducible repeat (first | refine blk_drewN ?_ _ | refine blk_drew ?_ | refine blk_alloc ?_ _)); exact BK362.out⟩, ⟨by repeat (first | (with_reducible first | exact HB.out | apply below_alloc | apply pw_below_drewN | apply below_drew1 | refine below_set ?_ GE362.out) | exact HB.out)⟩⟩
                                                      · rw [if_neg c29] at H
                                                        exact absurd H (by simp)
                                                    · rw [if_neg c28] at H
                                                      exact absurd H (by simp)
                                                  · rw [if_neg c27] at H
                                                    exact absurd H (by simp)
                                                · rw [if_neg c26] at H
                                                  exact absurd H (by simp)
                                              · rw [if_neg c25] at H
                                                exact absurd H (by simp)
                                            · rw [if_neg c24] at H
                                              exact absurd H (by simp)
                                          · rw [if_neg c23] at H
                                            exact absurd H (by simp)
                                        · rw [if_neg c22] at H
                                          exact absurd H (by simp)
                                      · rw [if_neg c21] at H
                                        exact absurd H (by simp)
                                    · rw [if_neg c20] at H
                                      exact absurd H (by simp)
                                  · rw [if_neg c19] at H
                                    exact absurd H (by simp)
                                · rw [if_neg c18] at H
                                  exact absurd H (by simp)
                              · rw [if_neg c17] at H
                                exact absurd H (by simp)
                        · rw [if_neg c16] at H
                          have c16b0 : decide (0 < (rd (rd_L1 l1 x2_1) x3_1)) = false := decide_eq_false c16
                          clear c16
                          simp only [Option.some.injEq, Prod.mk.injEq] at H
                          obtain ⟨rfl, rfl⟩ := H
                          have p365 : 0 ≤ (x2_1 : Int) := of_decide_eq_true (by first | (with_reducible assumption) | assumption)
                          have q365 : x2_1 < (l1.length : Int) := of_decide_eq_true (by first | (with_reducible assumption) | assumption)
                          obtain ⟨ad365, A365_0, c365_0, e365, hx365_0, hl365_0, hi365_0⟩ := at_L1 HR1.out x2_1 p365 q365
                          obtain rfl : ad363 = ad365 := (by injection e365)
                          replace hx365_0 := (HB.out.cell (World.block_lt_of_cell? w _ hx365_0)).trans hx365_0
                          have HR365_0 := Aside0.mk hi365_0
                          have HC365_0 := Aside0.mk hl365_0
                          clear hi365_0 hl365_0
                          replace p365 := eq_true p365
                          replace q365 := eq_true q365
                          have p366 : 0 ≤ (x3_1 : Int) := of_decide_eq_true (by first | (with_reducible assumption) | assumption)
                          have q366 : x3_1 < ((rd_L1 l1 x2_1).length : Int) := of_decide_eq_true (by first | (with_reducible assumption) | assumption)
                          obtain ⟨ad366, e366, hx366_0⟩ := Kd.at_int HR365_0.out x3_1 p366 q366
                          cases e366
                          replace hx366_0 := (HB.out.cell (World.block_lt_of_cell? w _ hx366_0)).trans hx366_0
                          replace p366 := eq_true p366
                          replace q366 := eq_true q366
                          go_wp2
                          repeat (go_quiet (fail); try go_wp2)
                          go_ret2
                          exact ⟨_, by first | rfl | (simp [errW_none, errW_some] <;> rfl) | (simp [*, errW_none, errW_some] <;> rfl), by (with_reducible repeat (first | apply Kd.R_alloc | apply Kd.R_drewN | apply Kd.R_drew)); exact HO_10.out, by repeat (first | (with_reducible first | exact HB.out | apply below_alloc | apply pw_below_drewN | apply below_drew1 | refine below_set ?_ GE362.out) | exact HB.out)⟩
                      · rw [if_neg c15] at H
                        exact absurd H (by simp)
                    · rw [if_neg c14] at H
                      exact absurd H (by simp)
                  · rw [if_neg c13] at H
                    exact absurd H (by simp)
                · rw [if_neg c12] at H
                  exact absurd H (by simp)
        · rw [if_neg c8] at H
          exact absurd H (by simp)
      · rw [if_neg c7] at H
        exact absurd H (by simp)
    · rw [if_neg c6] at H
      exact absurd H (by simp)
  · rw [if_neg c5] at H
    exact absurd H (by simp)

end Go.Proofs.Ytogoppejcmaocaa.Q
end
