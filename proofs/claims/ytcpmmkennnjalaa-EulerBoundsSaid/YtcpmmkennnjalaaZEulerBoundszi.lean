/- The length of the shortest reset word of an automaton of at most MaxSmall states is at most Bound; the word that Reset returns has at most (n^3 - n) / 6 letters, and Bound does not say more. (text 35 of 37) -/
import Derived.Test.YtcpmmkennnjalaaZEulerBoundsg
import Derived.Test.YtcpmmkennnjalaaZEulerBoundsze
import Derived.Test.YtcpmmkennnjalaaZEulerBoundszd
import Derived.Test.YtcpmmkennnjalaaZEulerBoundszf
section
-- Written by xprint.py, a program of this session's, over the kit's print. Lean checks it.
namespace Go.Proofs.Ytcpmmkennnjalaa.Q
open Go.RowKit Go.Proofs.YtcpmmkennnjalaaW.PrintWords Go.Proofs.YtcpmmkennnjalaaW.PrintLast Go.Proofs.YtcpmmkennnjalaaW.PrintMore
attribute [local go_sem] max2_int min2_int max_two min_two max_three min_three max_four min_four
set_option linter.unusedVariables false
set_option linter.unusedSimpArgs false

/-! ### mizmazelaw06_EulerBounds: function 7 -/
def mizmazelaw06_EulerBounds.j0 : Nat → Int → Int → Int → Bool → List (List Int) → Option (Bool)
  | 0, _, _, _, _, _ => none
  | k + 1, x3, x4, x5, x50, x567000 => if x50 = true then (none) else (if x3 > 12 then ((mizmazelaw06_awake.f k).bind fun t577 => (some t577)) else ((short_Shortest.f k x567000).bind fun bt578 => (if bt578.2 = x5 then (if x5 = 0 then (if (bt578.1.length : Int) ≤ x4 then ((mizmazelaw06_awake.f k).bind fun t582 => (some t582)) else (none)) else ((mizmazelaw06_awake.f k).bind fun t583 => (some t583))) else (none))))
def mizmazelaw06_EulerBounds.f (k : Nat) (l0_0 : List (List Int)) : Option (Bool) := (mizmazeref01_Valid.f k l0_0).bind fun t567 => (if t567 = true then ((euler_Bound.f k l0_0).bind fun bt569 => ((reset_Reset.f k l0_0).bind fun bt571 => (if bt569.2 = bt571.2 then (if bt569.2 = 0 then ((mizmazeref03_Most.f (l0_0.length : Int)).bind fun t575 => (if (bt571.1.length : Int) > t575 then (mizmazelaw06_EulerBounds.j0 k (l0_0.length : Int) bt569.1 bt569.2 true l0_0) else (if (l0_0.length : Int) > 1 then ((mizmazeref03_Most.f (l0_0.length : Int)).bind fun t576 => (mizmazelaw06_EulerBounds.j0 k (l0_0.length : Int) bt569.1 bt569.2 (decide (bt569.1 > t576)) l0_0)) else (mizmazelaw06_EulerBounds.j0 k (l0_0.length : Int) bt569.1 bt569.2 false l0_0)))) else (mizmazelaw06_EulerBounds.j0 k (l0_0.length : Int) bt569.1 bt569.2 false l0_0)) else (mizmazelaw06_EulerBounds.j0 k (l0_0.length : Int) bt569.1 bt569.2 true l0_0)))) else ((mizmazelaw06_awake.f k).bind fun t568 => (some t568)))
set_option maxHeartbeats 8000000 in
set_option maxRecDepth 100000 in
theorem mizmazelaw06_EulerBounds.calls (k : Nat) (A0_0 : Option Addr) (c0_0 : Nat) (l0_0 : List (List Int)) (r : Bool) (w : World) (hr0_0 : Kd.C (Kd.slice 3 (Kd.int .i64)) w A0_0 l0_0.length l0_0) (hc0_0 : l0_0.length ≤ c0_0) (h : mizmazelaw06_EulerBounds.f k l0_0 = some r) :
    Calls Try.prog 7 #[.agg #[.slice A0_0 l0_0.length c0_0]] w fun e w' => e = .returned (.bool r) ∧ Below w.heap.size w w' := by
  have hu24 := Try.underlying24
  have HR0_0 := Aside0.mk hr0_0
  have HC0_0 := Aside0.mk hc0_0
  clear hr0_0 hc0_0
  have HB := Aside0.mk (Below.refl w.heap.size w)
  have H : ((mizmazeref01_Valid.f k l0_0).bind fun t567 => (if t567 = true then ((euler_Bound.f k l0_0).bind fun bt569 => ((reset_Reset.f k l0_0).bind fun bt571 => (if bt569.2 = bt571.2 then (if bt569.2 = 0 then ((mizmazeref03_Most.f (l0_0.length : Int)).bind fun t575 => (if (bt571.1.length : Int) > t575 then (mizmazelaw06_EulerBounds.j0 k (l0_0.length : Int) bt569.1 bt569.2 true l0_0) else (if (l0_0.length : Int) > 1 then ((mizmazeref03_Most.f (l0_0.length : Int)).bind fun t576 => (mizmazelaw06_EulerBounds.j0 k (l0_0.length : Int) bt569.1 bt569.2 (decide (bt569.1 > t576)) l0_0)) else (mizmazelaw06_EulerBounds.j0 k (l0_0.length : Int) bt569.1 bt569.2 false l0_0)))) else (mizmazelaw06_EulerBounds.j0 k (l0_0.length : Int) bt569.1 bt569.2 false l0_0)) else (mizmazelaw06_EulerBounds.j0 k (l0_0.length : Int) bt569.1 bt569.2 true l0_0)))) else ((mizmazelaw06_awake.f k).bind fun t568 => (some t568)))) = some r := h
  clear h
  replace H := Option.bind_eq_some_iff.mp H
  obtain ⟨t567, A20, H⟩ := H
  replace H : (if t567 = true then ((euler_Bound.f k l0_0).bind fun bt569 => ((reset_Reset.f k l0_0).bind fun bt571 => (if bt569.2 = bt571.2 then (if bt569.2 = 0 then ((mizmazeref03_Most.f (l0_0.length : Int)).bind fun t575 => (if (bt571.1.length : Int) > t575 then (mizmazelaw06_EulerBounds.j0 k (l0_0.length : Int) bt569.1 bt569.2 true l0_0) else (if (l0_0.length : Int) > 1 then ((mizmazeref03_Most.f (l0_0.length : Int)).bind fun t576 => (mizmazelaw06_EulerBounds.j0 k (l0_0.length : Int) bt569.1 bt569.2 (decide (bt569.1 > t576)) l0_0)) else (mizmazelaw06_EulerBounds.j0 k (l0_0.length : Int) bt569.1 bt569.2 false l0_0)))) else (mizmazelaw06_EulerBounds.j0 k (l0_0.length : Int) bt569.1 bt569.2 false l0_0)) else (mizmazelaw06_EulerBounds.j0 k (l0_0.length : Int) bt569.1 bt569.2 true l0_0)))) else ((mizmazelaw06_awake.f k).bind fun t568 => (some t568))) = some r := H
  have A2 := Aside0.mk A20
  clear A20
  by_cases c3 : t567 = true
  · subst c3
    have H1 : ((euler_Bound.f k l0_0).bind fun bt569 => ((reset_Reset.f k l0_0).bind fun bt571 => (if bt569.2 = bt571.2 then (if bt569.2 = 0 then ((mizmazeref03_Most.f (l0_0.length : Int)).bind fun t575 => (if (bt571.1.length : Int) > t575 then (mizmazelaw06_EulerBounds.j0 k (l0_0.length : Int) bt569.1 bt569.2 true l0_0) else (if (l0_0.length : Int) > 1 then ((mizmazeref03_Most.f (l0_0.length : Int)).bind fun t576 => (mizmazelaw06_EulerBounds.j0 k (l0_0.length : Int) bt569.1 bt569.2 (decide (bt569.1 > t576)) l0_0)) else (mizmazelaw06_EulerBounds.j0 k (l0_0.length : Int) bt569.1 bt569.2 false l0_0)))) else (mizmazelaw06_EulerBounds.j0 k (l0_0.length : Int) bt569.1 bt569.2 false l0_0)) else (mizmazelaw06_EulerBounds.j0 k (l0_0.length : Int) bt569.1 bt569.2 true l0_0)))) = some r := by rw [if_pos rfl] at H; exact H
    clear H
    have H := H1
    clear H1
    replace H := Option.bind_eq_some_iff.mp H
    obtain ⟨⟨t569, t570⟩, A40, H⟩ := H
    replace H : ((reset_Reset.f k l0_0).bind fun bt571 => (if t570 = bt571.2 then (if t570 = 0 then ((mizmazeref03_Most.f (l0_0.length : Int)).bind fun t575 => (if (bt571.1.length : Int) > t575 then (mizmazelaw06_EulerBounds.j0 k (l0_0.length : Int) t569 t570 true l0_0) else (if (l0_0.length : Int) > 1 then ((mizmazeref03_Most.f (l0_0.length : Int)).bind fun t576 => (mizmazelaw06_EulerBounds.j0 k (l0_0.length : Int) t569 t570 (decide (t569 > t576)) l0_0)) else (mizmazelaw06_EulerBounds.j0 k (l0_0.length : Int) t569 t570 false l0_0)))) else (mizmazelaw06_EulerBounds.j0 k (l0_0.length : Int) t569 t570 false l0_0)) else (mizmazelaw06_EulerBounds.j0 k (l0_0.length : Int) t569 t570 true l0_0))) = some r := H
    have A4 := Aside0.mk A40
    clear A40
    replace H := Option.bind_eq_some_iff.mp H
    obtain ⟨⟨t571, t574⟩, A50, H⟩ := H
    replace H : (if t570 = t574 then (if t570 = 0 then ((mizmazeref03_Most.f (l0_0.length : Int)).bind fun t575 => (if (t571.length : Int) > t575 then (mizmazelaw06_EulerBounds.j0 k (l0_0.length : Int) t569 t570 true l0_0) else (if (l0_0.length : Int) > 1 then ((mizmazeref03_Most.f (l0_0.length : Int)).bind fun t576 => (mizmazelaw06_EulerBounds.j0 k (l0_0.length : Int) t569 t570 (decide (t569 > t576)) l0_0)) else (mizmazelaw06_EulerBounds.j0 k (l0_0.length : Int) t569 t570 false l0_0)))) else (mizmazelaw06_EulerBounds.j0 k (l0_0.length : Int) t569 t570 false l0_0)) else (mizmazelaw06_EulerBounds.j0 k (l0_0.length : Int) t569 t570 true l0_0)) = some r := H
    have A5 := Aside0.mk A50
    clear A50
    have HC6 := Aside0.mk H
    clear H
    go_enter Try.func7, Try.ntmps7
    go_upto_region 6 with (first | ((with_reducible refine gate_dst (N := 1) rfl ?_); (try (refine gate_guard (by rfl) ?_; dsimp only)); refine box_event ?hg (N := 1) ?hd (cs := #[.slice A0_0 l0_0.length c0_0]) (t := 24) ?hr ?_; (case hd => rfl); (case hg => rfl); (case hr => first | (go_simp; done) | (go_simp; rfl)); intro gb566 hg w7 hbox hb; have n0_ := Aside0.mk (below_step (by repeat (first | (with_reducible first | exact HB.out | apply below_alloc | apply pw_below_drewN | apply below_drew1) | exact HB.out)) hb); have n1_ := Aside0.mk (hbox); have n2_ := Aside0.mk ((by rw [hg]; exact (below_size (by repeat (first | (with_reducible first | exact HB.out | apply below_alloc | apply pw_below_drewN | apply below_drew1) | exact HB.out))) : w.heap.size ≤ gb566)); have n3_ := Aside0.mk ((by rw [hg]; exact (below_size (by repeat (first | (with_reducible first | exact HB.out | apply below_alloc | apply pw_below_drewN | apply below_drew1) | exact HB.out))) : w.heap.size ≤ gb566)); clear HB; have HB := n0_; have BK566 := n1_; have GW566 := n2_; have GE566 := n3_; clear n0_ n1_ n2_ n3_; clear hb hbox hg; have hcz8_0 : w7.cell? ⟨gb566, 0, none⟩ = some (.slice A0_0 l0_0.length c0_0) := (blk_cell BK566.out 0).trans rfl; have hfz8_0 := blk_frozen BK566.out 0) | ((with_reducible refine gate_callee (f := 12) rfl ?_); refine goesL_ (some 11) rfl rfl Try.func12 (by kernel_rfl) rfl #[.agg #[.slice A0_0 l0_0.length c0_0]] rfl (by (try simp only [List.map_toArray, List.map_cons, List.map_nil]); first | done | rfl | (simp only [List.length_drop, List.length_take]; rfl)) ?_; (with_reducible refine (mizmazeref01_Valid.calls k _ _ l0_0 true _ ?side1 ?side2 A2.out).mono ?_); (case side1 => repeat (first | exact (Kd.C_below HR0_0.out HB.out) | (with_reducible refine Kd.C_alloc ?_ _) | (with_reducible refine Kd.C_drewN ?_ _) | (with_reducible refine Kd.C_drew ?_))); (case side2 => exact HC0_0.out); rintro e w9 ⟨rfl, hb⟩; refine ⟨_, rfl, ?_⟩; have n0_ := Aside0.mk (blk_below (g := gb566) (o := .cells #[.slice A0_0 l0_0.length c0_0] 24 (0, 0)) (by (with_reducible repeat (first | refine blk_drewN ?_ _ | refine blk_drew ?_ | refine blk_alloc ?_ _)); exact BK566.out) hb); have n1_ := Aside0.mk (below_step (by repeat (first | (with_reducible first | exact HB.out | apply below_alloc | apply pw_below_drewN | apply below_drew1 | refine below_set ?_ GE566.out) | exact HB.out)) hb); clear BK566; clear HB; have BK566 := n0_; have HB := n1_; clear n0_ n1_; (try clear hb); (try clear hb2); (try clear hk); (try clear hi); have hcz10_0 : w9.cell? ⟨gb566, 0, none⟩ = some (.slice A0_0 l0_0.length c0_0) := (blk_cell BK566.out 0).trans rfl; have hfz10_0 := blk_frozen BK566.out 0) | ((with_reducible refine gate_callee (f := 11) rfl ?_); refine goesL_ (some 19) rfl rfl Try.func11 (by kernel_rfl) rfl #[.agg #[.slice A0_0 l0_0.length c0_0]] rfl (by (try simp only [List.map_toArray, List.map_cons, List.map_nil]); first | done | rfl | (simp only [List.length_drop, List.length_take]; rfl)) ?_; (with_reducible refine (euler_Bound.calls k _ _ l0_0 t569 t570 _ ?side1 ?side2 A4.out).mono ?_); (case side1 => repeat (first | exact (Kd.C_below HR0_0.out HB.out) | (with_reducible refine Kd.C_alloc ?_ _) | (with_reducible refine Kd.C_drewN ?_ _) | (with_reducible refine Kd.C_drew ?_))); (case side2 => exact HC0_0.out); rintro e w11 ⟨rfl, hb⟩; refine ⟨_, rfl, ?_⟩; have n0_ := Aside0.mk (blk_below (g := gb566) (o := .cells #[.slice A0_0 l0_0.length c0_0] 24 (0, 0)) (by (with_reducible repeat (first | refine blk_drewN ?_ _ | refine blk_drew ?_ | refine blk_alloc ?_ _)); exact BK566.out) hb); have n1_ := Aside0.mk (below_step (by repeat (first | (with_reducible first | exact HB.out | apply below_alloc | apply pw_below_drewN | apply below_drew1 | refine below_set ?_ GE566.out) | exact HB.out)) hb); clear BK566; clear HB; have BK566 := n0_; have HB := n1_; clear n0_ n1_; (try clear hb); (try clear hb2); (try clear hk); (try clear hi); have hcz12_0 : w11.cell? ⟨gb566, 0, none⟩ = some (.slice A0_0 l0_0.length c0_0) := (blk_cell BK566.out 0).trans rfl; have hfz12_0 := blk_frozen BK566.out 0) | ((with_reducible refine gate_callee (f := 21) rfl ?_); refine goesL_ (some 24) rfl rfl Try.func21 (by kernel_rfl) rfl #[.agg #[.slice A0_0 l0_0.length c0_0]] rfl (by (try simp only [List.map_toArray, List.map_cons, List.map_nil]); first | done | rfl | (simp only [List.length_drop, List.length_take]; rfl)) ?_; (with_reducible refine (reset_Reset.calls k _ _ l0_0 t571 t574 _ ?side1 ?side2 A5.out).mono ?_); (case side1 => repeat (first | exact (Kd.C_below HR0_0.out HB.out) | (with_reducible refine Kd.C_alloc ?_ _) | (with_reducible refine Kd.C_drewN ?_ _) | (with_reducible refine Kd.C_drew ?_))); (case side2 => exact HC0_0.out); rintro e w13 ⟨v572, rfl, ho0, hb⟩; refine ⟨_, rfl, ?_⟩; have n0_ := Aside0.mk (Kd.R_lower ho0 (below_size (by repeat (first | (with_reducible first | exact HB.out | apply below_alloc | apply pw_below_drewN | apply below_drew1 | refine below_set ?_ GE566.out) | exact HB.out)))); have n1_ := Aside0.mk (blk_below (g := gb566) (o := .cells #[.slice A0_0 l0_0.length c0_0] 24 (0, 0)) (by (with_reducible repeat (first | refine blk_drewN ?_ _ | refine blk_drew ?_ | refine blk_alloc ?_ _)); exact BK566.out) hb); have n2_ := Aside0.mk (below_step (by repeat (first | (with_reducible first | exact HB.out | apply below_alloc | apply pw_below_drewN | apply below_drew1 | refine below_set ?_ GE566.out) | exact HB.out)) hb); clear BK566; clear HB; have HO573 := n0_; have BK566 := n1_; have HB := n2_; clear n0_ n1_ n2_; (try clear hb); (try clear hb2); (try clear hk); (try clear hi); (try clear ho0)))
    (try simp only [Act.put, List.setIfInBounds_toArray, List.set_cons_zero, List.set_cons_succ])
    go_cut [50] (fun v50 wc => ∃ (kq : Nat) (x50_5 : Bool), v50 = .bool x50_5 ∧ Aside0 (mizmazelaw06_EulerBounds.j0 kq (l0_0.length : Int) t569 t570 x50_5 l0_0 = some r) ∧ Aside0 (kq ≤ k) ∧ Aside0 (wc.heap[gb566]? = some (.cells #[(.slice A0_0 l0_0.length c0_0)] 24 (0, 0))) ∧ Aside0 (Below w.heap.size w wc))
    case first =>
      have H := HC6.out
      clear HC6
      by_cases c14 : t570 = t574
      · rw [if_pos c14] at H
        have c14b0 : (t570 == t574) = true := beq_iff_eq.mpr c14
        have c14b1 : (t570 != t574) = false := bne_eq_false_iff_eq.mpr c14
        clear c14
        (first | rw [c14b0] | (simp only [i64_w, i32_w]; rw [c14b0]) | skip)
        by_cases c15 : t570 = 0
        · rw [if_pos c15] at H
          have c15b0 : (t570 == 0) = true := beq_iff_eq.mpr c15
          have c15b1 : (t570 != 0) = false := bne_eq_false_iff_eq.mpr c15
          clear c15
          replace H := Option.bind_eq_some_iff.mp H
          obtain ⟨t575, A160, H⟩ := H
          replace H : (if (t571.length : Int) > t575 then (mizmazelaw06_EulerBounds.j0 k (l0_0.length : Int) t569 t570 true l0_0) else (if (l0_0.length : Int) > 1 then ((mizmazeref03_Most.f (l0_0.length : Int)).bind fun t576 => (mizmazelaw06_EulerBounds.j0 k (l0_0.length : Int) t569 t570 (decide (t569 > t576)) l0_0)) else (mizmazelaw06_EulerBounds.j0 k (l0_0.length : Int) t569 t570 false l0_0))) = some r := H
          have A16 := Aside0.mk A160
          clear A160
          by_cases c17 : (t571.length : Int) > t575
          · rw [if_pos c17] at H
            have c17b0 : decide (t575 < (t571.length : Int)) = true := decide_eq_true c17
            clear c17
            have H' := Aside0.mk H
            clear H
            obtain ⟨Ao18, co18, eo18⟩ := Kd.R_slice HO573.out
            subst eo18
            go_wp2_with (first | (go_at_call 25; (with_reducible refine (mizmazeref03_Most.calls (l0_0.length : Int) t575 _ A16.out).mono ?_); rintro e w' ⟨rfl, ⟨nd, rfl⟩⟩))
            go_meet
            case rel => exact ⟨_, (true), (by first | rfl | (simp; done) | (simp [*]; done)), H', ⟨by first | omega | exact Nat.le_refl _⟩, ⟨by (with_reducible repeat (first | refine blk_drewN ?_ _ | refine blk_drew ?_ | refine blk_alloc ?_ _)); exact BK566.out⟩, ⟨by repeat (first | (with_reducible first | exact HB.out | apply below_alloc | apply pw_below_drewN | apply below_drew1 | refine below_set ?_ GE566.out) | exact HB.out)⟩⟩
          · rw [if_neg c17] at H
            have c17b0 : decide (t575 < (t571.length : Int)) = false := decide_eq_false c17
            clear c17
            by_cases c19 : (l0_0.length : Int) > 1
            · rw [if_pos c19] at H
              have c19b0 : decide (1 < (l0_0.length : Int)) = true := decide_eq_true c19
              have c19b1 : decide (1 < l0_0.length) = true := decide_eq_true (by omega)
              clear c19
              replace H := Option.bind_eq_some_iff.mp H
              obtain ⟨t576, A200, H⟩ := H
              obtain rfl : t575 = t576 := Option.some.inj (A16.out.symm.trans A200)
              replace H : (mizmazelaw06_EulerBounds.j0 k (l0_0.length : Int) t569 t570 (decide (t569 > t575)) l0_0) = some r := H
              have A20 := Aside0.mk A200
              clear A200
              have H' := Aside0.mk H
              clear H
              obtain ⟨Ao21, co21, eo21⟩ := Kd.R_slice HO573.out
              subst eo21
              go_wp2_with (first | (go_at_call 25; (with_reducible refine (mizmazeref03_Most.calls (l0_0.length : Int) t575 _ A16.out).mono ?_); rintro e w' ⟨rfl, ⟨nd, rfl⟩⟩) | (go_at_call 25; (with_reducible refine (mizmazeref03_Most.calls (l0_0.length : Int) t575 _ A20.out).mono ?_); rintro e w' ⟨rfl, ⟨nd, rfl⟩⟩))
              go_meet
              case rel => exact ⟨_, (decide (t569 > t575)), (by first | rfl | (simp; done) | (simp [*]; done)), H', ⟨by first | omega | exact Nat.le_refl _⟩, ⟨by (with_reducible repeat (first | refine blk_drewN ?_ _ | refine blk_drew ?_ | refine blk_alloc ?_ _)); exact BK566.out⟩, ⟨by repeat (first | (with_reducible first | exact HB.out | apply below_alloc | apply pw_below_drewN | apply below_drew1 | refine below_set ?_ GE566.out) | exact HB.out)⟩⟩
            · rw [if_neg c19] at H
              have c19b0 : decide (1 < (l0_0.length : Int)) = false := decide_eq_false c19
              have c19b1 : decide (1 < l0_0.length) = false := decide_eq_false (by omega)
              clear c19
              have H' := Aside0.mk H
              clear H
              obtain ⟨Ao22, co22, eo22⟩ := Kd.R_slice HO573.out
              subst eo22
              go_wp2_with (first | (go_at_call 25; (with_reducible refine (mizmazeref03_Most.calls (l0_0.length : Int) t575 _ A16.out).mono ?_); rintro e w' ⟨rfl, ⟨nd, rfl⟩⟩))
              go_meet
              case rel => exact ⟨_, (false), (by first | rfl | (simp; done) | (simp [*]; done)), H', ⟨by first | omega | exact Nat.le_refl _⟩, ⟨by (with_reducible repeat (first | refine blk_drewN ?_ _ | refine blk_drew ?_ | refine blk_alloc ?_ _)); exact BK566.out⟩, ⟨by repeat (first | (with_reducible first | exact HB.out | apply below_alloc | apply pw_below_drewN | apply below_drew1 | refine below_set ?_ GE566.out) | exact HB.out)⟩⟩
        · rw [if_neg c15] at H
          have c15b0 : (t570 == 0) = false := beq_eq_false_iff_ne.mpr c15
          have c15b1 : (t570 != 0) = true := bne_iff_ne.mpr c15
          have H' := Aside0.mk H
          clear H
          go_wp2
          go_meet
          case rel => exact ⟨_, (false), (by first | rfl | (simp; done) | (simp [*]; done)), H', ⟨by first | omega | exact Nat.le_refl _⟩, ⟨by (with_reducible repeat (first | refine blk_drewN ?_ _ | refine blk_drew ?_ | refine blk_alloc ?_ _)); exact BK566.out⟩, ⟨by repeat (first | (with_reducible first | exact HB.out | apply below_alloc | apply pw_below_drewN | apply below_drew1 | refine below_set ?_ GE566.out) | exact HB.out)⟩⟩
      · rw [if_neg c14] at H
        have c14b0 : (t570 == t574) = false := beq_eq_false_iff_ne.mpr c14
        have c14b1 : (t570 != t574) = true := bne_iff_ne.mpr c14
        (first | rw [c14b0] | (simp only [i64_w, i32_w]; rw [c14b0]) | skip)
        have H' := Aside0.mk H
        clear H
        go_wp2
        go_meet
        case rel => exact ⟨_, (true), (by first | rfl | (simp; done) | (simp [*]; done)), H', ⟨by first | omega | exact Nat.le_refl _⟩, ⟨by (with_reducible repeat (first | refine blk_drewN ?_ _ | refine blk_drew ?_ | refine blk_alloc ?_ _)); exact BK566.out⟩, ⟨by repeat (first | (with_reducible first | exact HB.out | apply below_alloc | apply pw_below_drewN | apply below_drew1 | refine below_set ?_ GE566.out) | exact HB.out)⟩⟩
    case rest =>
      clear HC6
      try clear c1
      try clear c2
      try clear p2
      try clear c3
      try clear c7
      try clear c11
      try clear c12
      try clear c14
      try clear c14b0
      try clear c14b1
      try clear c15
      try clear c15b0
      try clear c15b1
      try clear c17
      try clear c17b0
      try clear c19
      try clear c19b0
      try clear c19b1
      try clear c21
      try clear hcz10_0
      try clear hcz12_0
      try clear hcz8_0
      try clear hfz10_0
      try clear hfz12_0
      try clear hfz8_0
      obtain ⟨kq, x50_5, rfl, HA, HJ5, BK566, HB⟩ := hcut
      cases kq with
      | zero => exact absurd HA.out (by simp [mizmazelaw06_EulerBounds.j0])
      | succ kj5 =>
        have H := HA.out
        clear HA
        simp only [mizmazelaw06_EulerBounds.j0] at H
        by_cases c23 : x50_5 = true
        · subst c23
          have H1 : (none) = some r := by rw [if_pos rfl] at H; exact H
          clear H
          have H := H1
          clear H1
          exact absurd H (by simp)
        · replace c23 := Bool.eq_false_iff.mpr c23
          subst c23
          have H1 : (if (l0_0.length : Int) > 12 then ((mizmazelaw06_awake.f kj5).bind fun t577 => (some t577)) else ((short_Shortest.f kj5 l0_0).bind fun bt578 => (if bt578.2 = t570 then (if t570 = 0 then (if (bt578.1.length : Int) ≤ t569 then ((mizmazelaw06_awake.f kj5).bind fun t582 => (some t582)) else (none)) else ((mizmazelaw06_awake.f kj5).bind fun t583 => (some t583))) else (none)))) = some r := by rw [if_neg (show ¬ (false = true) by decide)] at H; exact H
          clear H
          have H := H1
          clear H1
          by_cases c24 : (l0_0.length : Int) > 12
          · rw [if_pos c24] at H
            have c24b0 : decide (12 < (l0_0.length : Int)) = true := decide_eq_true c24
            have c24b1 : decide (12 < l0_0.length) = true := decide_eq_true (by omega)
            clear c24
            replace H := Option.bind_eq_some_iff.mp H
            obtain ⟨t577, A250, H⟩ := H
            replace H : (some t577) = some r := H
            have A25 := Aside0.mk A250
            clear A250
            obtain rfl := Option.some.inj H
            go_wp2_with (first | ((with_reducible refine gate_callee (f := 13) rfl ?_); refine goesL_ (some 53) rfl rfl Try.func13 (by kernel_rfl) rfl #[] rfl (by (try simp only [List.map_toArray, List.map_cons, List.map_nil]); first | done | rfl | (simp only [List.length_drop, List.length_take]; rfl)) ?_; (with_reducible refine (mizmazelaw06_awake.calls kj5  t577 _ A25.out).mono ?_); rintro e w26 ⟨rfl, hb⟩; refine ⟨_, rfl, ?_⟩; have n0_ := Aside0.mk (blk_below (g := gb566) (o := .cells #[.slice A0_0 l0_0.length c0_0] 24 (0, 0)) (by (with_reducible repeat (first | refine blk_drewN ?_ _ | refine blk_drew ?_ | refine blk_alloc ?_ _)); exact BK566.out) hb); have n1_ := Aside0.mk (below_step (by repeat (first | (with_reducible first | exact HB.out | apply below_alloc | apply pw_below_drewN | apply below_drew1 | refine below_set ?_ GE566.out) | exact HB.out)) hb); clear BK566; clear HB; have BK566 := n0_; have HB := n1_; clear n0_ n1_; (try clear hb); (try clear hb2); (try clear hk); (try clear hi)))
            go_ret
            exact ⟨by first | rfl | (simp [errW_none, errW_some] <;> rfl) | (simp [*, errW_none, errW_some] <;> rfl), by repeat (first | (with_reducible first | exact HB.out | apply below_alloc | apply pw_below_drewN | apply below_drew1 | refine below_set ?_ GE566.out) | exact HB.out)⟩
          · rw [if_neg c24] at H
            have c24b0 : decide (12 < (l0_0.length : Int)) = false := decide_eq_false c24
            have c24b1 : decide (12 < l0_0.length) = false := decide_eq_false (by omega)
            clear c24
            replace H := Option.bind_eq_some_iff.mp H
            obtain ⟨⟨t578, t581⟩, A270, H⟩ := H
            replace H : (if t581 = t570 then (if t570 = 0 then (if (t578.length : Int) ≤ t569 then ((mizmazelaw06_awake.f kj5).bind fun t582 => (some t582)) else (none)) else ((mizmazelaw06_awake.f kj5).bind fun t583 => (some t583))) else (none)) = some r := H
            have A27 := Aside0.mk A270
            clear A270
            by_cases c28 : t581 = t570
            · rw [if_pos c28] at H
              have c28b0 : (t581 == t570) = true := beq_iff_eq.mpr c28
              have c28b1 : (t581 != t570) = false := bne_eq_false_iff_eq.mpr c28
              clear c28
              by_cases c29 : t570 = 0
              · rw [if_pos c29] at H
                have c29b0 : (t570 == 0) = true := beq_iff_eq.mpr c29
                have c29b1 : (t570 != 0) = false := bne_eq_false_iff_eq.mpr c29
                clear c29
                by_cases c30 : (t578.length : Int) ≤ t569
                · rw [if_pos c30] at H
                  have c30b0 : decide ((t578.length : Int) ≤ t569) = true := decide_eq_true c30
                  clear c30
                  replace H := Option.bind_eq_some_iff.mp H
                  obtain ⟨t582, A310, H⟩ := H
                  replace H : (some t582) = some r := H
                  have A31 := Aside0.mk A310
                  clear A310
                  obtain rfl := Option.some.inj H
                  have hcz32_0 : wc.cell? ⟨gb566, 0, none⟩ = some (.slice A0_0 l0_0.length c0_0) := (blk_cell BK566.out 0).trans rfl
                  have hfz32_0 := blk_frozen BK566.out 0
                  go_wp2_with (first | ((with_reducible refine gate_callee (f := 26) rfl ?_); refine goesL_ (some 56) rfl rfl Try.func26 (by kernel_rfl) rfl #[.agg #[.slice A0_0 l0_0.length c0_0]] rfl (by (try simp only [List.map_toArray, List.map_cons, List.map_nil]); first | done | rfl | (simp only [List.length_drop, List.length_take]; rfl)) ?_; (with_reducible refine (short_Shortest.calls kj5 _ _ l0_0 t578 t581 _ ?side1 ?side2 A27.out).mono ?_); (case side1 => repeat (first | exact (Kd.C_below HR0_0.out HB.out) | (with_reducible refine Kd.C_alloc ?_ _) | (with_reducible refine Kd.C_drewN ?_ _) | (with_reducible refine Kd.C_drew ?_))); (case side2 => exact HC0_0.out); rintro e w33 ⟨v579, rfl, ho0, hb⟩; refine ⟨_, rfl, ?_⟩; have n0_ := Aside0.mk (Kd.R_lower ho0 (below_size (by repeat (first | (with_reducible first | exact HB.out | apply below_alloc | apply pw_below_drewN | apply below_drew1 | refine below_set ?_ GE566.out) | exact HB.out)))); have n1_ := Aside0.mk (blk_below (g := gb566) (o := .cells #[.slice A0_0 l0_0.length c0_0] 24 (0, 0)) (by (with_reducible repeat (first | refine blk_drewN ?_ _ | refine blk_drew ?_ | refine blk_alloc ?_ _)); exact BK566.out) hb); have n2_ := Aside0.mk (below_step (by repeat (first | (with_reducible first | exact HB.out | apply below_alloc | apply pw_below_drewN | apply below_drew1 | refine below_set ?_ GE566.out) | exact HB.out)) hb); clear BK566; clear HB; have HO580 := n0_; have BK566 := n1_; have HB := n2_; clear n0_ n1_ n2_; (try clear hb); (try clear hb2); (try clear hk); (try clear hi); (try clear ho0); obtain ⟨Ao34, co34, eo34⟩ := Kd.R_slice HO580.out; subst eo34) | (go_at_call 13; (with_reducible refine (mizmazelaw06_awake.calls kj5  t582 _ A31.out).mono ?_); rintro e w35 ⟨rfl, hb⟩; have n0_ := Aside0.mk (Kd.R_below (by (with_reducible repeat (first | apply Kd.R_alloc | apply Kd.R_drewN | apply Kd.R_drew)); exact HO580.out) hb); have n1_ := Aside0.mk (blk_below (g := gb566) (o := .cells #[.slice A0_0 l0_0.length c0_0] 24 (0, 0)) (by (with_reducible repeat (first | refine blk_drewN ?_ _ | refine blk_drew ?_ | refine blk_alloc ?_ _)); exact BK566.out) hb); have n2_ := Aside0.mk (below_step (by repeat (first | (with_reducible first | exact HB.out | apply below_alloc | apply pw_below_drewN | apply below_drew1 | refine below_set ?_ GE566.out) | exact HB.out)) hb); clear HO580; clear BK566; clear HB; have HO580 := n0_; have BK566 := n1_; have HB := n2_; clear n0_ n1_ n2_; (try clear hb); (try clear hb2); (try clear hk); (try clear hi)))
                  go_ret
                  exact ⟨by first | rfl | (simp [errW_none, errW_some] <;> rfl) | (simp [*, errW_none, errW_some] <;> rfl), by repeat (first | (with_reducible first | exact HB.out | apply below_alloc | apply pw_below_drewN | apply below_drew1 | refine below_set ?_ GE566.out) | exact HB.out)⟩
                · rw [if_neg c30] at H
                  exact absurd H (by simp)
              · rw [if_neg c29] at H
                have c29b0 : (t570 == 0) = false := beq_eq_false_iff_ne.mpr c29
                have c29b1 : (t570 != 0) = true := bne_iff_ne.mpr c29
                replace H := Option.bind_eq_some_iff.mp H
                obtain ⟨t583, A360, H⟩ := H
                replace H : (some t583) = some r := H
                have A36 := Aside0.mk A360
                clear A360
                obtain rfl := Option.some.inj H
                have hcz37_0 : wc.cell? ⟨gb566, 0, none⟩ = some (.slice A0_0 l0_0.length c0_0) := (blk_cell BK566.out 0).trans rfl
                have hfz37_0 := blk_frozen BK566.out 0
                go_wp2_with (first | ((with_reducible refine gate_callee (f := 26) rfl ?_); refine goesL_ (some 56) rfl rfl Try.func26 (by kernel_rfl) rfl #[.agg #[.slice A0_0 l0_0.length c0_0]] rfl (by (try simp only [List.map_toArray, List.map_cons, List.map_nil]); first | done | rfl | (simp only [List.length_drop, List.length_take]; rfl)) ?_; (with_reducible refine (short_Shortest.calls kj5 _ _ l0_0 t578 t581 _ ?side1 ?side2 A27.out).mono ?_); (case side1 => repeat (first | exact (Kd.C_below HR0_0.out HB.out) | (with_reducible refine Kd.C_alloc ?_ _) | (with_reducible refine Kd.C_drewN ?_ _) | (with_reducible refine Kd.C_drew ?_))); (case side2 => exact HC0_0.out); rintro e w38 ⟨v579, rfl, ho0, hb⟩; refine ⟨_, rfl, ?_⟩; have n0_ := Aside0.mk (Kd.R_lower ho0 (below_size (by repeat (first | (with_reducible first | exact HB.out | apply below_alloc | apply pw_below_drewN | apply below_drew1 | refine below_set ?_ GE566.out) | exact HB.out)))); have n1_ := Aside0.mk (blk_below (g := gb566) (o := .cells #[.slice A0_0 l0_0.length c0_0] 24 (0, 0)) (by (with_reducible repeat (first | refine blk_drewN ?_ _ | refine blk_drew ?_ | refine blk_alloc ?_ _)); exact BK566.out) hb); have n2_ := Aside0.mk (below_step (by repeat (first | (with_reducible first | exact HB.out | apply below_alloc | apply pw_below_drewN | apply below_drew1 | refine below_set ?_ GE566.out) | exact HB.out)) hb); clear BK566; clear HB; have HO580 := n0_; have BK566 := n1_; have HB := n2_; clear n0_ n1_ n2_; (try clear hb); (try clear hb2); (try clear hk); (try clear hi); (try clear ho0)) | (go_at_call 13; (with_reducible refine (mizmazelaw06_awake.calls kj5  t583 _ A36.out).mono ?_); rintro e w39 ⟨rfl, hb⟩; have n0_ := Aside0.mk (Kd.R_below (by (with_reducible repeat (first | apply Kd.R_alloc | apply Kd.R_drewN | apply Kd.R_drew)); exact HO580.out) hb); have n1_ := Aside0.mk (blk_below (g := gb566) (o := .cells #[.slice A0_0 l0_0.length c0_0] 24 (0, 0)) (by (with_reducible repeat (first | refine blk_drewN ?_ _ | refine blk_drew ?_ | refine blk_alloc ?_ _)); exact BK566.out) hb); have n2_ := Aside0.mk (below_step (by repeat (first | (with_reducible first | exact HB.out | apply below_alloc | apply pw_below_drewN | apply below_drew1 | refine below_set ?_ GE566.out) | exact HB.out)) hb); clear HO580; clear BK566; clear HB; have HO580 := n0_; have BK566 := n1_; have HB := n2_; clear n0_ n1_ n2_; (try clear hb); (try clear hb2); (try clear hk); (try clear hi)))
                go_ret
                exact ⟨by first | rfl | (simp [errW_none, errW_some] <;> rfl) | (simp [*, errW_none, errW_some] <;> rfl), by repeat (first | (with_reducible first | exact HB.out | apply below_alloc | apply pw_below_drewN | apply below_drew1 | refine below_set ?_ GE566.out) | exact HB.out)⟩
            · rw [if_neg c28] at H
              exact absurd H (by simp)
  · replace c3 := Bool.eq_false_iff.mpr c3
    subst c3
    have H1 : ((mizmazelaw06_awake.f k).bind fun t568 => (some t568)) = some r := by rw [if_neg (show ¬ (false = true) by decide)] at H; exact H
    clear H
    have H := H1
    clear H1
    replace H := Option.bind_eq_some_iff.mp H
    obtain ⟨t568, A400, H⟩ := H
    replace H : (some t568) = some r := H
    have A40 := Aside0.mk A400
    clear A400
    obtain rfl := Option.some.inj H
    go_enter Try.func7, Try.ntmps7
    go_wp2_with (first | ((with_reducible refine gate_dst (N := 1) rfl ?_); (try (refine gate_guard (by rfl) ?_; dsimp only)); refine box_event ?hg (N := 1) ?hd (cs := #[.slice A0_0 l0_0.length c0_0]) (t := 24) ?hr ?_; (case hd => rfl); (case hg => rfl); (case hr => first | (go_simp; done) | (go_simp; rfl)); intro gb566 hg w41 hbox hb; have n0_ := Aside0.mk (below_step (by repeat (first | (with_reducible first | exact HB.out | apply below_alloc | apply pw_below_drewN | apply below_drew1) | exact HB.out)) hb); have n1_ := Aside0.mk (hbox); have n2_ := Aside0.mk ((by rw [hg]; exact (below_size (by repeat (first | (with_reducible first | exact HB.out | apply below_alloc | apply pw_below_drewN | apply below_drew1) | exact HB.out))) : w.heap.size ≤ gb566)); have n3_ := Aside0.mk ((by rw [hg]; exact (below_size (by repeat (first | (with_reducible first | exact HB.out | apply below_alloc | apply pw_below_drewN | apply below_drew1) | exact HB.out))) : w.heap.size ≤ gb566)); clear HB; have HB := n0_; have BK566 := n1_; have GW566 := n2_; have GE566 := n3_; clear n0_ n1_ n2_ n3_; clear hb hbox hg; have hcz42_0 : w41.cell? ⟨gb566, 0, none⟩ = some (.slice A0_0 l0_0.length c0_0) := (blk_cell BK566.out 0).trans rfl; have hfz42_0 := blk_frozen BK566.out 0) | ((with_reducible refine gate_callee (f := 12) rfl ?_); refine goesL_ (some 11) rfl rfl Try.func12 (by kernel_rfl) rfl #[.agg #[.slice A0_0 l0_0.length c0_0]] rfl (by (try simp only [List.map_toArray, List.map_cons, List.map_nil]); first | done | rfl | (simp only [List.length_drop, List.length_take]; rfl)) ?_; (with_reducible refine (mizmazeref01_Valid.calls k _ _ l0_0 false _ ?side1 ?side2 A2.out).mono ?_); (case side1 => repeat (first | exact (Kd.C_below HR0_0.out HB.out) | (with_reducible refine Kd.C_alloc ?_ _) | (with_reducible refine Kd.C_drewN ?_ _) | (with_reducible refine Kd.C_drew ?_))); (case side2 => exact HC0_0.out); rintro e w43 ⟨rfl, hb⟩; refine ⟨_, rfl, ?_⟩; have n0_ := Aside0.mk (blk_below (g := gb566) (o := .cells #[.slice A0_0 l0_0.length c0_0] 24 (0, 0)) (by (with_reducible repeat (first | refine blk_drewN ?_ _ | refine blk_drew ?_ | refine blk_alloc ?_ _)); exact BK566.out) hb); have n1_ := Aside0.mk (below_step (by repeat (first | (with_reducible first | exact HB.out | apply below_alloc | apply pw_below_drewN | apply below_drew1 | refine below_set ?_ GE566.out) | exact HB.out)) hb); clear BK566; clear HB; have BK566 := n0_; have HB := n1_; clear n0_ n1_; (try clear hb); (try clear hb2); (try clear hk); (try clear hi)) | ((with_reducible refine gate_callee (f := 13) rfl ?_); refine goesL_ (some 13) rfl rfl Try.func13 (by kernel_rfl) rfl #[] rfl (by (try simp only [List.map_toArray, List.map_cons, List.map_nil]); first | done | rfl | (simp only [List.length_drop, List.length_take]; rfl)) ?_; (with_reducible refine (mizmazelaw06_awake.calls k  t568 _ A40.out).mono ?_); rintro e w44 ⟨rfl, hb⟩; refine ⟨_, rfl, ?_⟩; have n0_ := Aside0.mk (blk_below (g := gb566) (o := .cells #[.slice A0_0 l0_0.length c0_0] 24 (0, 0)) (by (with_reducible repeat (first | refine blk_drewN ?_ _ | refine blk_drew ?_ | refine blk_alloc ?_ _)); exact BK566.out) hb); have n1_ := Aside0.mk (below_step (by repeat (first | (with_reducible first | exact HB.out | apply below_alloc | apply pw_below_drewN | apply below_drew1 | refine below_set ?_ GE566.out) | exact HB.out)) hb); clear BK566; clear HB; have BK566 := n0_; have HB := n1_; clear n0_ n1_; (try clear hb); (try clear hb2); (try clear hk); (try clear hi)))
    go_ret
    exact ⟨by first | rfl | (simp [errW_none, errW_some] <;> rfl) | (simp [*, errW_none, errW_some] <;> rfl), by repeat (first | (with_reducible first | exact HB.out | apply below_alloc | apply pw_below_drewN | apply below_drew1 | refine below_set ?_ GE566.out) | exact HB.out)⟩

end Go.Proofs.Ytcpmmkennnjalaa.Q
end
