/- In any Eulerian automaton that has a reset word, whatever set of states, neither empty nor all, is led into by more states with a word of at most n - 1 letters, and its shortest reset word has at most n^2 - 3n + 3 letters; in any circular one at most (n - 1)^2. (At most 9 states) (text 41 of 42) -/
import Derived.Test.YtcpmmkennnjalaaZTopKarij
import Derived.Test.YtcpmmkennnjalaaZTopKarizd
import Derived.Test.YtcpmmkennnjalaaZTopKarizn
import Derived.Test.YtcpmmkennnjalaaZTopKarizc
import Derived.Test.YtcpmmkennnjalaaZTopKarizj
import Derived.Test.YtcpmmkennnjalaaZTopKarik
import Derived.Test.YtcpmmkennnjalaaZTopKarizl
import Derived.Test.YtcpmmkennnjalaaZTopKarin
import Derived.Test.YtcpmmkennnjalaaZTopKarit
import Derived.Test.YtcpmmkennnjalaaZTopKariw
import Derived.Test.YtcpmmkennnjalaaZTopKariz
section
-- Written by xprint.py, a program of this session's, over the kit's print. Lean checks it.
namespace Go.Proofs.Ytcpmmkennnjalaa.Q
open Go.RowKit Go.Proofs.YtcpmmkennnjalaaW.PrintWords Go.Proofs.YtcpmmkennnjalaaW.PrintLast Go.Proofs.YtcpmmkennnjalaaW.PrintMore
attribute [local go_sem] max2_int min2_int max_two min_two max_three min_three max_four min_four
set_option linter.unusedVariables false
set_option linter.unusedSectionVars false
set_option linter.unusedSimpArgs false

/-! ### mizmazetop_TopKari: function 8 -/
mutual
def mizmazetop_TopKari.j0 : Nat → Int → Bool → List (List Int) → Option (Bool)
  | 0, _, _, _ => none
  | k + 1, x1, x27, x628000 => if x27 = true then ((mizmazetop_balances.f k).bind fun t629 => (some t629)) else (mizmazetop_TopKari.l0 k x1 (x628000.length : Int) ([] : List Int) 0 x628000)
def mizmazetop_TopKari.l0 : Nat → Int → Int → List Int → Int → List (List Int) → Option (Bool)
  | 0, _, _, _, _, _ => none
  | k + 1, x1, x5, x6, x7, x628000 => if x7 < x5 then (if 0 ≤ (IntKind.u64.wrap (x7)) then (if (Go.bits .and .i64 (shr .i64 x1 (IntKind.u64.wrap (x7))) 1) = 1 then (if x6.length < 17592186044416 then (mizmazetop_TopKari.l0 k x1 x5 (x6 ++ [x7]) (wrap64 (x7 + 1)) x628000) else (none)) else (mizmazetop_TopKari.l0 k x1 x5 x6 (wrap64 (x7 + 1)) x628000)) else (none)) else ((euler_Eulerian.f x628000).bind fun bt633 => ((euler_Circular.f k x628000).bind fun bt635 => ((reset_Reset.f k x628000).bind fun bt637 => ((short_Shortest.f k x628000).bind fun bt641 => (if bt633.2 = 0 then (if ((bt637.2 == 0) != (bt641.2 == 0)) = true then (mizmazetop_TopKari.j2 k x1 x5 x6 bt633.1 bt635.2 bt637.2 bt641.1 true x628000) else (if bt635.2 = 0 then (mizmazetop_TopKari.j2 k x1 x5 x6 bt633.1 bt635.2 bt637.2 bt641.1 false x628000) else (mizmazetop_TopKari.j2 k x1 x5 x6 bt633.1 bt635.2 bt637.2 bt641.1 (bt635.2 != 4) x628000))) else (mizmazetop_TopKari.j2 k x1 x5 x6 bt633.1 bt635.2 bt637.2 bt641.1 true x628000))))))
def mizmazetop_TopKari.j2 : Nat → Int → Int → List Int → Bool → Int → Int → List Int → Bool → List (List Int) → Option (Bool)
  | 0, _, _, _, _, _, _, _, _, _ => none
  | k + 1, x1, x5, x6, x8, x11, x13, x14, x83, x628000 => if x83 = true then (none) else (if x13 = 0 then (if x8 = true then (if (x14.length : Int) > (wrap64 ((wrap64 ((wrap64 (x5 * x5)) - (wrap64 (3 * x5)))) + 3)) then (mizmazetop_TopKari.j3 k x1 x5 x6 x8 true x628000) else (if x11 = 0 then (if (x14.length : Int) > (wrap64 ((wrap64 (x5 - 1)) * (wrap64 (x5 - 1)))) then (mizmazetop_TopKari.j3 k x1 x5 x6 x8 true x628000) else (mizmazetop_TopKari.j3 k x1 x5 x6 x8 (decide ((wrap64 (6 * (x14.length : Int))) > (wrap64 ((wrap64 ((wrap64 (x5 * x5)) * x5)) - x5)))) x628000)) else (mizmazetop_TopKari.j3 k x1 x5 x6 x8 (decide ((wrap64 (6 * (x14.length : Int))) > (wrap64 ((wrap64 ((wrap64 (x5 * x5)) * x5)) - x5)))) x628000))) else (if x11 = 0 then (if (x14.length : Int) > (wrap64 ((wrap64 (x5 - 1)) * (wrap64 (x5 - 1)))) then (mizmazetop_TopKari.j3 k x1 x5 x6 x8 true x628000) else (mizmazetop_TopKari.j3 k x1 x5 x6 x8 (decide ((wrap64 (6 * (x14.length : Int))) > (wrap64 ((wrap64 ((wrap64 (x5 * x5)) * x5)) - x5)))) x628000)) else (mizmazetop_TopKari.j3 k x1 x5 x6 x8 (decide ((wrap64 (6 * (x14.length : Int))) > (wrap64 ((wrap64 ((wrap64 (x5 * x5)) * x5)) - x5)))) x628000))) else ((mizmazetop_balances.f k).bind fun t645 => (some t645)))
def mizmazetop_TopKari.j3 : Nat → Int → Int → List Int → Bool → Bool → List (List Int) → Option (Bool)
  | 0, _, _, _, _, _, _ => none
  | k + 1, x1, x5, x6, x8, x126, x628000 => if x126 = true then (none) else (if x8 = true then (if (x6.length : Int) = 0 then (mizmazetop_TopKari.j4 k x1 x5 x6 true x628000) else (mizmazetop_TopKari.j4 k x1 x5 x6 ((x6.length : Int) == x5) x628000)) else (mizmazetop_TopKari.j4 k x1 x5 x6 true x628000))
def mizmazetop_TopKari.j4 : Nat → Int → Int → List Int → Bool → List (List Int) → Option (Bool)
  | 0, _, _, _, _, _ => none
  | k + 1, x1, x5, x6, x139, x628000 => if x139 = true then ((mizmazetop_balances.f k).bind fun t646 => (some t646)) else ((euler_Extend.f k x628000 x6).bind fun bt647 => (if bt647.2 = 0 then (if (bt647.1.length : Int) > (wrap64 (x5 - 1)) then (mizmazetop_TopKari.j5 k x1 x5 x6 bt647.1 true x628000) else ((mizmazetop_right.f k x628000 bt647.1).bind fun t651 => (mizmazetop_TopKari.j5 k x1 x5 x6 bt647.1 (!t651) x628000))) else (mizmazetop_TopKari.j5 k x1 x5 x6 bt647.1 true x628000)))
def mizmazetop_TopKari.j5 : Nat → Int → Int → List Int → List Int → Bool → List (List Int) → Option (Bool)
  | 0, _, _, _, _, _, _ => none
  | k + 1, x1, x5, x6, x16, x161, x628000 => if x161 = true then (none) else (mizmazetop_TopKari.l1 k x1 x5 x6 x16 0 0 x628000)
def mizmazetop_TopKari.l1 : Nat → Int → Int → List Int → List Int → Int → Int → List (List Int) → Option (Bool)
  | 0, _, _, _, _, _, _, _ => none
  | k + 1, x1, x5, x6, x16, x17, x18, x628000 => if x18 < x5 then ((mizmazetop_lead.f k x628000 x18 x16).bind fun t652 => (if 0 ≤ (IntKind.u64.wrap (t652)) then (if (Go.bits .and .i64 (shr .i64 x1 (IntKind.u64.wrap (t652))) 1) = 1 then (mizmazetop_TopKari.l1 k x1 x5 x6 x16 (wrap64 (x17 + 1)) (wrap64 (x18 + 1)) x628000) else (mizmazetop_TopKari.l1 k x1 x5 x6 x16 x17 (wrap64 (x18 + 1)) x628000)) else (none))) else (if x17 > (x6.length : Int) then ((mizmazetop_balances.f k).bind fun t653 => (some t653)) else (none))
end
def mizmazetop_TopKari.f (k : Nat) (l0_0 : List (List Int)) (a1 : Int) : Option (Bool) := (mizmazetop_valid.f k l0_0).bind fun t628 => (if t628 = true then (mizmazetop_TopKari.j0 k a1 (decide ((l0_0.length : Int) > 9)) l0_0) else (mizmazetop_TopKari.j0 k a1 true l0_0))
set_option maxHeartbeats 8000000 in
set_option maxRecDepth 100000 in
theorem mizmazetop_TopKari.calls (k : Nat) (A0_0 : Option Addr) (c0_0 : Nat) (l0_0 : List (List Int)) (a1 : Int) (r : Bool) (w : World) (hr0_0 : Kd.C (Kd.slice 3 (Kd.int .i64)) w A0_0 l0_0.length l0_0) (hc0_0 : l0_0.length ≤ c0_0) (h : mizmazetop_TopKari.f k l0_0 a1 = some r) :
    Calls Try.prog 8 #[.agg #[.slice A0_0 l0_0.length c0_0], .int .i64 a1] w fun e w' => e = .returned (.bool r) ∧ Below w.heap.size w w' := by
  have hu24 := Try.underlying24
  have HR0_0 := Aside0.mk hr0_0
  have HC0_0 := Aside0.mk hc0_0
  clear hr0_0 hc0_0
  have HB := Aside0.mk (Below.refl w.heap.size w)
  have H : ((mizmazetop_valid.f k l0_0).bind fun t628 => (if t628 = true then (mizmazetop_TopKari.j0 k a1 (decide ((l0_0.length : Int) > 9)) l0_0) else (mizmazetop_TopKari.j0 k a1 true l0_0))) = some r := h
  clear h
  have HC3 := Aside0.mk H
  clear H
  go_enter Try.func8, Try.ntmps8
  go_upto_region 1 with (first | ((with_reducible refine gate_dst (N := 2) rfl ?_); (try (refine gate_guard (by rfl) ?_; dsimp only)); refine box_event ?hg (N := 2) ?hd (cs := #[.slice A0_0 l0_0.length c0_0]) (t := 24) ?hr ?_; (case hd => rfl); (case hg => rfl); (case hr => first | (go_simp; done) | (go_simp; rfl)); intro gb627 hg w4 hbox hb; have n0_ := Aside0.mk (below_step (by repeat (first | (with_reducible first | exact HB.out | apply below_alloc | apply pw_below_drewN | apply below_drew1) | exact HB.out)) hb); have n1_ := Aside0.mk (hbox); have n2_ := Aside0.mk ((by rw [hg]; exact (below_size (by repeat (first | (with_reducible first | exact HB.out | apply below_alloc | apply pw_below_drewN | apply below_drew1) | exact HB.out))) : w.heap.size ≤ gb627)); have n3_ := Aside0.mk ((by rw [hg]; exact (below_size (by repeat (first | (with_reducible first | exact HB.out | apply below_alloc | apply pw_below_drewN | apply below_drew1) | exact HB.out))) : w.heap.size ≤ gb627)); clear HB; have HB := n0_; have BK627 := n1_; have GW627 := n2_; have GE627 := n3_; clear n0_ n1_ n2_ n3_; clear hb hbox hg))
  (try simp only [Act.put, List.setIfInBounds_toArray, List.set_cons_zero, List.set_cons_succ])
  go_cut [27] (fun v27 wc => ∃ (kq : Nat) (x27_2 : Bool), v27 = .bool x27_2 ∧ Aside0 (mizmazetop_TopKari.j0 kq a1 x27_2 l0_0 = some r) ∧ Aside0 (kq ≤ k) ∧ Aside0 (wc.heap[gb627]? = some (.cells #[(.slice A0_0 l0_0.length c0_0)] 24 (0, 0))) ∧ Aside0 (Below w.heap.size w wc))
  case first => as_aux_lemma =>
    have H := HC3.out
    clear HC3
    replace H := Option.bind_eq_some_iff.mp H
    obtain ⟨t628, A50, H⟩ := H
    replace H : (if t628 = true then (mizmazetop_TopKari.j0 k a1 (decide ((l0_0.length : Int) > 9)) l0_0) else (mizmazetop_TopKari.j0 k a1 true l0_0)) = some r := H
    have A5 := Aside0.mk A50
    clear A50
    by_cases c6 : t628 = true
    · subst c6
      have H1 : (mizmazetop_TopKari.j0 k a1 (decide ((l0_0.length : Int) > 9)) l0_0) = some r := by rw [if_pos rfl] at H; exact H
      clear H
      have H := H1
      clear H1
      have H' := Aside0.mk H
      clear H
      have hcz7_0 : w4.cell? ⟨gb627, 0, none⟩ = some (.slice A0_0 l0_0.length c0_0) := (blk_cell BK627.out 0).trans rfl
      have hfz7_0 := blk_frozen BK627.out 0
      go_wp2_with (first | ((with_reducible refine gate_callee (f := 27) rfl ?_); refine goesL_ (some 20) rfl rfl Try.func27 (by kernel_rfl) rfl #[.agg #[.slice A0_0 l0_0.length c0_0]] rfl (by (try simp only [List.map_toArray, List.map_cons, List.map_nil]); first | done | rfl | (simp only [List.length_drop, List.length_take]; rfl)) ?_; (with_reducible refine (mizmazetop_valid.calls k _ _ l0_0 true _ ?side1 ?side2 A5.out).mono ?_); (case side1 => repeat (first | exact (Kd.C_below HR0_0.out HB.out) | (with_reducible refine Kd.C_alloc ?_ _) | (with_reducible refine Kd.C_drewN ?_ _) | (with_reducible refine Kd.C_drew ?_))); (case side2 => exact HC0_0.out); rintro e w8 ⟨rfl, hb⟩; refine ⟨_, rfl, ?_⟩; have n0_ := Aside0.mk (blk_below (g := gb627) (o := .cells #[.slice A0_0 l0_0.length c0_0] 24 (0, 0)) (by (with_reducible repeat (first | refine blk_drewN ?_ _ | refine blk_drew ?_ | refine blk_alloc ?_ _)); exact BK627.out) hb); have n1_ := Aside0.mk (below_step (by repeat (first | (with_reducible first | exact HB.out | apply below_alloc | apply pw_below_drewN | apply below_drew1 | refine below_set ?_ GE627.out) | exact HB.out)) hb); clear BK627; clear HB; have BK627 := n0_; have HB := n1_; clear n0_ n1_; (try clear hb); (try clear hb2); (try clear hk); (try clear hi); have hcz9_0 : w8.cell? ⟨gb627, 0, none⟩ = some (.slice A0_0 l0_0.length c0_0) := (blk_cell BK627.out 0).trans rfl; have hfz9_0 := blk_frozen BK627.out 0))
      go_meet
      case rel => exact ⟨_, (decide ((l0_0.length : Int) > 9)), (by first | rfl | (simp; done) | (simp [*]; done)), H', ⟨by first | omega | exact Nat.le_refl _⟩, ⟨by (with_reducible repeat (first | refine blk_drewN ?_ _ | refine blk_drew ?_ | refine blk_alloc ?_ _)); exact BK627.out⟩, ⟨by repeat (first | (with_reducible first | exact HB.out | apply below_alloc | apply pw_below_drewN | apply below_drew1 | refine below_set ?_ GE627.out) | exact HB.out)⟩⟩
    · replace c6 := Bool.eq_false_iff.mpr c6
      subst c6
      have H1 : (mizmazetop_TopKari.j0 k a1 true l0_0) = some r := by rw [if_neg (show ¬ (false = true) by decide)] at H; exact H
      clear H
      have H := H1
      clear H1
      have H' := Aside0.mk H
      clear H
      have hcz10_0 : w4.cell? ⟨gb627, 0, none⟩ = some (.slice A0_0 l0_0.length c0_0) := (blk_cell BK627.out 0).trans rfl
      have hfz10_0 := blk_frozen BK627.out 0
      go_wp2_with (first | ((with_reducible refine gate_callee (f := 27) rfl ?_); refine goesL_ (some 20) rfl rfl Try.func27 (by kernel_rfl) rfl #[.agg #[.slice A0_0 l0_0.length c0_0]] rfl (by (try simp only [List.map_toArray, List.map_cons, List.map_nil]); first | done | rfl | (simp only [List.length_drop, List.length_take]; rfl)) ?_; (with_reducible refine (mizmazetop_valid.calls k _ _ l0_0 false _ ?side1 ?side2 A5.out).mono ?_); (case side1 => repeat (first | exact (Kd.C_below HR0_0.out HB.out) | (with_reducible refine Kd.C_alloc ?_ _) | (with_reducible refine Kd.C_drewN ?_ _) | (with_reducible refine Kd.C_drew ?_))); (case side2 => exact HC0_0.out); rintro e w11 ⟨rfl, hb⟩; refine ⟨_, rfl, ?_⟩; have n0_ := Aside0.mk (blk_below (g := gb627) (o := .cells #[.slice A0_0 l0_0.length c0_0] 24 (0, 0)) (by (with_reducible repeat (first | refine blk_drewN ?_ _ | refine blk_drew ?_ | refine blk_alloc ?_ _)); exact BK627.out) hb); have n1_ := Aside0.mk (below_step (by repeat (first | (with_reducible first | exact HB.out | apply below_alloc | apply pw_below_drewN | apply below_drew1 | refine below_set ?_ GE627.out) | exact HB.out)) hb); clear BK627; clear HB; have BK627 := n0_; have HB := n1_; clear n0_ n1_; (try clear hb); (try clear hb2); (try clear hk); (try clear hi)))
      go_meet
      case rel => exact ⟨_, (true), (by first | rfl | (simp; done) | (simp [*]; done)), H', ⟨by first | omega | exact Nat.le_refl _⟩, ⟨by (with_reducible repeat (first | refine blk_drewN ?_ _ | refine blk_drew ?_ | refine blk_alloc ?_ _)); exact BK627.out⟩, ⟨by repeat (first | (with_reducible first | exact HB.out | apply below_alloc | apply pw_below_drewN | apply below_drew1 | refine below_set ?_ GE627.out) | exact HB.out)⟩⟩
  case rest => as_aux_lemma =>
    clear HC3
    try clear c2
    try clear p2
    try clear c6
    try clear c8
    try clear hcz10_0
    try clear hcz7_0
    try clear hcz9_0
    try clear hfz10_0
    try clear hfz7_0
    try clear hfz9_0
    obtain ⟨kq, x27_2, rfl, HA, HJ2, BK627, HB⟩ := hcut
    cases kq with
    | zero => exact absurd HA.out (by simp [mizmazetop_TopKari.j0])
    | succ kj2 =>
      have H := HA.out
      clear HA
      simp only [mizmazetop_TopKari.j0] at H
      by_cases c12 : x27_2 = true
      · subst c12
        have H1 : ((mizmazetop_balances.f kj2).bind fun t629 => (some t629)) = some r := by rw [if_pos rfl] at H; exact H
        clear H
        have H := H1
        clear H1
        replace H := Option.bind_eq_some_iff.mp H
        obtain ⟨t629, A130, H⟩ := H
        replace H : (some t629) = some r := H
        have A13 := Aside0.mk A130
        clear A130
        obtain rfl := Option.some.inj H
        go_wp2_with (first | ((with_reducible refine gate_callee (f := 28) rfl ?_); refine goesL_ (some 28) rfl rfl Try.func28 (by kernel_rfl) rfl #[] rfl (by (try simp only [List.map_toArray, List.map_cons, List.map_nil]); first | done | rfl | (simp only [List.length_drop, List.length_take]; rfl)) ?_; (with_reducible refine (mizmazetop_balances.calls kj2  t629 _ A13.out).mono ?_); rintro e w14 ⟨rfl, hb⟩; refine ⟨_, rfl, ?_⟩; have n0_ := Aside0.mk (blk_below (g := gb627) (o := .cells #[.slice A0_0 l0_0.length c0_0] 24 (0, 0)) (by (with_reducible repeat (first | refine blk_drewN ?_ _ | refine blk_drew ?_ | refine blk_alloc ?_ _)); exact BK627.out) hb); have n1_ := Aside0.mk (below_step (by repeat (first | (with_reducible first | exact HB.out | apply below_alloc | apply pw_below_drewN | apply below_drew1 | refine below_set ?_ GE627.out) | exact HB.out)) hb); clear BK627; clear HB; have BK627 := n0_; have HB := n1_; clear n0_ n1_; (try clear hb); (try clear hb2); (try clear hk); (try clear hi)))
        go_ret
        exact ⟨by first | rfl | (simp [errW_none, errW_some] <;> rfl) | (simp [*, errW_none, errW_some] <;> rfl), by repeat (first | (with_reducible first | exact HB.out | apply below_alloc | apply pw_below_drewN | apply below_drew1 | refine below_set ?_ GE627.out) | exact HB.out)⟩
      · replace c12 := Bool.eq_false_iff.mpr c12
        subst c12
        have H1 : (mizmazetop_TopKari.l0 kj2 a1 (l0_0.length : Int) ([] : List Int) 0 l0_0) = some r := by rw [if_neg (show ¬ (false = true) by decide)] at H; exact H
        clear H
        have H := H1
        clear H1
        have H' := Aside0.mk H
        clear H
        have hcz15_0 : wc.cell? ⟨gb627, 0, none⟩ = some (.slice A0_0 l0_0.length c0_0) := (blk_cell BK627.out 0).trans rfl
        have hfz15_0 := blk_frozen BK627.out 0
        go_wp2
        go_loopg [6, 7] kj2 (fun kq v6 v7 w' => ∃ (x6_2 : List Int) (x7_2 : Int), v7 = .int .i64 x7_2 ∧ Aside0 (mizmazetop_TopKari.l0 kq a1 (l0_0.length : Int) x6_2 x7_2 l0_0 = some r) ∧ Aside0 (kq ≤ kj2) ∧ Aside0 (Kd.R (Kd.int .i64) 3 w' w.heap.size (fun _ => True) v6 x6_2) ∧ Aside0 (w'.heap[gb627]? = some (.cells #[(.slice A0_0 l0_0.length c0_0)] 24 (0, 0))) ∧ Aside0 (Below w.heap.size w w'))
        case atStart => exact ⟨(([] : List Int)), (0), (by first | rfl | (simp; done) | (simp [*]; done)), H', ⟨Nat.le_refl _⟩, ⟨by first | exact Kd.R_nil _ _ _ _ _ | exact Kd.N_nil _ _ _ _ _ | exact Kd.V_nil _ _ _ _ _ | exact Kd.Q_nil _ _ _ _ _ | exact Kd.S_nil _ _ _ _ _⟩, ⟨by (with_reducible repeat (first | refine blk_drewN ?_ _ | refine blk_drew ?_ | refine blk_alloc ?_ _)); exact BK627.out⟩, ⟨by repeat (first | (with_reducible first | exact HB.out | apply below_alloc | apply pw_below_drewN | apply below_drew1 | refine below_set ?_ GE627.out) | exact HB.out)⟩⟩
        case round => as_aux_lemma =>
          clear H'
          try clear c1
          try clear c2
          try clear p2
          try clear c6
          try clear c8
          try clear c12
          try clear hcz10_0
          try clear hcz15_0
          try clear hcz7_0
          try clear hcz9_0
          try clear hfz10_0
          try clear hfz15_0
          try clear hfz7_0
          try clear hfz9_0
          try clear p2
          obtain ⟨x6_2, x7_2, rfl, HA, HK2, HO_6, BK627, HB⟩ := hrel
          cases gk with
          | zero => exact absurd HA.out (by simp [mizmazetop_TopKari.l0])
          | succ k2 =>
            have H := HA.out
            clear HA
            simp only [mizmazetop_TopKari.l0] at H
            by_cases c16 : x7_2 < (l0_0.length : Int)
            · rw [if_pos c16] at H
              have c16b0 : decide (x7_2 < (l0_0.length : Int)) = true := decide_eq_true c16
              clear c16
              obtain ⟨ji17, hji17⟩ : ∃ j_ : Int, (IntKind.u64.wrap (x7_2)) = j_ := ⟨_, rfl⟩
              replace H : (if 0 ≤ (ji17) then (if (Go.bits .and .i64 (shr .i64 a1 (ji17)) 1) = 1 then (if x6_2.length < 17592186044416 then (mizmazetop_TopKari.l0 k2 a1 (l0_0.length : Int) (x6_2 ++ [x7_2]) (wrap64 (x7_2 + 1)) l0_0) else (none)) else (mizmazetop_TopKari.l0 k2 a1 (l0_0.length : Int) x6_2 (wrap64 (x7_2 + 1)) l0_0)) else (none)) = some r := by first | (rw [hji17] at H; exact H) | (simp only [hji17] at H ⊢; exact H)
              by_cases c18 : 0 ≤ (ji17)
              · rw [if_pos c18] at H
                have c18b0 := eq_true c18
                have c18b1 : decide (0 ≤ (ji17)) = true := decide_eq_true c18
                clear c18
                obtain ⟨ji19, hji19⟩ : ∃ j_ : Int, (shr .i64 a1 (ji17)) = j_ := ⟨_, rfl⟩
                replace H : (if (Go.bits .and .i64 (ji19) 1) = 1 then (if x6_2.length < 17592186044416 then (mizmazetop_TopKari.l0 k2 a1 (l0_0.length : Int) (x6_2 ++ [x7_2]) (wrap64 (x7_2 + 1)) l0_0) else (none)) else (mizmazetop_TopKari.l0 k2 a1 (l0_0.length : Int) x6_2 (wrap64 (x7_2 + 1)) l0_0)) = some r := by first | (rw [hji19] at H; exact H) | (simp only [hji19] at H ⊢; exact H)
                have hji19_ : (a1 / 2 ^ min (ji17).toNat 64) = ji19 := hji19
                have hji19z : (ji17) ≤ 64 → (a1 / 2 ^ (ji17).toNat) = ji19 := shr_small hji19
                by_cases c20 : (Go.bits .and .i64 (ji19) 1) = 1
                · rw [if_pos c20] at H
                  have c20b0 : ((Go.bits .and .i64 (ji19) 1) == 1) = true := beq_iff_eq.mpr c20
                  have c20b1 : ((Go.bits .and .i64 (ji19) 1) != 1) = false := bne_eq_false_iff_eq.mpr c20
                  clear c20
                  by_cases c21 : x6_2.length < 17592186044416
                  · rw [if_pos c21] at H
                    have LMc21 := Aside0.mk c21
                    clear c21
                    obtain ⟨y630, hy630⟩ : ∃ y_ : List Int, y_ = (x6_2 ++ [x7_2]) := ⟨_, rfl⟩
                    replace H : (mizmazetop_TopKari.l0 k2 a1 (l0_0.length : Int) y630 (wrap64 (x7_2 + 1)) l0_0) = some r := by first | (rw [hy630]; with_reducible exact H) | (have H2_ := (Option.bind_some _ _).symm.trans H; rw [hy630]; with_reducible exact H2_) | (have H2_ := (Option.bind_some _ _).symm.trans H; with_reducible exact H2_) | with_reducible exact H | (rw [hy630]; exact H) | exact H
                    have Ny630 := Aside0.mk hy630
                    clear hy630
                    have H' := Aside0.mk H
                    clear H
                    go_wp2_with (first | ((with_reducible refine gate_builtin (b := .append) (xs := #[.tmp 43, .tmp 45]) rfl ?_); (try (refine gate_guard (by rfl) ?_; dsimp only)); at_builtin; refine Kd.R_append (Kd.int .i64) (w0 := w) w.heap.size rfl (.tmp 43) (.tmp 45) 34 3 (.int .i64 0) 8 rfl Try.underlying34 info3 rfl (by decide) (by omega) u6 x6_2 x7_2 [.int .i64 x7_2] (fun _ => True) (fun _ => False) rfl rfl ?aP (fun _ hk => hk.elim) ?aF ?aO ?aB ?aS ?aL ?_; (case aP => exact rfl); (case aB => exact (by repeat (first | (with_reducible first | exact HB.out | apply below_alloc | apply pw_below_drewN | apply below_drew1 | refine below_set ?_ GE627.out) | exact HB.out))); (case aF => exact (fun _ _ => trivial)); (case aO => exact (by (with_reducible repeat (first | apply Kd.R_alloc | apply Kd.R_drewN | apply Kd.R_drew)); exact HO_6.out)); (case aS => exact (below_size (by repeat (first | (with_reducible first | exact HB.out | apply below_alloc | apply pw_below_drewN | apply below_drew1 | refine below_set ?_ GE627.out) | exact HB.out)))); (case aL => have := LMc21.out; omega); intro v631 w22 ho hb hg hat; rw [← Ny630.out] at ho; have n0_ := Aside0.mk (blk_grown (g := gb627) (o := .cells #[.slice A0_0 l0_0.length c0_0] 24 (0, 0)) (by (with_reducible repeat (first | refine blk_drewN ?_ _ | refine blk_drew ?_ | refine blk_alloc ?_ _)); exact BK627.out) hg (Kd.R_ne HO_6.out BK627.out (by decide))); have n1_ := Aside0.mk (hb); have n2_ := Aside0.mk (ho); clear BK627; clear HB; clear HO_6; have BK627 := n0_; have HB := n1_; have HO632 := n2_; clear n0_ n1_ n2_; clear ho hb hg hat))
                    go_roundg k2
                    case measure => have := HJ2.out; have := HK2.out; omega
                    case rel => exact ⟨(y630), (wrap64 (x7_2 + 1)), (by first | rfl | (simp; done) | (simp [*]; done)), H', ⟨by have := HJ2.out; have := HK2.out; omega⟩, ⟨by (with_reducible repeat (first | apply Kd.R_alloc | apply Kd.R_drewN | apply Kd.R_drew)); exact HO632.out⟩, ⟨by (with_reducible repeat (first | refine blk_drewN ?_ _ | refine blk_drew ?_ | refine blk_alloc ?_ _)); exact BK627.out⟩, ⟨by repeat (first | (with_reducible first | exact HB.out | apply below_alloc | apply pw_below_drewN | apply below_drew1 | refine below_set ?_ GE627.out) | exact HB.out)⟩⟩
                  · rw [if_neg c21] at H
                    exact absurd H (by simp)
                · rw [if_neg c20] at H
                  have c20b0 : ((Go.bits .and .i64 (ji19) 1) == 1) = false := beq_eq_false_iff_ne.mpr c20
                  have c20b1 : ((Go.bits .and .i64 (ji19) 1) != 1) = true := bne_iff_ne.mpr c20
                  have H' := Aside0.mk H
                  clear H
                  go_wp2
                  go_roundg k2
                  case measure => have := HJ2.out; have := HK2.out; omega
                  case rel => exact ⟨(x6_2), (wrap64 (x7_2 + 1)), (by first | rfl | (simp; done) | (simp [*]; done)), H', ⟨by have := HJ2.out; have := HK2.out; omega⟩, ⟨by (with_reducible repeat (first | apply Kd.R_alloc | apply Kd.R_drewN | apply Kd.R_drew)); exact HO_6.out⟩, ⟨by (with_reducible repeat (first | refine blk_drewN ?_ _ | refine blk_drew ?_ | refine blk_alloc ?_ _)); exact BK627.out⟩, ⟨by repeat (first | (with_reducible first | exact HB.out | apply below_alloc | apply pw_below_drewN | apply below_drew1 | refine below_set ?_ GE627.out) | exact HB.out)⟩⟩
              · rw [if_neg c18] at H
                exact absurd H (by simp)
            · rw [if_neg c16] at H
              have c16b0 : decide (x7_2 < (l0_0.length : Int)) = false := decide_eq_false c16
              clear c16
              replace H := Option.bind_eq_some_iff.mp H
              obtain ⟨⟨t633, t634⟩, A230, H⟩ := H
              replace H : ((euler_Circular.f k2 l0_0).bind fun bt635 => ((reset_Reset.f k2 l0_0).bind fun bt637 => ((short_Shortest.f k2 l0_0).bind fun bt641 => (if t634 = 0 then (if ((bt637.2 == 0) != (bt641.2 == 0)) = true then (mizmazetop_TopKari.j2 k2 a1 (l0_0.length : Int) x6_2 t633 bt635.2 bt637.2 bt641.1 true l0_0) else (if bt635.2 = 0 then (mizmazetop_TopKari.j2 k2 a1 (l0_0.length : Int) x6_2 t633 bt635.2 bt637.2 bt641.1 false l0_0) else (mizmazetop_TopKari.j2 k2 a1 (l0_0.length : Int) x6_2 t633 bt635.2 bt637.2 bt641.1 (bt635.2 != 4) l0_0))) else (mizmazetop_TopKari.j2 k2 a1 (l0_0.length : Int) x6_2 t633 bt635.2 bt637.2 bt641.1 true l0_0))))) = some r := H
              have A23 := Aside0.mk A230
              clear A230
              replace H := Option.bind_eq_some_iff.mp H
              obtain ⟨⟨t635, t636⟩, A240, H⟩ := H
              replace H : ((reset_Reset.f k2 l0_0).bind fun bt637 => ((short_Shortest.f k2 l0_0).bind fun bt641 => (if t634 = 0 then (if ((bt637.2 == 0) != (bt641.2 == 0)) = true then (mizmazetop_TopKari.j2 k2 a1 (l0_0.length : Int) x6_2 t633 t636 bt637.2 bt641.1 true l0_0) else (if t636 = 0 then (mizmazetop_TopKari.j2 k2 a1 (l0_0.length : Int) x6_2 t633 t636 bt637.2 bt641.1 false l0_0) else (mizmazetop_TopKari.j2 k2 a1 (l0_0.length : Int) x6_2 t633 t636 bt637.2 bt641.1 (t636 != 4) l0_0))) else (mizmazetop_TopKari.j2 k2 a1 (l0_0.length : Int) x6_2 t633 t636 bt637.2 bt641.1 true l0_0)))) = some r := H
              have A24 := Aside0.mk A240
              clear A240
              replace H := Option.bind_eq_some_iff.mp H
              obtain ⟨⟨t637, t640⟩, A250, H⟩ := H
              replace H : ((short_Shortest.f k2 l0_0).bind fun bt641 => (if t634 = 0 then (if ((t640 == 0) != (bt641.2 == 0)) = true then (mizmazetop_TopKari.j2 k2 a1 (l0_0.length : Int) x6_2 t633 t636 t640 bt641.1 true l0_0) else (if t636 = 0 then (mizmazetop_TopKari.j2 k2 a1 (l0_0.length : Int) x6_2 t633 t636 t640 bt641.1 false l0_0) else (mizmazetop_TopKari.j2 k2 a1 (l0_0.length : Int) x6_2 t633 t636 t640 bt641.1 (t636 != 4) l0_0))) else (mizmazetop_TopKari.j2 k2 a1 (l0_0.length : Int) x6_2 t633 t636 t640 bt641.1 true l0_0))) = some r := H
              have A25 := Aside0.mk A250
              clear A250
              replace H := Option.bind_eq_some_iff.mp H
              obtain ⟨⟨t641, t644⟩, A260, H⟩ := H
              replace H : (if t634 = 0 then (if ((t640 == 0) != (t644 == 0)) = true then (mizmazetop_TopKari.j2 k2 a1 (l0_0.length : Int) x6_2 t633 t636 t640 t641 true l0_0) else (if t636 = 0 then (mizmazetop_TopKari.j2 k2 a1 (l0_0.length : Int) x6_2 t633 t636 t640 t641 false l0_0) else (mizmazetop_TopKari.j2 k2 a1 (l0_0.length : Int) x6_2 t633 t636 t640 t641 (t636 != 4) l0_0))) else (mizmazetop_TopKari.j2 k2 a1 (l0_0.length : Int) x6_2 t633 t636 t640 t641 true l0_0)) = some r := H
              have A26 := Aside0.mk A260
              clear A260
              have HC27 := Aside0.mk H
              clear H
              have hcz28_0 : wr.cell? ⟨gb627, 0, none⟩ = some (.slice A0_0 l0_0.length c0_0) := (blk_cell BK627.out 0).trans rfl
              have hfz28_0 := blk_frozen BK627.out 0
              go_upto_region 14 with (first | ((with_reducible refine gate_callee (f := 9) rfl ?_); refine goesL_ (some 49) rfl rfl Try.func9 (by kernel_rfl) rfl #[.agg #[.slice A0_0 l0_0.length c0_0]] rfl (by (try simp only [List.map_toArray, List.map_cons, List.map_nil]); first | done | rfl | (simp only [List.length_drop, List.length_take]; rfl)) ?_; (with_reducible refine (euler_Eulerian.calls _ _ l0_0 t633 t634 _ ?side1 ?side2 A23.out).mono ?_); (case side1 => repeat (first | exact (Kd.C_below HR0_0.out HB.out) | (with_reducible refine Kd.C_alloc ?_ _) | (with_reducible refine Kd.C_drewN ?_ _) | (with_reducible refine Kd.C_drew ?_))); (case side2 => exact HC0_0.out); rintro e w29 ⟨rfl, hb⟩; refine ⟨_, rfl, ?_⟩; have n0_ := Aside0.mk (Kd.R_below (by (with_reducible repeat (first | apply Kd.R_alloc | apply Kd.R_drewN | apply Kd.R_drew)); exact HO_6.out) hb); have n1_ := Aside0.mk (blk_below (g := gb627) (o := .cells #[.slice A0_0 l0_0.length c0_0] 24 (0, 0)) (by (with_reducible repeat (first | refine blk_drewN ?_ _ | refine blk_drew ?_ | refine blk_alloc ?_ _)); exact BK627.out) hb); have n2_ := Aside0.mk (below_step (by repeat (first | (with_reducible first | exact HB.out | apply below_alloc | apply pw_below_drewN | apply below_drew1 | refine below_set ?_ GE627.out) | exact HB.out)) hb); clear HO_6; clear BK627; clear HB; have HO_6 := n0_; have BK627 := n1_; have HB := n2_; clear n0_ n1_ n2_; (try clear hb); (try clear hb2); (try clear hk); (try clear hi); have hcz30_0 : w29.cell? ⟨gb627, 0, none⟩ = some (.slice A0_0 l0_0.length c0_0) := (blk_cell BK627.out 0).trans rfl; have hfz30_0 := blk_frozen BK627.out 0) | ((with_reducible refine gate_callee (f := 10) rfl ?_); refine goesL_ (some 54) rfl rfl Try.func10 (by kernel_rfl) rfl #[.agg #[.slice A0_0 l0_0.length c0_0]] rfl (by (try simp only [List.map_toArray, List.map_cons, List.map_nil]); first | done | rfl | (simp only [List.length_drop, List.length_take]; rfl)) ?_; (with_reducible refine (euler_Circular.calls k2 _ _ l0_0 t635 t636 _ ?side1 ?side2 A24.out).mono ?_); (case side1 => repeat (first | exact (Kd.C_below HR0_0.out HB.out) | (with_reducible refine Kd.C_alloc ?_ _) | (with_reducible refine Kd.C_drewN ?_ _) | (with_reducible refine Kd.C_drew ?_))); (case side2 => exact HC0_0.out); rintro e w31 ⟨rfl, hb⟩; refine ⟨_, rfl, ?_⟩; have n0_ := Aside0.mk (Kd.R_below (by (with_reducible repeat (first | apply Kd.R_alloc | apply Kd.R_drewN | apply Kd.R_drew)); exact HO_6.out) hb); have n1_ := Aside0.mk (blk_below (g := gb627) (o := .cells #[.slice A0_0 l0_0.length c0_0] 24 (0, 0)) (by (with_reducible repeat (first | refine blk_drewN ?_ _ | refine blk_drew ?_ | refine blk_alloc ?_ _)); exact BK627.out) hb); have n2_ := Aside0.mk (below_step (by repeat (first | (with_reducible first | exact HB.out | apply below_alloc | apply pw_below_drewN | apply below_drew1 | refine below_set ?_ GE627.out) | exact HB.out)) hb); clear HO_6; clear BK627; clear HB; have HO_6 := n0_; have BK627 := n1_; have HB := n2_; clear n0_ n1_ n2_; (try clear hb); (try clear hb2); (try clear hk); (try clear hi); have hcz32_0 : w31.cell? ⟨gb627, 0, none⟩ = some (.slice A0_0 l0_0.length c0_0) := (blk_cell BK627.out 0).trans rfl; have hfz32_0 := blk_frozen BK627.out 0) | ((with_reducible refine gate_callee (f := 21) rfl ?_); refine goesL_ (some 59) rfl rfl Try.func21 (by kernel_rfl) rfl #[.agg #[.slice A0_0 l0_0.length c0_0]] rfl (by (try simp only [List.map_toArray, List.map_cons, List.map_nil]); first | done | rfl | (simp only [List.length_drop, List.length_take]; rfl)) ?_; (with_reducible refine (reset_Reset.calls k2 _ _ l0_0 t637 t640 _ ?side1 ?side2 A25.out).mono ?_); (case side1 => repeat (first | exact (Kd.C_below HR0_0.out HB.out) | (with_reducible refine Kd.C_alloc ?_ _) | (with_reducible refine Kd.C_drewN ?_ _) | (with_reducible refine Kd.C_drew ?_))); (case side2 => exact HC0_0.out); rintro e w33 ⟨v638, rfl, ho0, hb⟩; refine ⟨_, rfl, ?_⟩; have n0_ := Aside0.mk (Kd.R_elder' (by (with_reducible repeat (first | apply Kd.R_alloc | apply Kd.R_drewN | apply Kd.R_drew)); exact HO_6.out) (Kd.R_base ho0) hb); have n1_ := Aside0.mk (Kd.R_lower (Kd.R_new' ho0 (Kd.R_lt (by (with_reducible repeat (first | apply Kd.R_alloc | apply Kd.R_drewN | apply Kd.R_drew)); exact HO_6.out))) (below_size (by repeat (first | (with_reducible first | exact HB.out | apply below_alloc | apply pw_below_drewN | apply below_drew1 | refine below_set ?_ GE627.out) | exact HB.out)))); have n2_ := Aside0.mk (blk_below (g := gb627) (o := .cells #[.slice A0_0 l0_0.length c0_0] 24 (0, 0)) (by (with_reducible repeat (first | refine blk_drewN ?_ _ | refine blk_drew ?_ | refine blk_alloc ?_ _)); exact BK627.out) hb); have n3_ := Aside0.mk (below_step (by repeat (first | (with_reducible first | exact HB.out | apply below_alloc | apply pw_below_drewN | apply below_drew1 | refine below_set ?_ GE627.out) | exact HB.out)) hb); clear HO_6; clear BK627; clear HB; have HO_6 := n0_; have HO639 := n1_; have BK627 := n2_; have HB := n3_; clear n0_ n1_ n2_ n3_; (try clear hb); (try clear hb2); (try clear hk); (try clear hi); (try clear ho0); have hcz34_0 : w33.cell? ⟨gb627, 0, none⟩ = some (.slice A0_0 l0_0.length c0_0) := (blk_cell BK627.out 0).trans rfl; have hfz34_0 := blk_frozen BK627.out 0) | ((with_reducible refine gate_callee (f := 26) rfl ?_); refine goesL_ (some 64) rfl rfl Try.func26 (by kernel_rfl) rfl #[.agg #[.slice A0_0 l0_0.length c0_0]] rfl (by (try simp only [List.map_toArray, List.map_cons, List.map_nil]); first | done | rfl | (simp only [List.length_drop, List.length_take]; rfl)) ?_; (with_reducible refine (short_Shortest.calls k2 _ _ l0_0 t641 t644 _ ?side1 ?side2 A26.out).mono ?_); (case side1 => repeat (first | exact (Kd.C_below HR0_0.out HB.out) | (with_reducible refine Kd.C_alloc ?_ _) | (with_reducible refine Kd.C_drewN ?_ _) | (with_reducible refine Kd.C_drew ?_))); (case side2 => exact HC0_0.out); rintro e w35 ⟨v642, rfl, ho0, hb⟩; refine ⟨_, rfl, ?_⟩; have n0_ := Aside0.mk (Kd.R_elder' (by (with_reducible repeat (first | apply Kd.R_alloc | apply Kd.R_drewN | apply Kd.R_drew)); exact HO_6.out) (Kd.R_base ho0) hb); have n1_ := Aside0.mk (Kd.R_elder' (by (with_reducible repeat (first | apply Kd.R_alloc | apply Kd.R_drewN | apply Kd.R_drew)); exact HO639.out) (Kd.R_base ho0) hb); have n2_ := Aside0.mk (Kd.R_lower (Kd.R_new' (Kd.R_new' ho0 (Kd.R_lt (by (with_reducible repeat (first | apply Kd.R_alloc | apply Kd.R_drewN | apply Kd.R_drew)); exact HO_6.out))) (Kd.R_lt (by (with_reducible repeat (first | apply Kd.R_alloc | apply Kd.R_drewN | apply Kd.R_drew)); exact HO639.out))) (below_size (by repeat (first | (with_reducible first | exact HB.out | apply below_alloc | apply pw_below_drewN | apply below_drew1 | refine below_set ?_ GE627.out) | exact HB.out)))); have n3_ := Aside0.mk (blk_below (g := gb627) (o := .cells #[.slice A0_0 l0_0.length c0_0] 24 (0, 0)) (by (with_reducible repeat (first | refine blk_drewN ?_ _ | refine blk_drew ?_ | refine blk_alloc ?_ _)); exact BK627.out) hb); have n4_ := Aside0.mk (below_step (by repeat (first | (with_reducible first | exact HB.out | apply below_alloc | apply pw_below_drewN | apply below_drew1 | refine below_set ?_ GE627.out) | exact HB.out)) hb); clear HO_6; clear HO639; clear BK627; clear HB; have HO_6 := n0_; have HO639 := n1_; have HO643 := n2_; have BK627 := n3_; have HB := n4_; clear n0_ n1_ n2_ n3_ n4_; (try clear hb); (try clear hb2); (try clear hk); (try clear hi); (try clear ho0)))
              (try simp only [Act.put, List.setIfInBounds_toArray, List.set_cons_zero, List.set_cons_succ])
              go_cut [83] (fun v83 wc => ∃ (kq : Nat) (x83_26 : Bool), v83 = .bool x83_26 ∧ Aside0 (mizmazetop_TopKari.j2 kq a1 (l0_0.length : Int) x6_2 t633 t636 t640 t641 x83_26 l0_0 = some r) ∧ Aside0 (kq ≤ k2) ∧ Aside0 (Kd.R (Kd.int .i64) 3 wc w.heap.size (fun k_ => some k_ ≠ (v642 : Value).ownBlock) u6 x6_2) ∧ Aside0 (Kd.R (Kd.int .i64) 3 wc w.heap.size (fun k_ => some k_ ≠ (u6 : Value).ownBlock) v642 t641) ∧ Aside0 (wc.heap[gb627]? = some (.cells #[(.slice A0_0 l0_0.length c0_0)] 24 (0, 0))) ∧ Aside0 (Below w.heap.size w wc))
              case first => as_aux_lemma =>
                have H := HC27.out
                clear HC27
                by_cases c36 : t634 = 0
                · rw [if_pos c36] at H
                  have c36b0 : (t634 == 0) = true := beq_iff_eq.mpr c36
                  have c36b1 : (t634 != 0) = false := bne_eq_false_iff_eq.mpr c36
                  clear c36
                  (first | rw [c36b0] | (simp only [i64_w, i32_w]; rw [c36b0]) | skip)
                  by_cases c37 : ((t640 == 0) != (t644 == 0)) = true
                  · rw [if_pos c37] at H
                    have c37b0 : ((t640 == 0) != (t644 == 0)) = true := c37
                    (try (have c37b1 : decide ((t640 == 0) = (t644 == 0)) = false := by simpa using c37))
                    (try (have c37b2 : ((t640 == 0) == (t644 == 0)) = false := by simpa using c37))
                    (try (have c37b3 : ¬ ((t640 == 0) = (t644 == 0)) := by simpa using c37))
                    clear c37
                    have H' := Aside0.mk H
                    clear H
                    go_wp2
                    go_meet
                    case rel => exact ⟨_, (true), (by first | rfl | (simp; done) | (simp [*]; done)), H', ⟨by have := HJ2.out; have := HK2.out; first | omega | exact Nat.le_refl _⟩, ⟨by (with_reducible repeat (first | apply Kd.R_alloc | apply Kd.R_drewN | apply Kd.R_drew)); exact Kd.R_mono HO_6.out (fun _ hk => hk.2)⟩, ⟨by (with_reducible repeat (first | apply Kd.R_alloc | apply Kd.R_drewN | apply Kd.R_drew)); exact Kd.R_mono HO643.out (fun _ hk => hk.1.2)⟩, ⟨by (with_reducible repeat (first | refine blk_drewN ?_ _ | refine blk_drew ?_ | refine blk_alloc ?_ _)); exact BK627.out⟩, ⟨by repeat (first | (with_reducible first | exact HB.out | apply below_alloc | apply pw_below_drewN | apply below_drew1 | refine below_set ?_ GE627.out) | exact HB.out)⟩⟩
                  · rw [if_neg c37] at H
                    have c37b0 : ((t640 == 0) != (t644 == 0)) = false := by simpa using c37
                    (try (have c37b1 : decide ((t640 == 0) = (t644 == 0)) = true := by simpa using c37))
                    (try (have c37b2 : ((t640 == 0) == (t644 == 0)) = true := by simpa using c37))
                    clear c37
                    by_cases c38 : t636 = 0
                    · rw [if_pos c38] at H
                      have c38b0 : (t636 == 0) = true := beq_iff_eq.mpr c38
                      have c38b1 : (t636 != 0) = false := bne_eq_false_iff_eq.mpr c38
                      clear c38
                      have H' := Aside0.mk H
                      clear H
                      go_wp2
                      go_meet
                      case rel => exact ⟨_, (false), (by first | rfl | (simp; done) | (simp [*]; done)), H', ⟨by have := HJ2.out; have := HK2.out; first | omega | exact Nat.le_refl _⟩, ⟨by (with_reducible repeat (first | apply Kd.R_alloc | apply Kd.R_drewN | apply Kd.R_drew)); exact Kd.R_mono HO_6.out (fun _ hk => hk.2)⟩, ⟨by (with_reducible repeat (first | apply Kd.R_alloc | apply Kd.R_drewN | apply Kd.R_drew)); exact Kd.R_mono HO643.out (fun _ hk => hk.1.2)⟩, ⟨by (with_reducible repeat (first | refine blk_drewN ?_ _ | refine blk_drew ?_ | refine blk_alloc ?_ _)); exact BK627.out⟩, ⟨by repeat (first | (with_reducible first | exact HB.out | apply below_alloc | apply pw_below_drewN | apply below_drew1 | refine below_set ?_ GE627.out) | exact HB.out)⟩⟩
                    · rw [if_neg c38] at H
                      have c38b0 : (t636 == 0) = false := beq_eq_false_iff_ne.mpr c38
                      have c38b1 : (t636 != 0) = true := bne_iff_ne.mpr c38
                      have H' := Aside0.mk H
                      clear H
                      go_wp2
                      go_meet
                      case rel => exact ⟨_, ((t636 != 4)), (by first | rfl | (simp; done) | (simp [*]; done)), H', ⟨by have := HJ2.out; have := HK2.out; first | omega | exact Nat.le_refl _⟩, ⟨by (with_reducible repeat (first | apply Kd.R_alloc | apply Kd.R_drewN | apply Kd.R_drew)); exact Kd.R_mono HO_6.out (fun _ hk => hk.2)⟩, ⟨by (with_reducible repeat (first | apply Kd.R_alloc | apply Kd.R_drewN | apply Kd.R_drew)); exact Kd.R_mono HO643.out (fun _ hk => hk.1.2)⟩, ⟨by (with_reducible repeat (first | refine blk_drewN ?_ _ | refine blk_drew ?_ | refine blk_alloc ?_ _)); exact BK627.out⟩, ⟨by repeat (first | (with_reducible first | exact HB.out | apply below_alloc | apply pw_below_drewN | apply below_drew1 | refine below_set ?_ GE627.out) | exact HB.out)⟩⟩
                · rw [if_neg c36] at H
                  have c36b0 : (t634 == 0) = false := beq_eq_false_iff_ne.mpr c36
                  have c36b1 : (t634 != 0) = true := bne_iff_ne.mpr c36
                  (first | rw [c36b0] | (simp only [i64_w, i32_w]; rw [c36b0]) | skip)
                  have H' := Aside0.mk H
                  clear H
                  go_wp2
                  go_meet
                  case rel => exact ⟨_, (true), (by first | rfl | (simp; done) | (simp [*]; done)), H', ⟨by have := HJ2.out; have := HK2.out; first | omega | exact Nat.le_refl _⟩, ⟨by (with_reducible repeat (first | apply Kd.R_alloc | apply Kd.R_drewN | apply Kd.R_drew)); exact Kd.R_mono HO_6.out (fun _ hk => hk.2)⟩, ⟨by (with_reducible repeat (first | apply Kd.R_alloc | apply Kd.R_drewN | apply Kd.R_drew)); exact Kd.R_mono HO643.out (fun _ hk => hk.1.2)⟩, ⟨by (with_reducible repeat (first | refine blk_drewN ?_ _ | refine blk_drew ?_ | refine blk_alloc ?_ _)); exact BK627.out⟩, ⟨by repeat (first | (with_reducible first | exact HB.out | apply below_alloc | apply pw_below_drewN | apply below_drew1 | refine below_set ?_ GE627.out) | exact HB.out)⟩⟩
              case rest => as_aux_lemma =>
                clear HC27
                try clear c1
                try clear c2
                try clear p2
                try clear c3
                try clear c6
                try clear p6
                try clear c8
                try clear c9
                try clear c10
                try clear c12
                try clear c16
                try clear c16b0
                try clear c18
                try clear c18b0
                try clear c18b1
                try clear c20
                try clear c20b0
                try clear c20b1
                try clear c21
                try clear c26
                try clear c27
                try clear c28
                try clear c36
                try clear c36b0
                try clear c36b1
                try clear c37
                try clear c37b0
                try clear c37b1
                try clear c37b2
                try clear c38
                try clear c38b0
                try clear c38b1
                try clear hcz10_0
                try clear hcz15_0
                try clear hcz28_0
                try clear hcz30_0
                try clear hcz32_0
                try clear hcz34_0
                try clear hcz7_0
                try clear hcz9_0
                try clear hfz10_0
                try clear hfz15_0
                try clear hfz28_0
                try clear hfz30_0
                try clear hfz32_0
                try clear hfz34_0
                try clear hfz7_0
                try clear hfz9_0
                try clear p2
                obtain ⟨kq, x83_26, rfl, HA, HJ26, HO_6, HO_14, BK627, HB⟩ := hcut
                cases kq with
                | zero => exact absurd HA.out (by simp [mizmazetop_TopKari.j2])
                | succ kj26 =>
                  have H := HA.out
                  clear HA
                  simp only [mizmazetop_TopKari.j2] at H
                  by_cases c39 : x83_26 = true
                  · subst c39
                    have H1 : (none) = some r := by rw [if_pos rfl] at H; exact H
                    clear H
                    have H := H1
                    clear H1
                    exact absurd H (by simp)
                  · replace c39 := Bool.eq_false_iff.mpr c39
                    subst c39
                    have H1 : (if t640 = 0 then (if t633 = true then (if (t641.length : Int) > (wrap64 ((wrap64 ((wrap64 ((l0_0.length : Int) * (l0_0.length : Int))) - (wrap64 (3 * (l0_0.length : Int))))) + 3)) then (mizmazetop_TopKari.j3 kj26 a1 (l0_0.length : Int) x6_2 t633 true l0_0) else (if t636 = 0 then (if (t641.length : Int) > (wrap64 ((wrap64 ((l0_0.length : Int) - 1)) * (wrap64 ((l0_0.length : Int) - 1)))) then (mizmazetop_TopKari.j3 kj26 a1 (l0_0.length : Int) x6_2 t633 true l0_0) else (mizmazetop_TopKari.j3 kj26 a1 (l0_0.length : Int) x6_2 t633 (decide ((wrap64 (6 * (t641.length : Int))) > (wrap64 ((wrap64 ((wrap64 ((l0_0.length : Int) * (l0_0.length : Int))) * (l0_0.length : Int))) - (l0_0.length : Int))))) l0_0)) else (mizmazetop_TopKari.j3 kj26 a1 (l0_0.length : Int) x6_2 t633 (decide ((wrap64 (6 * (t641.length : Int))) > (wrap64 ((wrap64 ((wrap64 ((l0_0.length : Int) * (l0_0.length : Int))) * (l0_0.length : Int))) - (l0_0.length : Int))))) l0_0))) else (if t636 = 0 then (if (t641.length : Int) > (wrap64 ((wrap64 ((l0_0.length : Int) - 1)) * (wrap64 ((l0_0.length : Int) - 1)))) then (mizmazetop_TopKari.j3 kj26 a1 (l0_0.length : Int) x6_2 t633 true l0_0) else (mizmazetop_TopKari.j3 kj26 a1 (l0_0.length : Int) x6_2 t633 (decide ((wrap64 (6 * (t641.length : Int))) > (wrap64 ((wrap64 ((wrap64 ((l0_0.length : Int) * (l0_0.length : Int))) * (l0_0.length : Int))) - (l0_0.length : Int))))) l0_0)) else (mizmazetop_TopKari.j3 kj26 a1 (l0_0.length : Int) x6_2 t633 (decide ((wrap64 (6 * (t641.length : Int))) > (wrap64 ((wrap64 ((wrap64 ((l0_0.length : Int) * (l0_0.length : Int))) * (l0_0.length : Int))) - (l0_0.length : Int))))) l0_0))) else ((mizmazetop_balances.f kj26).bind fun t645 => (some t645))) = some r := by rw [if_neg (show ¬ (false = true) by decide)] at H; exact H
                    clear H
                    have H := H1
                    clear H1
                    by_cases c40 : t640 = 0
                    · rw [if_pos c40] at H
                      have c40b0 : (t640 == 0) = true := beq_iff_eq.mpr c40
                      have c40b1 : (t640 != 0) = false := bne_eq_false_iff_eq.mpr c40
                      clear c40
                      have HC41 := Aside0.mk H
                      clear H
                      go_upto_region 18 with (fail)
                      go_cut [126] (fun v126 wc => ∃ (kq : Nat) (x126_40 : Bool), v126 = .bool x126_40 ∧ Aside0 (mizmazetop_TopKari.j3 kq a1 (l0_0.length : Int) x6_2 t633 x126_40 l0_0 = some r) ∧ Aside0 (kq ≤ kj26) ∧ Aside0 (Kd.R (Kd.int .i64) 3 wc w.heap.size (fun _ => True) u6 x6_2) ∧ Aside0 (wc.heap[gb627]? = some (.cells #[(.slice A0_0 l0_0.length c0_0)] 24 (0, 0))) ∧ Aside0 (Below w.heap.size w wc))
                      case first => as_aux_lemma =>
                        have H := HC41.out
                        clear HC41
                        by_cases c42 : t633 = true
                        · subst c42
                          have H1 : (if (t641.length : Int) > (wrap64 ((wrap64 ((wrap64 ((l0_0.length : Int) * (l0_0.length : Int))) - (wrap64 (3 * (l0_0.length : Int))))) + 3)) then (mizmazetop_TopKari.j3 kj26 a1 (l0_0.length : Int) x6_2 true true l0_0) else (if t636 = 0 then (if (t641.length : Int) > (wrap64 ((wrap64 ((l0_0.length : Int) - 1)) * (wrap64 ((l0_0.length : Int) - 1)))) then (mizmazetop_TopKari.j3 kj26 a1 (l0_0.length : Int) x6_2 true true l0_0) else (mizmazetop_TopKari.j3 kj26 a1 (l0_0.length : Int) x6_2 true (decide ((wrap64 (6 * (t641.length : Int))) > (wrap64 ((wrap64 ((wrap64 ((l0_0.length : Int) * (l0_0.length : Int))) * (l0_0.length : Int))) - (l0_0.length : Int))))) l0_0)) else (mizmazetop_TopKari.j3 kj26 a1 (l0_0.length : Int) x6_2 true (decide ((wrap64 (6 * (t641.length : Int))) > (wrap64 ((wrap64 ((wrap64 ((l0_0.length : Int) * (l0_0.length : Int))) * (l0_0.length : Int))) - (l0_0.length : Int))))) l0_0))) = some r := by rw [if_pos rfl] at H; exact H
                          clear H
                          have H := H1
                          clear H1
                          by_cases c43 : (t641.length : Int) > (wrap64 ((wrap64 ((wrap64 ((l0_0.length : Int) * (l0_0.length : Int))) - (wrap64 (3 * (l0_0.length : Int))))) + 3))
                          · rw [if_pos c43] at H
                            have c43b0 : decide ((wrap64 ((wrap64 ((wrap64 ((l0_0.length : Int) * (l0_0.length : Int))) - (wrap64 (3 * (l0_0.length : Int))))) + 3)) < (t641.length : Int)) = true := decide_eq_true c43
                            clear c43
                            (first | rw [c43b0] | (simp only [i64_w, i32_w]; rw [c43b0]) | skip)
                            have H' := Aside0.mk H
                            clear H
                            obtain ⟨Ao44, co44, eo44⟩ := Kd.R_slice HO_14.out
                            subst eo44
                            go_wp2
                            go_meet
                            case rel => exact ⟨_, (true), (by first | rfl | (simp; done) | (simp [*]; done)), H', ⟨by have := HJ2.out; have := HK2.out; have := HJ26.out; first | omega | exact Nat.le_refl _⟩, ⟨by (with_reducible repeat (first | apply Kd.R_alloc | apply Kd.R_drewN | apply Kd.R_drew)); exact Kd.R_mono HO_6.out (fun _ hk => trivial)⟩, ⟨by (with_reducible repeat (first | refine blk_drewN ?_ _ | refine blk_drew ?_ | refine blk_alloc ?_ _)); exact BK627.out⟩, ⟨by repeat (first | (with_reducible first | exact HB.out | apply below_alloc | apply pw_below_drewN | apply below_drew1 | refine below_set ?_ GE627.out) | exact HB.out)⟩⟩
                          · rw [if_neg c43] at H
                            have c43b0 : decide ((wrap64 ((wrap64 ((wrap64 ((l0_0.length : Int) * (l0_0.length : Int))) - (wrap64 (3 * (l0_0.length : Int))))) + 3)) < (t641.length : Int)) = false := decide_eq_false c43
                            clear c43
                            (first | rw [c43b0] | (simp only [i64_w, i32_w]; rw [c43b0]) | skip)
                            by_cases c45 : t636 = 0
                            · rw [if_pos c45] at H
                              have c45b0 : (t636 == 0) = true := beq_iff_eq.mpr c45
                              have c45b1 : (t636 != 0) = false := bne_eq_false_iff_eq.mpr c45
                              clear c45
                              by_cases c46 : (t641.length : Int) > (wrap64 ((wrap64 ((l0_0.length : Int) - 1)) * (wrap64 ((l0_0.length : Int) - 1))))
                              · rw [if_pos c46] at H
                                have c46b0 : decide ((wrap64 ((wrap64 ((l0_0.length : Int) - 1)) * (wrap64 ((l0_0.length : Int) - 1)))) < (t641.length : Int)) = true := decide_eq_true c46
                                clear c46
                                have H' := Aside0.mk H
                                clear H
                                obtain ⟨Ao47, co47, eo47⟩ := Kd.R_slice HO_14.out
                                subst eo47
                                go_wp2
                                go_meet
                                case rel => exact ⟨_, (true), (by first | rfl | (simp; done) | (simp [*]; done)), H', ⟨by have := HJ2.out; have := HK2.out; have := HJ26.out; first | omega | exact Nat.le_refl _⟩, ⟨by (with_reducible repeat (first | apply Kd.R_alloc | apply Kd.R_drewN | apply Kd.R_drew)); exact Kd.R_mono HO_6.out (fun _ hk => trivial)⟩, ⟨by (with_reducible repeat (first | refine blk_drewN ?_ _ | refine blk_drew ?_ | refine blk_alloc ?_ _)); exact BK627.out⟩, ⟨by repeat (first | (with_reducible first | exact HB.out | apply below_alloc | apply pw_below_drewN | apply below_drew1 | refine below_set ?_ GE627.out) | exact HB.out)⟩⟩
                              · rw [if_neg c46] at H
                                have c46b0 : decide ((wrap64 ((wrap64 ((l0_0.length : Int) - 1)) * (wrap64 ((l0_0.length : Int) - 1)))) < (t641.length : Int)) = false := decide_eq_false c46
                                clear c46
                                have H' := Aside0.mk H
                                clear H
                                obtain ⟨Ao48, co48, eo48⟩ := Kd.R_slice HO_14.out
                                subst eo48
                                go_wp2
                                go_meet
                                case rel => exact ⟨_, (decide ((wrap64 (6 * (t641.length : Int))) > (wrap64 ((wrap64 ((wrap64 ((l0_0.length : Int) * (l0_0.length : Int))) * (l0_0.length : Int))) - (l0_0.length : Int))))), (by first | rfl | (simp; done) | (simp [*]; done)), H', ⟨by have := HJ2.out; have := HK2.out; have := HJ26.out; first | omega | exact Nat.le_refl _⟩, ⟨by (with_reducible repeat (first | apply Kd.R_alloc | apply Kd.R_drewN | apply Kd.R_drew)); exact Kd.R_mono HO_6.out (fun _ hk => trivial)⟩, ⟨by (with_reducible repeat (first | refine blk_drewN ?_ _ | refine blk_drew ?_ | refine blk_alloc ?_ _)); exact BK627.out⟩, ⟨by repeat (first | (with_reducible first | exact HB.out | apply below_alloc | apply pw_below_drewN | apply below_drew1 | refine below_set ?_ GE627.out) | exact HB.out)⟩⟩
                            · rw [if_neg c45] at H
                              have c45b0 : (t636 == 0) = false := beq_eq_false_iff_ne.mpr c45
                              have c45b1 : (t636 != 0) = true := bne_iff_ne.mpr c45
                              have H' := Aside0.mk H
                              clear H
                              obtain ⟨Ao49, co49, eo49⟩ := Kd.R_slice HO_14.out
                              subst eo49
                              go_wp2
                              go_meet
                              case rel => exact ⟨_, (decide ((wrap64 (6 * (t641.length : Int))) > (wrap64 ((wrap64 ((wrap64 ((l0_0.length : Int) * (l0_0.length : Int))) * (l0_0.length : Int))) - (l0_0.length : Int))))), (by first | rfl | (simp; done) | (simp [*]; done)), H', ⟨by have := HJ2.out; have := HK2.out; have := HJ26.out; first | omega | exact Nat.le_refl _⟩, ⟨by (with_reducible repeat (first | apply Kd.R_alloc | apply Kd.R_drewN | apply Kd.R_drew)); exact Kd.R_mono HO_6.out (fun _ hk => trivial)⟩, ⟨by (with_reducible repeat (first | refine blk_drewN ?_ _ | refine blk_drew ?_ | refine blk_alloc ?_ _)); exact BK627.out⟩, ⟨by repeat (first | (with_reducible first | exact HB.out | apply below_alloc | apply pw_below_drewN | apply below_drew1 | refine below_set ?_ GE627.out) | exact HB.out)⟩⟩
                        · replace c42 := Bool.eq_false_iff.mpr c42
                          subst c42
                          have H1 : (if t636 = 0 then (if (t641.length : Int) > (wrap64 ((wrap64 ((l0_0.length : Int) - 1)) * (wrap64 ((l0_0.length : Int) - 1)))) then (mizmazetop_TopKari.j3 kj26 a1 (l0_0.length : Int) x6_2 false true l0_0) else (mizmazetop_TopKari.j3 kj26 a1 (l0_0.length : Int) x6_2 false (decide ((wrap64 (6 * (t641.length : Int))) > (wrap64 ((wrap64 ((wrap64 ((l0_0.length : Int) * (l0_0.length : Int))) * (l0_0.length : Int))) - (l0_0.length : Int))))) l0_0)) else (mizmazetop_TopKari.j3 kj26 a1 (l0_0.length : Int) x6_2 false (decide ((wrap64 (6 * (t641.length : Int))) > (wrap64 ((wrap64 ((wrap64 ((l0_0.length : Int) * (l0_0.length : Int))) * (l0_0.length : Int))) - (l0_0.length : Int))))) l0_0)) = some r := by rw [if_neg (show ¬ (false = true) by decide)] at H; exact H
                          clear H
                          have H := H1
                          clear H1
                          by_cases c50 : t636 = 0
                          · rw [if_pos c50] at H
                            have c50b0 : (t636 == 0) = true := beq_iff_eq.mpr c50
                            have c50b1 : (t636 != 0) = false := bne_eq_false_iff_eq.mpr c50
                            clear c50
                            by_cases c51 : (t641.length : Int) > (wrap64 ((wrap64 ((l0_0.length : Int) - 1)) * (wrap64 ((l0_0.length : Int) - 1))))
                            · rw [if_pos c51] at H
                              have c51b0 : decide ((wrap64 ((wrap64 ((l0_0.length : Int) - 1)) * (wrap64 ((l0_0.length : Int) - 1)))) < (t641.length : Int)) = true := decide_eq_true c51
                              clear c51
                              have H' := Aside0.mk H
                              clear H
                              obtain ⟨Ao52, co52, eo52⟩ := Kd.R_slice HO_14.out
                              subst eo52
                              go_wp2
                              go_meet
                              case rel => exact ⟨_, (true), (by first | rfl | (simp; done) | (simp [*]; done)), H', ⟨by have := HJ2.out; have := HK2.out; have := HJ26.out; first | omega | exact Nat.le_refl _⟩, ⟨by (with_reducible repeat (first | apply Kd.R_alloc | apply Kd.R_drewN | apply Kd.R_drew)); exact Kd.R_mono HO_6.out (fun _ hk => trivial)⟩, ⟨by (with_reducible repeat (first | refine blk_drewN ?_ _ | refine blk_drew ?_ | refine blk_alloc ?_ _)); exact BK627.out⟩, ⟨by repeat (first | (with_reducible first | exact HB.out | apply below_alloc | apply pw_below_drewN | apply below_drew1 | refine below_set ?_ GE627.out) | exact HB.out)⟩⟩
                            · rw [if_neg c51] at H
                              have c51b0 : decide ((wrap64 ((wrap64 ((l0_0.length : Int) - 1)) * (wrap64 ((l0_0.length : Int) - 1)))) < (t641.length : Int)) = false := decide_eq_false c51
                              clear c51
                              have H' := Aside0.mk H
                              clear H
                              obtain ⟨Ao53, co53, eo53⟩ := Kd.R_slice HO_14.out
                              subst eo53
                              go_wp2
                              go_meet
                              case rel => exact ⟨_, (decide ((wrap64 (6 * (t641.length : Int))) > (wrap64 ((wrap64 ((wrap64 ((l0_0.length : Int) * (l0_0.length : Int))) * (l0_0.length : Int))) - (l0_0.length : Int))))), (by first | rfl | (simp; done) | (simp [*]; done)), H', ⟨by have := HJ2.out; have := HK2.out; have := HJ26.out; first | omega | exact Nat.le_refl _⟩, ⟨by (with_reducible repeat (first | apply Kd.R_alloc | apply Kd.R_drewN | apply Kd.R_drew)); exact Kd.R_mono HO_6.out (fun _ hk => trivial)⟩, ⟨by (with_reducible repeat (first | refine blk_drewN ?_ _ | refine blk_drew ?_ | refine blk_alloc ?_ _)); exact BK627.out⟩, ⟨by repeat (first | (with_reducible first | exact HB.out | apply below_alloc | apply pw_below_drewN | apply below_drew1 | refine below_set ?_ GE627.out) | exact HB.out)⟩⟩
                          · rw [if_neg c50] at H
                            have c50b0 : (t636 == 0) = false := beq_eq_false_iff_ne.mpr c50
                            have c50b1 : (t636 != 0) = true := bne_iff_ne.mpr c50
                            have H' := Aside0.mk H
                            clear H
                            obtain ⟨Ao54, co54, eo54⟩ := Kd.R_slice HO_14.out
                            subst eo54
                            go_wp2
                            go_meet
                            case rel => exact ⟨_, (decide ((wrap64 (6 * (t641.length : Int))) > (wrap64 ((wrap64 ((wrap64 ((l0_0.length : Int) * (l0_0.length : Int))) * (l0_0.length : Int))) - (l0_0.length : Int))))), (by first | rfl | (simp; done) | (simp [*]; done)), H', ⟨by have := HJ2.out; have := HK2.out; have := HJ26.out; first | omega | exact Nat.le_refl _⟩, ⟨by (with_reducible repeat (first | apply Kd.R_alloc | apply Kd.R_drewN | apply Kd.R_drew)); exact Kd.R_mono HO_6.out (fun _ hk => trivial)⟩, ⟨by (with_reducible repeat (first | refine blk_drewN ?_ _ | refine blk_drew ?_ | refine blk_alloc ?_ _)); exact BK627.out⟩, ⟨by repeat (first | (with_reducible first | exact HB.out | apply below_alloc | apply pw_below_drewN | apply below_drew1 | refine below_set ?_ GE627.out) | exact HB.out)⟩⟩
                      case rest => as_aux_lemma =>
                        clear HC41
                        try clear c1
                        try clear c2
                        try clear p2
                        try clear c3
                        try clear c4
                        try clear c5
                        try clear c6
                        try clear p6
                        try clear c8
                        try clear c9
                        try clear c10
                        try clear c12
                        try clear c16
                        try clear c16b0
                        try clear c18
                        try clear c18b0
                        try clear c18b1
                        try clear c20
                        try clear c20b0
                        try clear c20b1
                        try clear c21
                        try clear c26
                        try clear c27
                        try clear c28
                        try clear c36
                        try clear c36b0
                        try clear c36b1
                        try clear c37
                        try clear c37b0
                        try clear c37b1
                        try clear c37b2
                        try clear c38
                        try clear c38b0
                        try clear c38b1
                        try clear c39
                        try clear c40
                        try clear c40b0
                        try clear c40b1
                        try clear c42
                        try clear c43
                        try clear c43b0
                        try clear c45
                        try clear c45b0
                        try clear c45b1
                        try clear c46
                        try clear c46b0
                        try clear c50
                        try clear c50b0
                        try clear c50b1
                        try clear c51
                        try clear c51b0
                        try clear hcz10_0
                        try clear hcz15_0
                        try clear hcz28_0
                        try clear hcz30_0
                        try clear hcz32_0
                        try clear hcz34_0
                        try clear hcz7_0
                        try clear hcz9_0
                        try clear hfz10_0
                        try clear hfz15_0
                        try clear hfz28_0
                        try clear hfz30_0
                        try clear hfz32_0
                        try clear hfz34_0
                        try clear hfz7_0
                        try clear hfz9_0
                        try clear p2
                        try clear p6
                        obtain ⟨kq, x126_40, rfl, HA, HJ40, HO_6, BK627, HB⟩ := hcut
                        cases kq with
                        | zero => exact absurd HA.out (by simp [mizmazetop_TopKari.j3])
                        | succ kj40 =>
                          have H := HA.out
                          clear HA
                          simp only [mizmazetop_TopKari.j3] at H
                          by_cases c55 : x126_40 = true
                          · subst c55
                            have H1 : (none) = some r := by rw [if_pos rfl] at H; exact H
                            clear H
                            have H := H1
                            clear H1
                            exact absurd H (by simp)
                          · replace c55 := Bool.eq_false_iff.mpr c55
                            subst c55
                            have H1 : (if t633 = true then (if (x6_2.length : Int) = 0 then (mizmazetop_TopKari.j4 kj40 a1 (l0_0.length : Int) x6_2 true l0_0) else (mizmazetop_TopKari.j4 kj40 a1 (l0_0.length : Int) x6_2 ((x6_2.length : Int) == (l0_0.length : Int)) l0_0)) else (mizmazetop_TopKari.j4 kj40 a1 (l0_0.length : Int) x6_2 true l0_0)) = some r := by rw [if_neg (show ¬ (false = true) by decide)] at H; exact H
                            clear H
                            have H := H1
                            clear H1
                            have HC56 := Aside0.mk H
                            clear H
                            go_upto_region 20 with (fail)
                            go_cut [139] (fun v139 wc => ∃ (kq : Nat) (x139_55 : Bool), v139 = .bool x139_55 ∧ Aside0 (mizmazetop_TopKari.j4 kq a1 (l0_0.length : Int) x6_2 x139_55 l0_0 = some r) ∧ Aside0 (kq ≤ kj40) ∧ Aside0 (Kd.R (Kd.int .i64) 3 wc w.heap.size (fun _ => True) u6 x6_2) ∧ Aside0 (wc.heap[gb627]? = some (.cells #[(.slice A0_0 l0_0.length c0_0)] 24 (0, 0))) ∧ Aside0 (Below w.heap.size w wc))
                            case first => as_aux_lemma =>
                              have H := HC56.out
                              clear HC56
                              by_cases c57 : t633 = true
                              · subst c57
                                have H1 : (if (x6_2.length : Int) = 0 then (mizmazetop_TopKari.j4 kj40 a1 (l0_0.length : Int) x6_2 true l0_0) else (mizmazetop_TopKari.j4 kj40 a1 (l0_0.length : Int) x6_2 ((x6_2.length : Int) == (l0_0.length : Int)) l0_0)) = some r := by rw [if_pos rfl] at H; exact H
                                clear H
                                have H := H1
                                clear H1
                                by_cases c58 : (x6_2.length : Int) = 0
                                · rw [if_pos c58] at H
                                  have c58b0 : ((x6_2.length : Int) == 0) = true := beq_iff_eq.mpr c58
                                  have c58b1 : ((x6_2.length : Int) != 0) = false := bne_eq_false_iff_eq.mpr c58
                                  clear c58
                                  (first | rw [c58b0] | (simp only [i64_w, i32_w]; rw [c58b0]) | skip)
                                  have H' := Aside0.mk H
                                  clear H
                                  obtain ⟨Ao59, co59, eo59⟩ := Kd.R_slice HO_6.out
                                  subst eo59
                                  go_wp2
                                  go_meet
                                  case rel => exact ⟨_, (true), (by first | rfl | (simp; done) | (simp [*]; done)), H', ⟨by have := HJ2.out; have := HK2.out; have := HJ26.out; have := HJ40.out; first | omega | exact Nat.le_refl _⟩, ⟨by (with_reducible repeat (first | apply Kd.R_alloc | apply Kd.R_drewN | apply Kd.R_drew)); exact HO_6.out⟩, ⟨by (with_reducible repeat (first | refine blk_drewN ?_ _ | refine blk_drew ?_ | refine blk_alloc ?_ _)); exact BK627.out⟩, ⟨by repeat (first | (with_reducible first | exact HB.out | apply below_alloc | apply pw_below_drewN | apply below_drew1 | refine below_set ?_ GE627.out) | exact HB.out)⟩⟩
                                · rw [if_neg c58] at H
                                  have c58b0 : ((x6_2.length : Int) == 0) = false := beq_eq_false_iff_ne.mpr c58
                                  have c58b1 : ((x6_2.length : Int) != 0) = true := bne_iff_ne.mpr c58
                                  have c58b2 : ¬ (x6_2 = []) := fun h_ => c58 (by rw [h_]; rfl)
                                  (first | rw [c58b0] | (simp only [i64_w, i32_w]; rw [c58b0]) | skip)
                                  have H' := Aside0.mk H
                                  clear H
                                  obtain ⟨Ao60, co60, eo60⟩ := Kd.R_slice HO_6.out
                                  subst eo60
                                  go_wp2
                                  go_meet
                                  case rel => exact ⟨_, (((x6_2.length : Int) == (l0_0.length : Int))), (by first | rfl | (simp; done) | (simp [*]; done)), H', ⟨by have := HJ2.out; have := HK2.out; have := HJ26.out; have := HJ40.out; first | omega | exact Nat.le_refl _⟩, ⟨by (with_reducible repeat (first | apply Kd.R_alloc | apply Kd.R_drewN | apply Kd.R_drew)); exact HO_6.out⟩, ⟨by (with_reducible repeat (first | refine blk_drewN ?_ _ | refine blk_drew ?_ | refine blk_alloc ?_ _)); exact BK627.out⟩, ⟨by repeat (first | (with_reducible first | exact HB.out | apply below_alloc | apply pw_below_drewN | apply below_drew1 | refine below_set ?_ GE627.out) | exact HB.out)⟩⟩
                              · replace c57 := Bool.eq_false_iff.mpr c57
                                subst c57
                                have H1 : (mizmazetop_TopKari.j4 kj40 a1 (l0_0.length : Int) x6_2 true l0_0) = some r := by rw [if_neg (show ¬ (false = true) by decide)] at H; exact H
                                clear H
                                have H := H1
                                clear H1
                                have H' := Aside0.mk H
                                clear H
                                go_wp2
                                go_meet
                                case rel => exact ⟨_, (true), (by first | rfl | (simp; done) | (simp [*]; done)), H', ⟨by have := HJ2.out; have := HK2.out; have := HJ26.out; have := HJ40.out; first | omega | exact Nat.le_refl _⟩, ⟨by (with_reducible repeat (first | apply Kd.R_alloc | apply Kd.R_drewN | apply Kd.R_drew)); exact HO_6.out⟩, ⟨by (with_reducible repeat (first | refine blk_drewN ?_ _ | refine blk_drew ?_ | refine blk_alloc ?_ _)); exact BK627.out⟩, ⟨by repeat (first | (with_reducible first | exact HB.out | apply below_alloc | apply pw_below_drewN | apply below_drew1 | refine below_set ?_ GE627.out) | exact HB.out)⟩⟩
                            case rest => as_aux_lemma =>
                              clear HC56
                              try clear c1
                              try clear c2
                              try clear p2
                              try clear c3
                              try clear c4
                              try clear c5
                              try clear c6
                              try clear p6
                              try clear c8
                              try clear c9
                              try clear c10
                              try clear c12
                              try clear c16
                              try clear c16b0
                              try clear c18
                              try clear c18b0
                              try clear c18b1
                              try clear c20
                              try clear c20b0
                              try clear c20b1
                              try clear c21
                              try clear c26
                              try clear c27
                              try clear c28
                              try clear c36
                              try clear c36b0
                              try clear c36b1
                              try clear c37
                              try clear c37b0
                              try clear c37b1
                              try clear c37b2
                              try clear c38
                              try clear c38b0
                              try clear c38b1
                              try clear c39
                              try clear c40
                              try clear c40b0
                              try clear c40b1
                              try clear c42
                              try clear c43
                              try clear c43b0
                              try clear c45
                              try clear c45b0
                              try clear c45b1
                              try clear c46
                              try clear c46b0
                              try clear c50
                              try clear c50b0
                              try clear c50b1
                              try clear c51
                              try clear c51b0
                              try clear c55
                              try clear c57
                              try clear c58
                              try clear c58b0
                              try clear c58b1
                              try clear c58b2
                              try clear hcz10_0
                              try clear hcz15_0
                              try clear hcz28_0
                              try clear hcz30_0
                              try clear hcz32_0
                              try clear hcz34_0
                              try clear hcz7_0
                              try clear hcz9_0
                              try clear hfz10_0
                              try clear hfz15_0
                              try clear hfz28_0
                              try clear hfz30_0
                              try clear hfz32_0
                              try clear hfz34_0
                              try clear hfz7_0
                              try clear hfz9_0
                              try clear p2
                              try clear p6
                              obtain ⟨kq, x139_55, rfl, HA, HJ55, HO_6, BK627, HB⟩ := hcut
                              cases kq with
                              | zero => exact absurd HA.out (by simp [mizmazetop_TopKari.j4])
                              | succ kj55 =>
                                have H := HA.out
                                clear HA
                                simp only [mizmazetop_TopKari.j4] at H
                                by_cases c61 : x139_55 = true
                                · subst c61
                                  have H1 : ((mizmazetop_balances.f kj55).bind fun t646 => (some t646)) = some r := by rw [if_pos rfl] at H; exact H
                                  clear H
                                  have H := H1
                                  clear H1
                                  replace H := Option.bind_eq_some_iff.mp H
                                  obtain ⟨t646, A620, H⟩ := H
                                  replace H : (some t646) = some r := H
                                  have A62 := Aside0.mk A620
                                  clear A620
                                  obtain rfl := Option.some.inj H
                                  go_wp2_with (first | ((with_reducible refine gate_callee (f := 28) rfl ?_); refine goesL_ (some 140) rfl rfl Try.func28 (by kernel_rfl) rfl #[] rfl (by (try simp only [List.map_toArray, List.map_cons, List.map_nil]); first | done | rfl | (simp only [List.length_drop, List.length_take]; rfl)) ?_; (with_reducible refine (mizmazetop_balances.calls kj55  t646 _ A62.out).mono ?_); rintro e w63 ⟨rfl, hb⟩; refine ⟨_, rfl, ?_⟩; have n0_ := Aside0.mk (Kd.R_below (by (with_reducible repeat (first | apply Kd.R_alloc | apply Kd.R_drewN | apply Kd.R_drew)); exact HO_6.out) hb); have n1_ := Aside0.mk (blk_below (g := gb627) (o := .cells #[.slice A0_0 l0_0.length c0_0] 24 (0, 0)) (by (with_reducible repeat (first | refine blk_drewN ?_ _ | refine blk_drew ?_ | refine blk_alloc ?_ _)); exact BK627.out) hb); have n2_ := Aside0.mk (below_step (by repeat (first | (with_reducible first | exact HB.out | apply below_alloc | apply pw_below_drewN | apply below_drew1 | refine below_set ?_ GE627.out) | exact HB.out)) hb); clear HO_6; clear BK627; clear HB; have HO_6 := n0_; have BK627 := n1_; have HB := n2_; clear n0_ n1_ n2_; (try clear hb); (try clear hb2); (try clear hk); (try clear hi)))
                                  go_ret
                                  exact ⟨by first | rfl | (simp [errW_none, errW_some] <;> rfl) | (simp [*, errW_none, errW_some] <;> rfl), by repeat (first | (with_reducible first | exact HB.out | apply below_alloc | apply pw_below_drewN | apply below_drew1 | refine below_set ?_ GE627.out) | exact HB.out)⟩
                                · replace c61 := Bool.eq_false_iff.mpr c61
                                  subst c61
                                  have H1 : ((euler_Extend.f kj55 l0_0 x6_2).bind fun bt647 => (if bt647.2 = 0 then (if (bt647.1.length : Int) > (wrap64 ((l0_0.length : Int) - 1)) then (mizmazetop_TopKari.j5 kj55 a1 (l0_0.length : Int) x6_2 bt647.1 true l0_0) else ((mizmazetop_right.f kj55 l0_0 bt647.1).bind fun t651 => (mizmazetop_TopKari.j5 kj55 a1 (l0_0.length : Int) x6_2 bt647.1 (!t651) l0_0))) else (mizmazetop_TopKari.j5 kj55 a1 (l0_0.length : Int) x6_2 bt647.1 true l0_0))) = some r := by rw [if_neg (show ¬ (false = true) by decide)] at H; exact H
                                  clear H
                                  have H := H1
                                  clear H1
                                  replace H := Option.bind_eq_some_iff.mp H
                                  obtain ⟨⟨t647, t650⟩, A640, H⟩ := H
                                  replace H : (if t650 = 0 then (if (t647.length : Int) > (wrap64 ((l0_0.length : Int) - 1)) then (mizmazetop_TopKari.j5 kj55 a1 (l0_0.length : Int) x6_2 t647 true l0_0) else ((mizmazetop_right.f kj55 l0_0 t647).bind fun t651 => (mizmazetop_TopKari.j5 kj55 a1 (l0_0.length : Int) x6_2 t647 (!t651) l0_0))) else (mizmazetop_TopKari.j5 kj55 a1 (l0_0.length : Int) x6_2 t647 true l0_0)) = some r := H
                                  have A64 := Aside0.mk A640
                                  clear A640
                                  have HC65 := Aside0.mk H
                                  clear H
                                  have hcz66_0 : wc.cell? ⟨gb627, 0, none⟩ = some (.slice A0_0 l0_0.length c0_0) := (blk_cell BK627.out 0).trans rfl
                                  have hfz66_0 := blk_frozen BK627.out 0
                                  obtain ⟨Ao67, co67, eo67⟩ := Kd.R_slice HO_6.out
                                  subst eo67
                                  go_upto_region 23 with (first | ((with_reducible refine gate_callee (f := 17) rfl ?_); refine goesL_ (some 144) rfl rfl Try.func17 (by kernel_rfl) rfl #[.agg #[.slice A0_0 l0_0.length c0_0], .slice Ao67 x6_2.length co67] rfl (by (try simp only [List.map_toArray, List.map_cons, List.map_nil]); first | done | rfl | (simp only [List.length_drop, List.length_take]; rfl)) ?_; (with_reducible refine (euler_Extend.calls kj55 _ _ l0_0 _ _ x6_2 t647 t650 _ ?side1 ?side2 ?side3 ?side4 A64.out).mono ?_); (case side1 => repeat (first | exact (Kd.C_below HR0_0.out HB.out) | (with_reducible refine Kd.C_alloc ?_ _) | (with_reducible refine Kd.C_drewN ?_ _) | (with_reducible refine Kd.C_drew ?_))); (case side2 => exact HC0_0.out); (case side3 => repeat (first | exact (Kd.R_reads' HO_6.out).2.2 | (with_reducible refine Kd.C_alloc ?_ _) | (with_reducible refine Kd.C_drewN ?_ _) | (with_reducible refine Kd.C_drew ?_))); (case side4 => exact (Kd.R_reads' HO_6.out).2.1); rintro e w68 ⟨v648, rfl, ho0, hb⟩; refine ⟨_, rfl, ?_⟩; have n0_ := Aside0.mk (Kd.R_elder' (by (with_reducible repeat (first | apply Kd.R_alloc | apply Kd.R_drewN | apply Kd.R_drew)); exact HO_6.out) (Kd.R_base ho0) hb); have n1_ := Aside0.mk (Kd.R_lower (Kd.R_new' ho0 (Kd.R_lt (by (with_reducible repeat (first | apply Kd.R_alloc | apply Kd.R_drewN | apply Kd.R_drew)); exact HO_6.out))) (below_size (by repeat (first | (with_reducible first | exact HB.out | apply below_alloc | apply pw_below_drewN | apply below_drew1 | refine below_set ?_ GE627.out) | exact HB.out)))); have n2_ := Aside0.mk (blk_below (g := gb627) (o := .cells #[.slice A0_0 l0_0.length c0_0] 24 (0, 0)) (by (with_reducible repeat (first | refine blk_drewN ?_ _ | refine blk_drew ?_ | refine blk_alloc ?_ _)); exact BK627.out) hb); have n3_ := Aside0.mk (below_step (by repeat (first | (with_reducible first | exact HB.out | apply below_alloc | apply pw_below_drewN | apply below_drew1 | refine below_set ?_ GE627.out) | exact HB.out)) hb); clear HO_6; clear BK627; clear HB; have HO_6 := n0_; have HO649 := n1_; have BK627 := n2_; have HB := n3_; clear n0_ n1_ n2_ n3_; (try clear hb); (try clear hb2); (try clear hk); (try clear hi); (try clear ho0)))
                                  (try simp only [Act.put, List.setIfInBounds_toArray, List.set_cons_zero, List.set_cons_succ])
                                  go_cut [161] (fun v161 wc => ∃ (kq : Nat) (x161_64 : Bool), v161 = .bool x161_64 ∧ Aside0 (mizmazetop_TopKari.j5 kq a1 (l0_0.length : Int) x6_2 t647 x161_64 l0_0 = some r) ∧ Aside0 (kq ≤ kj55) ∧ Aside0 (Kd.R (Kd.int .i64) 3 wc w.heap.size (fun k_ => some k_ ≠ (v648 : Value).ownBlock) (.slice Ao67 x6_2.length co67) x6_2) ∧ Aside0 (Kd.R (Kd.int .i64) 3 wc w.heap.size (fun k_ => some k_ ≠ ((.slice Ao67 x6_2.length co67) : Value).ownBlock) v648 t647) ∧ Aside0 (wc.heap[gb627]? = some (.cells #[(.slice A0_0 l0_0.length c0_0)] 24 (0, 0))) ∧ Aside0 (Below w.heap.size w wc))
                                  case first => as_aux_lemma =>
                                    have H := HC65.out
                                    clear HC65
                                    by_cases c69 : t650 = 0
                                    · rw [if_pos c69] at H
                                      have c69b0 : (t650 == 0) = true := beq_iff_eq.mpr c69
                                      have c69b1 : (t650 != 0) = false := bne_eq_false_iff_eq.mpr c69
                                      clear c69
                                      (first | rw [c69b0] | (simp only [i64_w, i32_w]; rw [c69b0]) | skip)
                                      by_cases c70 : (t647.length : Int) > (wrap64 ((l0_0.length : Int) - 1))
                                      · rw [if_pos c70] at H
                                        have c70b0 : decide ((wrap64 ((l0_0.length : Int) - 1)) < (t647.length : Int)) = true := decide_eq_true c70
                                        clear c70
                                        have H' := Aside0.mk H
                                        clear H
                                        obtain ⟨Ao71, co71, eo71⟩ := Kd.R_slice HO649.out
                                        subst eo71
                                        go_wp2
                                        go_meet
                                        case rel => exact ⟨_, (true), (by first | rfl | (simp; done) | (simp [*]; done)), H', ⟨by have := HJ2.out; have := HK2.out; have := HJ26.out; have := HJ40.out; have := HJ55.out; first | omega | exact Nat.le_refl _⟩, ⟨by (with_reducible repeat (first | apply Kd.R_alloc | apply Kd.R_drewN | apply Kd.R_drew)); exact Kd.R_mono HO_6.out (fun _ hk => hk.2)⟩, ⟨by (with_reducible repeat (first | apply Kd.R_alloc | apply Kd.R_drewN | apply Kd.R_drew)); exact Kd.R_mono HO649.out (fun _ hk => hk.2)⟩, ⟨by (with_reducible repeat (first | refine blk_drewN ?_ _ | refine blk_drew ?_ | refine blk_alloc ?_ _)); exact BK627.out⟩, ⟨by repeat (first | (with_reducible first | exact HB.out | apply below_alloc | apply pw_below_drewN | apply below_drew1 | refine below_set ?_ GE627.out) | exact HB.out)⟩⟩
                                      · rw [if_neg c70] at H
                                        have c70b0 : decide ((wrap64 ((l0_0.length : Int) - 1)) < (t647.length : Int)) = false := decide_eq_false c70
                                        clear c70
                                        replace H := Option.bind_eq_some_iff.mp H
                                        obtain ⟨t651, A720, H⟩ := H
                                        replace H : (mizmazetop_TopKari.j5 kj55 a1 (l0_0.length : Int) x6_2 t647 (!t651) l0_0) = some r := H
                                        have A72 := Aside0.mk A720
                                        clear A720
                                        have H' := Aside0.mk H
                                        clear H
                                        obtain ⟨Ao73, co73, eo73⟩ := Kd.R_slice HO649.out
                                        subst eo73
                                        have hcz74_0 : w68.cell? ⟨gb627, 0, none⟩ = some (.slice A0_0 l0_0.length c0_0) := (blk_cell BK627.out 0).trans rfl
                                        have hfz74_0 := blk_frozen BK627.out 0
                                        go_wp2_with (first | (go_at_call 29; (with_reducible refine (mizmazetop_right.calls kj55 _ _ l0_0 _ _ t647 t651 _ ?side1 ?side2 ?side3 ?side4 A72.out).mono ?_); (case side1 => repeat (first | exact (Kd.C_below HR0_0.out HB.out) | (with_reducible refine Kd.C_alloc ?_ _) | (with_reducible refine Kd.C_drewN ?_ _) | (with_reducible refine Kd.C_drew ?_))); (case side2 => exact HC0_0.out); (case side3 => repeat (first | exact (Kd.R_reads' HO649.out).2.2 | (with_reducible refine Kd.C_alloc ?_ _) | (with_reducible refine Kd.C_drewN ?_ _) | (with_reducible refine Kd.C_drew ?_))); (case side4 => exact (Kd.R_reads' HO649.out).2.1); rintro e w75 ⟨rfl, hb⟩; have n0_ := Aside0.mk (Kd.R_below (by (with_reducible repeat (first | apply Kd.R_alloc | apply Kd.R_drewN | apply Kd.R_drew)); exact HO_6.out) hb); have n1_ := Aside0.mk (Kd.R_below (by (with_reducible repeat (first | apply Kd.R_alloc | apply Kd.R_drewN | apply Kd.R_drew)); exact HO649.out) hb); have n2_ := Aside0.mk (blk_below (g := gb627) (o := .cells #[.slice A0_0 l0_0.length c0_0] 24 (0, 0)) (by (with_reducible repeat (first | refine blk_drewN ?_ _ | refine blk_drew ?_ | refine blk_alloc ?_ _)); exact BK627.out) hb); have n3_ := Aside0.mk (below_step (by repeat (first | (with_reducible first | exact HB.out | apply below_alloc | apply pw_below_drewN | apply below_drew1 | refine below_set ?_ GE627.out) | exact HB.out)) hb); clear HO_6; clear HO649; clear BK627; clear HB; have HO_6 := n0_; have HO649 := n1_; have BK627 := n2_; have HB := n3_; clear n0_ n1_ n2_ n3_; (try clear hb); (try clear hb2); (try clear hk); (try clear hi)))
                                        go_meet
                                        case rel => exact ⟨_, (!t651), (by first | rfl | (simp; done) | (simp [*]; done)), H', ⟨by have := HJ2.out; have := HK2.out; have := HJ26.out; have := HJ40.out; have := HJ55.out; first | omega | exact Nat.le_refl _⟩, ⟨by (with_reducible repeat (first | apply Kd.R_alloc | apply Kd.R_drewN | apply Kd.R_drew)); exact Kd.R_mono HO_6.out (fun _ hk => hk.2)⟩, ⟨by (with_reducible repeat (first | apply Kd.R_alloc | apply Kd.R_drewN | apply Kd.R_drew)); exact Kd.R_mono HO649.out (fun _ hk => hk.2)⟩, ⟨by (with_reducible repeat (first | refine blk_drewN ?_ _ | refine blk_drew ?_ | refine blk_alloc ?_ _)); exact BK627.out⟩, ⟨by repeat (first | (with_reducible first | exact HB.out | apply below_alloc | apply pw_below_drewN | apply below_drew1 | refine below_set ?_ GE627.out) | exact HB.out)⟩⟩
                                    · rw [if_neg c69] at H
                                      have c69b0 : (t650 == 0) = false := beq_eq_false_iff_ne.mpr c69
                                      have c69b1 : (t650 != 0) = true := bne_iff_ne.mpr c69
                                      (first | rw [c69b0] | (simp only [i64_w, i32_w]; rw [c69b0]) | skip)
                                      have H' := Aside0.mk H
                                      clear H
                                      go_wp2
                                      go_meet
                                      case rel => exact ⟨_, (true), (by first | rfl | (simp; done) | (simp [*]; done)), H', ⟨by have := HJ2.out; have := HK2.out; have := HJ26.out; have := HJ40.out; have := HJ55.out; first | omega | exact Nat.le_refl _⟩, ⟨by (with_reducible repeat (first | apply Kd.R_alloc | apply Kd.R_drewN | apply Kd.R_drew)); exact Kd.R_mono HO_6.out (fun _ hk => hk.2)⟩, ⟨by (with_reducible repeat (first | apply Kd.R_alloc | apply Kd.R_drewN | apply Kd.R_drew)); exact Kd.R_mono HO649.out (fun _ hk => hk.2)⟩, ⟨by (with_reducible repeat (first | refine blk_drewN ?_ _ | refine blk_drew ?_ | refine blk_alloc ?_ _)); exact BK627.out⟩, ⟨by repeat (first | (with_reducible first | exact HB.out | apply below_alloc | apply pw_below_drewN | apply below_drew1 | refine below_set ?_ GE627.out) | exact HB.out)⟩⟩
                                  case rest => as_aux_lemma =>
                                    clear HC65
                                    try clear c1
                                    try clear c2
                                    try clear p2
                                    try clear c3
                                    try clear c4
                                    try clear c5
                                    try clear c6
                                    try clear p6
                                    try clear c7
                                    try clear c8
                                    try clear c9
                                    try clear c10
                                    try clear c12
                                    try clear c16
                                    try clear c16b0
                                    try clear c17
                                    try clear c18
                                    try clear c18b0
                                    try clear c18b1
                                    try clear c20
                                    try clear c20b0
                                    try clear c20b1
                                    try clear c21
                                    try clear c26
                                    try clear c27
                                    try clear c28
                                    try clear c36
                                    try clear c36b0
                                    try clear c36b1
                                    try clear c37
                                    try clear c37b0
                                    try clear c37b1
                                    try clear c37b2
                                    try clear c38
                                    try clear c38b0
                                    try clear c38b1
                                    try clear c39
                                    try clear c40
                                    try clear c40b0
                                    try clear c40b1
                                    try clear c42
                                    try clear c43
                                    try clear c43b0
                                    try clear c45
                                    try clear c45b0
                                    try clear c45b1
                                    try clear c46
                                    try clear c46b0
                                    try clear c50
                                    try clear c50b0
                                    try clear c50b1
                                    try clear c51
                                    try clear c51b0
                                    try clear c55
                                    try clear c57
                                    try clear c58
                                    try clear c58b0
                                    try clear c58b1
                                    try clear c58b2
                                    try clear c61
                                    try clear p64
                                    try clear c69
                                    try clear c69b0
                                    try clear c69b1
                                    try clear c70
                                    try clear c70b0
                                    try clear hcz10_0
                                    try clear hcz15_0
                                    try clear hcz28_0
                                    try clear hcz30_0
                                    try clear hcz32_0
                                    try clear hcz34_0
                                    try clear hcz66_0
                                    try clear hcz74_0
                                    try clear hcz7_0
                                    try clear hcz9_0
                                    try clear hfz10_0
                                    try clear hfz15_0
                                    try clear hfz28_0
                                    try clear hfz30_0
                                    try clear hfz32_0
                                    try clear hfz34_0
                                    try clear hfz66_0
                                    try clear hfz74_0
                                    try clear hfz7_0
                                    try clear hfz9_0
                                    try clear p2
                                    try clear p6
                                    obtain ⟨kq, x161_64, rfl, HA, HJ64, HO_6, HO_16, BK627, HB⟩ := hcut
                                    cases kq with
                                    | zero => exact absurd HA.out (by simp [mizmazetop_TopKari.j5])
                                    | succ kj64 =>
                                      have H := HA.out
                                      clear HA
                                      simp only [mizmazetop_TopKari.j5] at H
                                      by_cases c76 : x161_64 = true
                                      · subst c76
                                        have H1 : (none) = some r := by rw [if_pos rfl] at H; exact H
                                        clear H
                                        have H := H1
                                        clear H1
                                        exact absurd H (by simp)
                                      · replace c76 := Bool.eq_false_iff.mpr c76
                                        subst c76
                                        have H1 : (mizmazetop_TopKari.l1 kj64 a1 (l0_0.length : Int) x6_2 t647 0 0 l0_0) = some r := by rw [if_neg (show ¬ (false = true) by decide)] at H; exact H
                                        clear H
                                        have H := H1
                                        clear H1
                                        have H' := Aside0.mk H
                                        clear H
                                        go_wp2
                                        go_loopg [17, 18] kj64 (fun kq v17 v18 w' => ∃ (x17_7 : Int) (x18_7 : Int), v17 = .int .i64 x17_7 ∧ v18 = .int .i64 x18_7 ∧ Aside0 (mizmazetop_TopKari.l1 kq a1 (l0_0.length : Int) x6_2 t647 x17_7 x18_7 l0_0 = some r) ∧ Aside0 (kq ≤ kj64) ∧ Aside0 (Kd.R (Kd.int .i64) 3 w' w.heap.size (fun k_ => some k_ ≠ (v648 : Value).ownBlock) (.slice Ao67 x6_2.length co67) x6_2) ∧ Aside0 (Kd.R (Kd.int .i64) 3 w' w.heap.size (fun k_ => some k_ ≠ ((.slice Ao67 x6_2.length co67) : Value).ownBlock) v648 t647) ∧ Aside0 (w'.heap[gb627]? = some (.cells #[(.slice A0_0 l0_0.length c0_0)] 24 (0, 0))) ∧ Aside0 (Below w.heap.size w w'))
                                        case atStart => exact ⟨(0), (0), (by first | rfl | (simp; done) | (simp [*]; done)), (by first | rfl | (simp; done) | (simp [*]; done)), H', ⟨Nat.le_refl _⟩, ⟨by (with_reducible repeat (first | apply Kd.R_alloc | apply Kd.R_drewN | apply Kd.R_drew)); exact HO_6.out⟩, ⟨by (with_reducible repeat (first | apply Kd.R_alloc | apply Kd.R_drewN | apply Kd.R_drew)); exact HO_16.out⟩, ⟨by (with_reducible repeat (first | refine blk_drewN ?_ _ | refine blk_drew ?_ | refine blk_alloc ?_ _)); exact BK627.out⟩, ⟨by repeat (first | (with_reducible first | exact HB.out | apply below_alloc | apply pw_below_drewN | apply below_drew1 | refine below_set ?_ GE627.out) | exact HB.out)⟩⟩
                                        case round => as_aux_lemma =>
                                          clear H'
                                          try clear c1
                                          try clear c2
                                          try clear p2
                                          try clear c3
                                          try clear c4
                                          try clear c5
                                          try clear c6
                                          try clear p6
                                          try clear c7
                                          try clear c8
                                          try clear c9
                                          try clear c10
                                          try clear c12
                                          try clear c16
                                          try clear c16b0
                                          try clear c17
                                          try clear c18
                                          try clear c18b0
                                          try clear c18b1
                                          try clear c20
                                          try clear c20b0
                                          try clear c20b1
                                          try clear c21
                                          try clear c26
                                          try clear c27
                                          try clear c28
                                          try clear c36
                                          try clear c36b0
                                          try clear c36b1
                                          try clear c37
                                          try clear c37b0
                                          try clear c37b1
                                          try clear c37b2
                                          try clear c38
                                          try clear c38b0
                                          try clear c38b1
                                          try clear c39
                                          try clear c40
                                          try clear c40b0
                                          try clear c40b1
                                          try clear c42
                                          try clear c43
                                          try clear c43b0
                                          try clear c45
                                          try clear c45b0
                                          try clear c45b1
                                          try clear c46
                                          try clear c46b0
                                          try clear c50
                                          try clear c50b0
                                          try clear c50b1
                                          try clear c51
                                          try clear c51b0
                                          try clear c55
                                          try clear c57
                                          try clear c58
                                          try clear c58b0
                                          try clear c58b1
                                          try clear c58b2
                                          try clear c61
                                          try clear p64
                                          try clear c69
                                          try clear c69b0
                                          try clear c69b1
                                          try clear c70
                                          try clear c70b0
                                          try clear c76
                                          try clear hcz10_0
                                          try clear hcz15_0
                                          try clear hcz28_0
                                          try clear hcz30_0
                                          try clear hcz32_0
                                          try clear hcz34_0
                                          try clear hcz66_0
                                          try clear hcz74_0
                                          try clear hcz7_0
                                          try clear hcz9_0
                                          try clear hfz10_0
                                          try clear hfz15_0
                                          try clear hfz28_0
                                          try clear hfz30_0
                                          try clear hfz32_0
                                          try clear hfz34_0
                                          try clear hfz66_0
                                          try clear hfz74_0
                                          try clear hfz7_0
                                          try clear hfz9_0
                                          try clear p2
                                          try clear p6
                                          try clear p64
                                          obtain ⟨x17_7, x18_7, rfl, rfl, HA, HK7, HO_6, HO_16, BK627, HB⟩ := hrel
                                          cases gk with
                                          | zero => exact absurd HA.out (by simp [mizmazetop_TopKari.l1])
                                          | succ k7 =>
                                            have H := HA.out
                                            clear HA
                                            simp only [mizmazetop_TopKari.l1] at H
                                            by_cases c77 : x18_7 < (l0_0.length : Int)
                                            · rw [if_pos c77] at H
                                              have c77b0 : decide (x18_7 < (l0_0.length : Int)) = true := decide_eq_true c77
                                              clear c77
                                              replace H := Option.bind_eq_some_iff.mp H
                                              obtain ⟨t652, A780, H⟩ := H
                                              replace H : (if 0 ≤ (IntKind.u64.wrap (t652)) then (if (Go.bits .and .i64 (shr .i64 a1 (IntKind.u64.wrap (t652))) 1) = 1 then (mizmazetop_TopKari.l1 k7 a1 (l0_0.length : Int) x6_2 t647 (wrap64 (x17_7 + 1)) (wrap64 (x18_7 + 1)) l0_0) else (mizmazetop_TopKari.l1 k7 a1 (l0_0.length : Int) x6_2 t647 x17_7 (wrap64 (x18_7 + 1)) l0_0)) else (none)) = some r := H
                                              have A78 := Aside0.mk A780
                                              clear A780
                                              obtain ⟨ji79, hji79⟩ : ∃ j_ : Int, (IntKind.u64.wrap (t652)) = j_ := ⟨_, rfl⟩
                                              replace H : (if 0 ≤ (ji79) then (if (Go.bits .and .i64 (shr .i64 a1 (ji79)) 1) = 1 then (mizmazetop_TopKari.l1 k7 a1 (l0_0.length : Int) x6_2 t647 (wrap64 (x17_7 + 1)) (wrap64 (x18_7 + 1)) l0_0) else (mizmazetop_TopKari.l1 k7 a1 (l0_0.length : Int) x6_2 t647 x17_7 (wrap64 (x18_7 + 1)) l0_0)) else (none)) = some r := by first | (rw [hji79] at H; exact H) | (simp only [hji79] at H ⊢; exact H)
                                              (try rw [hji79] at A78)
                                              by_cases c80 : 0 ≤ (ji79)
                                              · rw [if_pos c80] at H
                                                have c80b0 := eq_true c80
                                                have c80b1 : decide (0 ≤ (ji79)) = true := decide_eq_true c80
                                                clear c80
                                                obtain ⟨ji81, hji81⟩ : ∃ j_ : Int, (shr .i64 a1 (ji79)) = j_ := ⟨_, rfl⟩
                                                replace H : (if (Go.bits .and .i64 (ji81) 1) = 1 then (mizmazetop_TopKari.l1 k7 a1 (l0_0.length : Int) x6_2 t647 (wrap64 (x17_7 + 1)) (wrap64 (x18_7 + 1)) l0_0) else (mizmazetop_TopKari.l1 k7 a1 (l0_0.length : Int) x6_2 t647 x17_7 (wrap64 (x18_7 + 1)) l0_0)) = some r := by first | (rw [hji81] at H; exact H) | (simp only [hji81] at H ⊢; exact H)
                                                (try rw [hji81] at A78)
                                                have hji81_ : (a1 / 2 ^ min (ji79).toNat 64) = ji81 := hji81
                                                have hji81z : (ji79) ≤ 64 → (a1 / 2 ^ (ji79).toNat) = ji81 := shr_small hji81
                                                by_cases c82 : (Go.bits .and .i64 (ji81) 1) = 1
                                                · rw [if_pos c82] at H
                                                  have c82b0 : ((Go.bits .and .i64 (ji81) 1) == 1) = true := beq_iff_eq.mpr c82
                                                  have c82b1 : ((Go.bits .and .i64 (ji81) 1) != 1) = false := bne_eq_false_iff_eq.mpr c82
                                                  clear c82
                                                  have H' := Aside0.mk H
                                                  clear H
                                                  have hcz83_0 : wr.cell? ⟨gb627, 0, none⟩ = some (.slice A0_0 l0_0.length c0_0) := (blk_cell BK627.out 0).trans rfl
                                                  have hfz83_0 := blk_frozen BK627.out 0
                                                  obtain ⟨Ao84, co84, eo84⟩ := Kd.R_slice HO_16.out
                                                  subst eo84
                                                  go_wp2_with (first | ((with_reducible refine gate_callee (f := 30) rfl ?_); refine goesL_ (some 171) rfl rfl Try.func30 (by kernel_rfl) rfl #[.agg #[.slice A0_0 l0_0.length c0_0], .int .i64 x18_7, .slice Ao84 t647.length co84] rfl (by (try simp only [List.map_toArray, List.map_cons, List.map_nil]); first | done | rfl | (simp only [List.length_drop, List.length_take]; rfl)) ?_; (with_reducible refine (mizmazetop_lead.calls k7 _ _ l0_0 x18_7 _ _ t647 t652 _ ?side1 ?side2 ?side3 ?side4 A78.out).mono ?_); (case side1 => repeat (first | exact (Kd.C_below HR0_0.out HB.out) | (with_reducible refine Kd.C_alloc ?_ _) | (with_reducible refine Kd.C_drewN ?_ _) | (with_reducible refine Kd.C_drew ?_))); (case side2 => exact HC0_0.out); (case side3 => repeat (first | exact (Kd.R_reads' HO_16.out).2.2 | (with_reducible refine Kd.C_alloc ?_ _) | (with_reducible refine Kd.C_drewN ?_ _) | (with_reducible refine Kd.C_drew ?_))); (case side4 => exact (Kd.R_reads' HO_16.out).2.1); rintro e w85 ⟨rfl, hb⟩; refine ⟨_, rfl, ?_⟩; have n0_ := Aside0.mk (Kd.R_below (by (with_reducible repeat (first | apply Kd.R_alloc | apply Kd.R_drewN | apply Kd.R_drew)); exact HO_6.out) hb); have n1_ := Aside0.mk (Kd.R_below (by (with_reducible repeat (first | apply Kd.R_alloc | apply Kd.R_drewN | apply Kd.R_drew)); exact HO_16.out) hb); have n2_ := Aside0.mk (blk_below (g := gb627) (o := .cells #[.slice A0_0 l0_0.length c0_0] 24 (0, 0)) (by (with_reducible repeat (first | refine blk_drewN ?_ _ | refine blk_drew ?_ | refine blk_alloc ?_ _)); exact BK627.out) hb); have n3_ := Aside0.mk (below_step (by repeat (first | (with_reducible first | exact HB.out | apply below_alloc | apply pw_below_drewN | apply below_drew1 | refine below_set ?_ GE627.out) | exact HB.out)) hb); clear HO_6; clear HO_16; clear BK627; clear HB; have HO_6 := n0_; have HO_16 := n1_; have BK627 := n2_; have HB := n3_; clear n0_ n1_ n2_ n3_; (try clear hb); (try clear hb2); (try clear hk); (try clear hi)))
                                                  go_roundg k7
                                                  case measure => have := HJ2.out; have := HK2.out; have := HJ26.out; have := HJ40.out; have := HJ55.out; have := HJ64.out; have := HK7.out; omega
                                                  case rel => exact ⟨(wrap64 (x17_7 + 1)), (wrap64 (x18_7 + 1)), (by first | rfl | (simp; done) | (simp [*]; done)), (by first | rfl | (simp; done) | (simp [*]; done)), H', ⟨by have := HJ2.out; have := HK2.out; have := HJ26.out; have := HJ40.out; have := HJ55.out; have := HJ64.out; have := HK7.out; omega⟩, ⟨by (with_reducible repeat (first | apply Kd.R_alloc | apply Kd.R_drewN | apply Kd.R_drew)); exact HO_6.out⟩, ⟨by (with_reducible repeat (first | apply Kd.R_alloc | apply Kd.R_drewN | apply Kd.R_drew)); exact HO_16.out⟩, ⟨by (with_reducible repeat (first | refine blk_drewN ?_ _ | refine blk_drew ?_ | refine blk_alloc ?_ _)); exact BK627.out⟩, ⟨by repeat (first | (with_reducible first | exact HB.out | apply below_alloc | apply pw_below_drewN | apply below_drew1 | refine below_set ?_ GE627.out) | exact HB.out)⟩⟩
                                                · rw [if_neg c82] at H
                                                  have c82b0 : ((Go.bits .and .i64 (ji81) 1) == 1) = false := beq_eq_false_iff_ne.mpr c82
                                                  have c82b1 : ((Go.bits .and .i64 (ji81) 1) != 1) = true := bne_iff_ne.mpr c82
                                                  have H' := Aside0.mk H
                                                  clear H
                                                  have hcz86_0 : wr.cell? ⟨gb627, 0, none⟩ = some (.slice A0_0 l0_0.length c0_0) := (blk_cell BK627.out 0).trans rfl
                                                  have hfz86_0 := blk_frozen BK627.out 0
                                                  obtain ⟨Ao87, co87, eo87⟩ := Kd.R_slice HO_16.out
                                                  subst eo87
                                                  go_wp2_with (first | ((with_reducible refine gate_callee (f := 30) rfl ?_); refine goesL_ (some 171) rfl rfl Try.func30 (by kernel_rfl) rfl #[.agg #[.slice A0_0 l0_0.length c0_0], .int .i64 x18_7, .slice Ao87 t647.length co87] rfl (by (try simp only [List.map_toArray, List.map_cons, List.map_nil]); first | done | rfl | (simp only [List.length_drop, List.length_take]; rfl)) ?_; (with_reducible refine (mizmazetop_lead.calls k7 _ _ l0_0 x18_7 _ _ t647 t652 _ ?side1 ?side2 ?side3 ?side4 A78.out).mono ?_); (case side1 => repeat (first | exact (Kd.C_below HR0_0.out HB.out) | (with_reducible refine Kd.C_alloc ?_ _) | (with_reducible refine Kd.C_drewN ?_ _) | (with_reducible refine Kd.C_drew ?_))); (case side2 => exact HC0_0.out); (case side3 => repeat (first | exact (Kd.R_reads' HO_16.out).2.2 | (with_reducible refine Kd.C_alloc ?_ _) | (with_reducible refine Kd.C_drewN ?_ _) | (with_reducible refine Kd.C_drew ?_))); (case side4 => exact (Kd.R_reads' HO_16.out).2.1); rintro e w88 ⟨rfl, hb⟩; refine ⟨_, rfl, ?_⟩; have n0_ := Aside0.mk (Kd.R_below (by (with_reducible repeat (first | apply Kd.R_alloc | apply Kd.R_drewN | apply Kd.R_drew)); exact HO_6.out) hb); have n1_ := Aside0.mk (Kd.R_below (by (with_reducible repeat (first | apply Kd.R_alloc | apply Kd.R_drewN | apply Kd.R_drew)); exact HO_16.out) hb); have n2_ := Aside0.mk (blk_below (g := gb627) (o := .cells #[.slice A0_0 l0_0.length c0_0] 24 (0, 0)) (by (with_reducible repeat (first | refine blk_drewN ?_ _ | refine blk_drew ?_ | refine blk_alloc ?_ _)); exact BK627.out) hb); have n3_ := Aside0.mk (below_step (by repeat (first | (with_reducible first | exact HB.out | apply below_alloc | apply pw_below_drewN | apply below_drew1 | refine below_set ?_ GE627.out) | exact HB.out)) hb); clear HO_6; clear HO_16; clear BK627; clear HB; have HO_6 := n0_; have HO_16 := n1_; have BK627 := n2_; have HB := n3_; clear n0_ n1_ n2_ n3_; (try clear hb); (try clear hb2); (try clear hk); (try clear hi)))
                                                  go_roundg k7
                                                  case measure => have := HJ2.out; have := HK2.out; have := HJ26.out; have := HJ40.out; have := HJ55.out; have := HJ64.out; have := HK7.out; omega
                                                  case rel => exact ⟨(x17_7), (wrap64 (x18_7 + 1)), (by first | rfl | (simp; done) | (simp [*]; done)), (by first | rfl | (simp; done) | (simp [*]; done)), H', ⟨by have := HJ2.out; have := HK2.out; have := HJ26.out; have := HJ40.out; have := HJ55.out; have := HJ64.out; have := HK7.out; omega⟩, ⟨by (with_reducible repeat (first | apply Kd.R_alloc | apply Kd.R_drewN | apply Kd.R_drew)); exact HO_6.out⟩, ⟨by (with_reducible repeat (first | apply Kd.R_alloc | apply Kd.R_drewN | apply Kd.R_drew)); exact HO_16.out⟩, ⟨by (with_reducible repeat (first | refine blk_drewN ?_ _ | refine blk_drew ?_ | refine blk_alloc ?_ _)); exact BK627.out⟩, ⟨by repeat (first | (with_reducible first | exact HB.out | apply below_alloc | apply pw_below_drewN | apply below_drew1 | refine below_set ?_ GE627.out) | exact HB.out)⟩⟩
                                              · rw [if_neg c80] at H
                                                exact absurd H (by simp)
                                            · rw [if_neg c77] at H
                                              have c77b0 : decide (x18_7 < (l0_0.length : Int)) = false := decide_eq_false c77
                                              clear c77
                                              by_cases c89 : x17_7 > (x6_2.length : Int)
                                              · rw [if_pos c89] at H
                                                have c89b0 : decide ((x6_2.length : Int) < x17_7) = true := decide_eq_true c89
                                                clear c89
                                                replace H := Option.bind_eq_some_iff.mp H
                                                obtain ⟨t653, A900, H⟩ := H
                                                replace H : (some t653) = some r := H
                                                have A90 := Aside0.mk A900
                                                clear A900
                                                obtain rfl := Option.some.inj H
                                                go_wp2_with (first | (go_at_call 28; (with_reducible refine (mizmazetop_balances.calls k7  t653 _ A90.out).mono ?_); rintro e w91 ⟨rfl, hb⟩; have n0_ := Aside0.mk (Kd.R_below (by (with_reducible repeat (first | apply Kd.R_alloc | apply Kd.R_drewN | apply Kd.R_drew)); exact HO_6.out) hb); have n1_ := Aside0.mk (Kd.R_below (by (with_reducible repeat (first | apply Kd.R_alloc | apply Kd.R_drewN | apply Kd.R_drew)); exact HO_16.out) hb); have n2_ := Aside0.mk (blk_below (g := gb627) (o := .cells #[.slice A0_0 l0_0.length c0_0] 24 (0, 0)) (by (with_reducible repeat (first | refine blk_drewN ?_ _ | refine blk_drew ?_ | refine blk_alloc ?_ _)); exact BK627.out) hb); have n3_ := Aside0.mk (below_step (by repeat (first | (with_reducible first | exact HB.out | apply below_alloc | apply pw_below_drewN | apply below_drew1 | refine below_set ?_ GE627.out) | exact HB.out)) hb); clear HO_6; clear HO_16; clear BK627; clear HB; have HO_6 := n0_; have HO_16 := n1_; have BK627 := n2_; have HB := n3_; clear n0_ n1_ n2_ n3_; (try clear hb); (try clear hb2); (try clear hk); (try clear hi)))
                                                go_ret
                                                exact ⟨by first | rfl | (simp [errW_none, errW_some] <;> rfl) | (simp [*, errW_none, errW_some] <;> rfl), by repeat (first | (with_reducible first | exact HB.out | apply below_alloc | apply pw_below_drewN | apply below_drew1 | refine below_set ?_ GE627.out) | exact HB.out)⟩
                                              · rw [if_neg c89] at H
                                                exact absurd H (by simp)
                    · rw [if_neg c40] at H
                      have c40b0 : (t640 == 0) = false := beq_eq_false_iff_ne.mpr c40
                      have c40b1 : (t640 != 0) = true := bne_iff_ne.mpr c40
                      replace H := Option.bind_eq_some_iff.mp H
                      obtain ⟨t645, A920, H⟩ := H
                      replace H : (some t645) = some r := H
                      have A92 := Aside0.mk A920
                      clear A920
                      obtain rfl := Option.some.inj H
                      go_wp2_with (first | ((with_reducible refine gate_callee (f := 28) rfl ?_); refine goesL_ (some 86) rfl rfl Try.func28 (by kernel_rfl) rfl #[] rfl (by (try simp only [List.map_toArray, List.map_cons, List.map_nil]); first | done | rfl | (simp only [List.length_drop, List.length_take]; rfl)) ?_; (with_reducible refine (mizmazetop_balances.calls kj26  t645 _ A92.out).mono ?_); rintro e w93 ⟨rfl, hb⟩; refine ⟨_, rfl, ?_⟩; have n0_ := Aside0.mk (Kd.R_below (by (with_reducible repeat (first | apply Kd.R_alloc | apply Kd.R_drewN | apply Kd.R_drew)); exact HO_6.out) hb); have n1_ := Aside0.mk (Kd.R_below (by (with_reducible repeat (first | apply Kd.R_alloc | apply Kd.R_drewN | apply Kd.R_drew)); exact HO_14.out) hb); have n2_ := Aside0.mk (blk_below (g := gb627) (o := .cells #[.slice A0_0 l0_0.length c0_0] 24 (0, 0)) (by (with_reducible repeat (first | refine blk_drewN ?_ _ | refine blk_drew ?_ | refine blk_alloc ?_ _)); exact BK627.out) hb); have n3_ := Aside0.mk (below_step (by repeat (first | (with_reducible first | exact HB.out | apply below_alloc | apply pw_below_drewN | apply below_drew1 | refine below_set ?_ GE627.out) | exact HB.out)) hb); clear HO_6; clear HO_14; clear BK627; clear HB; have HO_6 := n0_; have HO_14 := n1_; have BK627 := n2_; have HB := n3_; clear n0_ n1_ n2_ n3_; (try clear hb); (try clear hb2); (try clear hk); (try clear hi)))
                      go_ret
                      exact ⟨by first | rfl | (simp [errW_none, errW_some] <;> rfl) | (simp [*, errW_none, errW_some] <;> rfl), by repeat (first | (with_reducible first | exact HB.out | apply below_alloc | apply pw_below_drewN | apply below_drew1 | refine below_set ?_ GE627.out) | exact HB.out)⟩

end Go.Proofs.Ytcpmmkennnjalaa.Q
end
section
-- Written by xrow.py, a program of this session's. Lean checks it.
namespace Go.Proofs.Ytcpmmkennnjalaa.Q
/-- What is left to prove of the law TopKari. -/
def mizmazetop_TopKari.Pure : Prop := ∀ (l0_0 : List (List Int)), ∀ (a1 : Int), RowsOk l0_0 → (-9223372036854775808 ≤ a1 ∧ a1 ≤ 9223372036854775807) → ∃ k, mizmazetop_TopKari.f k l0_0 a1 = some true
end Go.Proofs.Ytcpmmkennnjalaa.Q
end
section
namespace Go.Proofs.Ytcpmmkennnjalaa.Pure
open Go.RowKit Go.Proofs.YtcpmmkennnjalaaW.PrintWords Go.Proofs.YtcpmmkennnjalaaW.PrintLast Go.Proofs.YtcpmmkennnjalaaW.PrintMore Go.Proofs.Ytcpmmkennnjalaa.Q
set_option linter.unusedVariables false
set_option linter.unusedSectionVars false
set_option linter.unusedSimpArgs false
/-! ### what Extend finds -/
/-- the set that a word leads into s0 -/
def pw (f : Nat → Nat → Nat) (n s0 : Nat) : List Nat → Nat
  | [] => s0
  | x :: w => bk f (pw f n s0 w) x n
theorem pw_bit {f : Nat → Nat → Nat} {n m s0 : Nat} (hf : ∀ s x, s < n → x < m → f s x < n) : ∀ (w : List Nat) (t : Nat), Wd m w → t < n → (pw f n s0 w).testBit t = s0.testBit (run f t w)
  | [], t, _, _ => rfl
  | x :: w, t, hw, ht => by
    show (bk f (pw f n s0 w) x n).testBit t = _
    rw [bk_bit, decide_eq_true ht, Bool.true_and, pw_bit hf w (f t x) hw.tail (hf t x ht hw.head)]
    rfl
theorem pw_lt {f : Nat → Nat → Nat} {n s0 : Nat} (h0 : s0 < 2 ^ n) : ∀ w, pw f n s0 w < 2 ^ n
  | [] => h0
  | x :: w => bk_lt f _ x n n (Nat.le_refl _)
/-- an element of a level, as it is told -/
def tl (f : Nat → Nat → Nat) (n s0 : Nat) (w : List Nat) : Int × List Int := ((pw f n s0 w : Nat), toI w)
/-- which elements of a row have not been met -/
def frW (g : List Nat → Nat) : List (List Nat) → List Nat → List (List Nat) × List Nat
  | [], mt => ([], mt)
  | w :: l, mt => if g w ∈ mt then frW g l mt else (w :: (frW g l (mt ++ [g w])).1, (frW g l (mt ++ [g w])).2)
theorem frW_told (f : Nat → Nat → Nat) (n s0 : Nat) : ∀ (l : List (List Nat)) (mt : List Nat), freshF (l.map (tl f n s0)) (toI mt) = ((frW (pw f n s0) l mt).1.map (tl f n s0), toI (frW (pw f n s0) l mt).2)
  | [], mt => rfl
  | w :: l, mt => by
    have hm : ((pw f n s0 w : Nat) : Int) ∈ toI mt ↔ pw f n s0 w ∈ mt := mem_toIE
    rw [List.map_cons, freshF, frW]
    by_cases h : pw f n s0 w ∈ mt
    · rw [if_pos h, if_pos (show (tl f n s0 w).1 ∈ toI mt from hm.2 h)]
      exact frW_told f n s0 l mt
    · rw [if_neg h, if_neg (show ¬ (tl f n s0 w).1 ∈ toI mt from fun e => h (hm.1 e))]
      have e : toI mt ++ [(tl f n s0 w).1] = toI (mt ++ [pw f n s0 w]) := by unfold toI; rw [List.map_append]; rfl
      rw [e, frW_told f n s0 l (mt ++ [pw f n s0 w])]
      rfl
theorem frW_spec (g : List Nat → Nat) : ∀ (l : List (List Nat)) (mt : List Nat), mt.Nodup → (∀ w ∈ (frW g l mt).1, w ∈ l) ∧ (∀ s ∈ mt, s ∈ (frW g l mt).2) ∧ (∀ w ∈ l, g w ∈ (frW g l mt).2) ∧ (∀ s ∈ (frW g l mt).2, s ∈ mt ∨ ∃ w ∈ (frW g l mt).1, g w = s) ∧ (frW g l mt).2.Nodup ∧ (frW g l mt).2.length = mt.length + (frW g l mt).1.length ∧ (frW g l mt).1.Sublist l
  | [], mt, hn => ⟨fun w h => h, fun s h => h, (fun w h => by cases h), fun s h => Or.inl h, hn, rfl, List.Sublist.refl _⟩
  | w :: l, mt, hn => by
    rw [frW]
    by_cases h : g w ∈ mt
    · rw [if_pos h]
      obtain ⟨h1, h2, h3, h4, h5, h6, h7⟩ := frW_spec g l mt hn
      refine ⟨fun v hv => List.mem_cons_of_mem _ (h1 v hv), h2, fun v hv => ?_, h4, h5, h6, h7.cons _⟩
      rcases List.mem_cons.1 hv with rfl | hv
      · exact h2 _ h
      · exact h3 v hv
    · rw [if_neg h]
      have hn2 : (mt ++ [g w]).Nodup := by
        rw [List.nodup_append]
        refine ⟨hn, by simp, fun a ha b hb => ?_⟩
        rw [List.mem_singleton.1 hb]
        exact fun e => h (e ▸ ha)
      obtain ⟨h1, h2, h3, h4, h5, h6, h7⟩ := frW_spec g l (mt ++ [g w]) hn2
      refine ⟨fun v hv => ?_, fun s hs => h2 s (List.mem_append.2 (.inl hs)), fun v hv => ?_, fun s hs => ?_, h5, ?_, h7.cons_cons _⟩
      · rcases List.mem_cons.1 hv with rfl | hv
        · exact List.mem_cons_self
        · exact List.mem_cons_of_mem _ (h1 v hv)
      · rcases List.mem_cons.1 hv with rfl | hv
        · exact h2 _ (List.mem_append.2 (.inr (by simp)))
        · exact h3 v hv
      · rcases h4 s hs with c | ⟨v, hv, e⟩
        · rcases List.mem_append.1 c with c | c
          · exact .inl c
          · exact .inr ⟨w, List.mem_cons_self, (List.mem_singleton.1 c).symm⟩
        · exact .inr ⟨v, List.mem_cons_of_mem _ hv, e⟩
      · rw [h6, List.length_append, List.length_cons]; simp; omega
/-- all words of a level with one letter in front -/
def nxW (m : Nat) (ws : List (List Nat)) : List (List Nat) := (List.range m).flatMap fun x => ws.map fun w => x :: w
theorem nxW_mem {m : Nat} {ws : List (List Nat)} {v : List Nat} : v ∈ nxW m ws ↔ ∃ x w, x < m ∧ w ∈ ws ∧ v = x :: w := by
  unfold nxW
  rw [List.mem_flatMap]
  constructor
  · rintro ⟨x, hx, hv⟩
    obtain ⟨w, hw, rfl⟩ := List.mem_map.1 hv
    exact ⟨x, w, List.mem_range.1 hx, hw, rfl⟩
  · rintro ⟨x, w, hx, hw, rfl⟩
    exact ⟨x, List.mem_range.2 hx, List.mem_map.2 ⟨w, hw, rfl⟩⟩
theorem nxW_len (ws : List (List Nat)) : ∀ m, (nxW m ws).length = m * ws.length
  | 0 => by simp [nxW]
  | m + 1 => by
    have := nxW_len ws m
    unfold nxW at this ⊢
    rw [List.range_succ, List.flatMap_append, List.length_append, this, Nat.succ_mul]
    simp
theorem nxW_nodup {ws : List (List Nat)} (h : ws.Nodup) : ∀ m, (nxW m ws).Nodup
  | 0 => by simp [nxW]
  | m + 1 => by
    have ih := nxW_nodup h m
    have e : nxW (m + 1) ws = nxW m ws ++ ws.map fun w => m :: w := by
      unfold nxW
      rw [List.range_succ, List.flatMap_append]; simp
    rw [e, List.nodup_append]
    refine ⟨ih, ?_, fun a ha b hb => ?_⟩
    · exact List.pairwise_map.2 (h.imp fun hne e => hne (by injection e))
    · obtain ⟨x, w, hx, _, rfl⟩ := nxW_mem.1 ha
      obtain ⟨u, _, rfl⟩ := List.mem_map.1 hb
      intro e
      injection e with e1 _
      omega
theorem toI_back (l : List Nat) : (toI l).map Int.toNat = l := by
  unfold toI
  rw [List.map_map]
  exact (List.map_congr_left (g := id) fun x _ => rfl).trans (List.map_id l)
theorem toI_inj {u v : List Nat} (h : toI u = toI v) : u = v := by
  have := congrArg (List.map Int.toNat) h
  rw [toI_back, toI_back] at this
  exact this
section
variable {rows : List (List Int)} {n m : Nat} (V : VA rows n m) (hn : n ≤ 12) {s0 : Nat} (h0 : s0 < 2 ^ n) {c : Nat}
include V hn h0
theorem lv_get (ws : List (List Nat)) {j : Nat} (h : j < ws.length) : rdMo (ws.map (tl (nx rows) n s0)) (j : Int) = tl (nx rows) n s0 ws[j] := by
  show (ws.map _).getD (j : Int).toNat (0, []) = _
  rw [Int.toNat_natCast, List.getD_eq_getElem?_getD, List.getElem?_map, List.getElem?_eq_getElem h]; rfl
/-- one letter in front of all words of a level -/
theorem l2_ev {x : Nat} (hx : x < m) (ws : List (List Nat)) (hw : ∀ w ∈ ws, w.length < 1000000) (hl : ws.length ≤ 100000) : ∀ (nw fw : List (List Nat)), nw.length ≤ 10000000 → fw.length ≤ 10000000 → Ev (fun k => euler_Extend.l2 k rows (c : Int) (ws.map (tl (nx rows) n s0)) (x : Int) 0 (nw.map (tl (nx rows) n s0)) (fw.map toI)) ((nw ++ ws.map fun w => x :: w).map (tl (nx rows) n s0), (fw ++ (ws.map fun w => x :: w).filter fun w => decide (c < card n (pw (nx rows) n s0 w))).map toI) := by
  intro nw fw hnw hfw
  have key : ∀ d j : Nat, j + d = ws.length → ∀ (nw fw : List (List Nat)), nw.length ≤ 10000000 + j → fw.length ≤ 10000000 + j → Ev (fun k => euler_Extend.l2 k rows (c : Int) (ws.map (tl (nx rows) n s0)) (x : Int) (j : Int) (nw.map (tl (nx rows) n s0)) (fw.map toI)) ((nw ++ (ws.drop j).map fun w => x :: w).map (tl (nx rows) n s0), (fw ++ ((ws.drop j).map fun w => x :: w).filter fun w => decide (c < card n (pw (nx rows) n s0 w))).map toI) := by
    intro d
    induction d with
    | zero =>
      intro j hj nw fw _ _
      obtain rfl : j = ws.length := by omega
      refine Ev.next (g := fun k => euler_Extend.l2 k rows (c : Int) (ws.map (tl (nx rows) n s0)) (x : Int) (ws.length : Int) (nw.map (tl (nx rows) n s0)) (fw.map toI)) ?_
      have e : ∀ k, euler_Extend.l2 (k + 1) rows (c : Int) (ws.map (tl (nx rows) n s0)) (x : Int) (ws.length : Int) (nw.map (tl (nx rows) n s0)) (fw.map toI) = some (nw.map (tl (nx rows) n s0), fw.map toI) := fun k => by
        rw [euler_Extend.l2, List.length_map, if_neg (by omega)]
      rw [List.drop_length]
      refine Ev.congr e ?_
      simp only [List.map_nil, List.append_nil, List.filter_nil]
      exact Ev.now _
    | succ d ih =>
      intro j hj nw fw hnw hfw
      have hjl : j < ws.length := by omega
      have hwl := hw ws[j] (List.getElem_mem hjl)
      have hb := back_ev V hn (pw_lt (f := nx rows) (n := n) h0 ws[j]) hx
      have hz := size_evE hn (bk_lt (nx rows) (pw (nx rows) n s0 ws[j]) x n n (Nat.le_refl _))
      have hstep := ih (j + 1) (by omega) (nw ++ [x :: ws[j]]) (fw ++ if c < card n (pw (nx rows) n s0 (x :: ws[j])) then [x :: ws[j]] else []) (by rw [List.length_append]; simp; omega) (by rw [List.length_append]; split <;> simp <;> omega)
      have r1 : (nw ++ [x :: ws[j]]) ++ (ws.drop (j + 1)).map (fun w => x :: w) = nw ++ (ws.drop j).map fun w => x :: w := by
        rw [List.drop_eq_getElem_cons hjl, List.map_cons, List.append_assoc]; rfl
      have r2 : (fw ++ if c < card n (pw (nx rows) n s0 (x :: ws[j])) then [x :: ws[j]] else []) ++ ((ws.drop (j + 1)).map fun w => x :: w).filter (fun w => decide (c < card n (pw (nx rows) n s0 w))) = fw ++ ((ws.drop j).map fun w => x :: w).filter fun w => decide (c < card n (pw (nx rows) n s0 w)) := by
        rw [List.drop_eq_getElem_cons hjl, List.map_cons, List.append_assoc, List.filter_cons]
        by_cases h : c < card n (pw (nx rows) n s0 (x :: ws[j]))
        · rw [if_pos h, if_pos (decide_eq_true h)]; rfl
        · rw [if_neg h, if_neg (fun e => h (of_decide_eq_true e))]; rfl
      rw [r1, r2] at hstep
      refine Ev.step (f := fun k => (euler_back.f k rows (((pw (nx rows) n s0 ws[j] : Nat)) : Int) (x : Int)).bind fun t => (euler_size.f k t).bind fun s => if (c : Int) < s then euler_Extend.l2 k rows (c : Int) (ws.map (tl (nx rows) n s0)) (x : Int) ((j + 1 : Nat) : Int) (nw.map (tl (nx rows) n s0) ++ [(t, (x : Int) :: toI ws[j])]) (fw.map toI ++ [(x : Int) :: toI ws[j]]) else euler_Extend.l2 k rows (c : Int) (ws.map (tl (nx rows) n s0)) (x : Int) ((j + 1 : Nat) : Int) (nw.map (tl (nx rows) n s0) ++ [(t, (x : Int) :: toI ws[j])]) (fw.map toI)) (fun k => ?_) ?_
      · rw [euler_Extend.l2, List.length_map, if_pos (by omega), if_pos (by omega), lv_get V hn h0 ws hjl]
        simp only [tl, toI_len, List.length_map, if_pos (show ws[j].length < 17592186044415 by omega), if_pos (show nw.length < 4000000000000 by omega), if_pos (show fw.length < 5000000000000 by omega), wrapS (show j + 1 ≤ 9223372036854775807 by omega)]
      · refine Ev.bind hb (Ev.bind hz ?_)
        by_cases h : c < card n (pw (nx rows) n s0 (x :: ws[j]))
        · rw [if_pos h] at hstep
          have h' : (c : Int) < ((card n (bk (nx rows) (pw (nx rows) n s0 ws[j]) x n) : Nat) : Int) := by exact Int.ofNat_lt.2 h
          simp only [if_pos h']
          have e1 : (nw ++ [x :: ws[j]]).map (tl (nx rows) n s0) = nw.map (tl (nx rows) n s0) ++ [(((bk (nx rows) (pw (nx rows) n s0 ws[j]) x n : Nat) : Int), (x : Int) :: toI ws[j])] := by rw [List.map_append]; rfl
          have e2 : (fw ++ [x :: ws[j]]).map toI = fw.map toI ++ [(x : Int) :: toI ws[j]] := by rw [List.map_append]; rfl
          rw [e1, e2] at hstep
          exact hstep
        · rw [if_neg h, List.append_nil] at hstep
          have h' : ¬ (c : Int) < ((card n (bk (nx rows) (pw (nx rows) n s0 ws[j]) x n) : Nat) : Int) := fun e => h (Int.ofNat_lt.1 e)
          simp only [if_neg h']
          have e1 : (nw ++ [x :: ws[j]]).map (tl (nx rows) n s0) = nw.map (tl (nx rows) n s0) ++ [(((bk (nx rows) (pw (nx rows) n s0 ws[j]) x n : Nat) : Int), (x : Int) :: toI ws[j])] := by rw [List.map_append]; rfl
          rw [e1] at hstep
          exact hstep
  have := key ws.length 0 (by omega) nw fw (by omega) (by omega)
  exact this
/-- all letters -/
theorem l1_ev (ws : List (List Nat)) (hw : ∀ w ∈ ws, w.length < 1000000) (hl : ws.length ≤ 100000) : Ev (fun k => euler_Extend.l1 k rows (c : Int) (ws.map (tl (nx rows) n s0)) (m : Int) 0 [] []) ((nxW m ws).map (tl (nx rows) n s0), ((nxW m ws).filter fun w => decide (c < card n (pw (nx rows) n s0 w))).map toI) := by
  have hm6 := V.m6
  have key : ∀ d x : Nat, x + d = m → Ev (fun k => euler_Extend.l1 k rows (c : Int) (ws.map (tl (nx rows) n s0)) (m : Int) (x : Int) ((nxW x ws).map (tl (nx rows) n s0)) (((nxW x ws).filter fun w => decide (c < card n (pw (nx rows) n s0 w))).map toI)) ((nxW m ws).map (tl (nx rows) n s0), ((nxW m ws).filter fun w => decide (c < card n (pw (nx rows) n s0 w))).map toI) := by
    intro d
    induction d with
    | zero =>
      intro x hx
      obtain rfl : x = m := by omega
      refine Ev.next (g := fun k => euler_Extend.l1 k rows (c : Int) (ws.map (tl (nx rows) n s0)) (x : Int) (x : Int) ((nxW x ws).map (tl (nx rows) n s0)) (((nxW x ws).filter fun w => decide (c < card n (pw (nx rows) n s0 w))).map toI)) ?_
      have e : ∀ k, euler_Extend.l1 (k + 1) rows (c : Int) (ws.map (tl (nx rows) n s0)) (x : Int) (x : Int) ((nxW x ws).map (tl (nx rows) n s0)) (((nxW x ws).filter fun w => decide (c < card n (pw (nx rows) n s0 w))).map toI) = some ((nxW x ws).map (tl (nx rows) n s0), ((nxW x ws).filter fun w => decide (c < card n (pw (nx rows) n s0 w))).map toI) := fun k => by
        rw [euler_Extend.l1, if_neg (by omega)]
      exact Ev.congr e (Ev.now _)
    | succ d ih =>
      intro x hx
      have hxm : x < m := by omega
      have hlen : (nxW x ws).length ≤ 600000 := by
        rw [nxW_len]
        exact Nat.mul_le_mul (show x ≤ 6 by omega) hl
      have h2 := l2_ev V hn h0 (c := c) hxm ws hw hl (nxW x ws) ((nxW x ws).filter fun w => decide (c < card n (pw (nx rows) n s0 w))) (by omega) (by have := List.length_filter_le (fun w => decide (c < card n (pw (nx rows) n s0 w))) (nxW x ws); omega)
      have e : nxW (x + 1) ws = nxW x ws ++ ws.map fun w => x :: w := by
        unfold nxW
        rw [List.range_succ, List.flatMap_append]; simp
      rw [← List.filter_append, ← e] at h2
      refine Ev.step (f := fun k => (euler_Extend.l2 k rows (c : Int) (ws.map (tl (nx rows) n s0)) (x : Int) 0 ((nxW x ws).map (tl (nx rows) n s0)) (((nxW x ws).filter fun w => decide (c < card n (pw (nx rows) n s0 w))).map toI)).bind fun p => euler_Extend.l1 k rows (c : Int) (ws.map (tl (nx rows) n s0)) (m : Int) ((x + 1 : Nat) : Int) p.1 p.2) (fun k => ?_) (Ev.bind h2 (ih (x + 1) (by omega)))
      rw [euler_Extend.l1, if_pos (by omega), wrapS (by omega)]
  exact key m 0 (by omega)
end
end Go.Proofs.Ytcpmmkennnjalaa.Pure
end
section
namespace Go.Proofs.Ytcpmmkennnjalaa.Pure
open Go.RowKit Go.Proofs.YtcpmmkennnjalaaW.PrintWords Go.Proofs.YtcpmmkennnjalaaW.PrintLast Go.Proofs.YtcpmmkennnjalaaW.PrintMore Go.Proofs.Ytcpmmkennnjalaa.Q
set_option linter.unusedVariables false
set_option linter.unusedSectionVars false
set_option linter.unusedSimpArgs false
/-! ### level after level -/
theorem perm_tl {f : Nat → Nat → Nat} {n s0 : Nat} {L : List (Int × List Int)} {nw : List (List Nat)} (h : L.Perm (nw.map (tl f n s0))) : ∃ sw : List (List Nat), sw.Perm nw ∧ L = sw.map (tl f n s0) := by
  refine ⟨L.map fun p => p.2.map Int.toNat, ?_, ?_⟩
  · have h1 := h.map fun p : Int × List Int => p.2.map Int.toNat
    rw [List.map_map] at h1
    have e : nw.map ((fun p : Int × List Int => p.2.map Int.toNat) ∘ tl f n s0) = nw := by
      exact (List.map_congr_left (g := id) fun w _ => toI_back w).trans (List.map_id nw)
    rw [e] at h1
    exact h1
  · rw [List.map_map]
    have : ∀ p ∈ L, (tl f n s0 ∘ fun p : Int × List Int => p.2.map Int.toNat) p = p := fun p hp => by
      obtain ⟨w, _, rfl⟩ := List.mem_map.1 (h.subset hp)
      show tl f n s0 ((toI w).map Int.toNat) = _
      rw [toI_back]
    exact ((List.map_congr_left (g := id) this).trans (List.map_id L)).symm
/-- the state of the search after all words of at most d letters -/
structure Lvl (f : Nat → Nat → Nat) (n m s0 c d : Nat) (ws : List (List Nat)) (mt : List Nat) : Prop where
  wd : ∀ w ∈ ws, Wd m w ∧ w.length = d
  nd : ws.Nodup
  on : ∀ w ∈ ws, pw f n s0 w ∈ mt
  lt : ∀ s ∈ mt, s < 2 ^ n
  mnd : mt.Nodup
  all : ∀ w, Wd m w → w.length ≤ d → pw f n s0 w ∈ mt
  cl : ∀ s ∈ mt, (∃ w ∈ ws, pw f n s0 w = s) ∨ ∀ x, x < m → bk f s x n ∈ mt
  few : ∀ s ∈ mt, card n s ≤ c
  wl : ws.length ≤ 2 ^ n
  dl : d + 1 ≤ mt.length
theorem Lvl.len {f : Nat → Nat → Nat} {n m s0 c d : Nat} {ws : List (List Nat)} {mt : List Nat} (h : Lvl f n m s0 c d ws mt) : mt.length ≤ 2 ^ n := by
  have := nodup_sub (T := List.range (2 ^ n)) h.mnd fun s hs => List.mem_range.2 (h.lt s hs)
  simpa using this
/-- when nothing new comes, all words are seen -/
theorem Lvl.closed {f : Nat → Nat → Nat} {n m s0 c d : Nat} {mt : List Nat} (h : Lvl f n m s0 c d [] mt) : ∀ w, Wd m w → pw f n s0 w ∈ mt
  | [], _ => h.all [] (Wd.nil _) (Nat.zero_le _)
  | x :: w, hw => by
    rcases h.cl _ (h.closed w hw.tail) with ⟨v, hv, _⟩ | h1
    · cases hv
    · exact h1 x hw.head
theorem Lvl.next {f : Nat → Nat → Nat} {n m s0 c d : Nat} {ws : List (List Nat)} {mt : List Nat} (h : Lvl f n m s0 c d ws mt) (hs0 : s0 < 2 ^ n) {sw : List (List Nat)} (hsw : sw.Perm (nxW m ws)) (hno : ∀ w ∈ nxW m ws, card n (pw f n s0 w) ≤ c) (hne : (frW (pw f n s0) sw mt).1 ≠ []) : Lvl f n m s0 c (d + 1) (frW (pw f n s0) sw mt).1 (frW (pw f n s0) sw mt).2 := by
  obtain ⟨h1, h2, h3, h4, h5, h6, h7⟩ := frW_spec (pw f n s0) sw mt h.mnd
  have hin : ∀ w ∈ (frW (pw f n s0) sw mt).1, w ∈ nxW m ws := fun w hw => hsw.subset (h1 w hw)
  have hsub : ∀ s ∈ (frW (pw f n s0) sw mt).2, s < 2 ^ n := fun s hs => by
    rcases h4 s hs with c1 | ⟨w, hw, rfl⟩
    · exact h.lt s c1
    · exact pw_lt hs0 w
  have hl : (frW (pw f n s0) sw mt).2.length ≤ 2 ^ n := by
    have := nodup_sub (T := List.range (2 ^ n)) h5 fun s hs => List.mem_range.2 (hsub s hs)
    simpa using this
  have hstep : ∀ s ∈ mt, ∀ x, x < m → bk f s x n ∈ (frW (pw f n s0) sw mt).2 := fun s hs x hx => by
    rcases h.cl s hs with ⟨w, hw, rfl⟩ | hcl
    · exact h3 (x :: w) (hsw.symm.subset (nxW_mem.2 ⟨x, w, hx, hw, rfl⟩))
    · exact h2 _ (hcl x hx)
  refine ⟨fun w hw => ?_, ?_, fun w hw => h3 w (h1 w hw), hsub, h5, fun w hw hl => ?_, fun s hs => ?_, fun s hs => ?_, by omega, ?_⟩
  · obtain ⟨x, u, hx, hu, rfl⟩ := nxW_mem.1 (hin w hw)
    obtain ⟨a, b⟩ := h.wd u hu
    exact ⟨Wd.cons hx a, by rw [List.length_cons, b]⟩
  · exact h7.nodup ((hsw.nodup_iff).2 (nxW_nodup h.nd m))
  · cases w with
    | nil => exact h2 _ (h.all [] (Wd.nil _) (Nat.zero_le _))
    | cons x w => exact hstep _ (h.all w hw.tail (by simpa using hl)) x hw.head
  · rcases h4 s hs with c1 | c1
    · exact .inr (hstep s c1)
    · exact .inl c1
  · rcases h4 s hs with c1 | ⟨w, hw, rfl⟩
    · exact h.few s c1
    · exact hno w (hin w hw)
  · have : 0 < (frW (pw f n s0) sw mt).1.length := List.length_pos_iff.2 hne
    have := h.dl
    omega
/-- what the search returns -/
def ExtSays (f : Nat → Nat → Nat) (n m s0 c : Nat) (r : List Int × Int) : Prop :=
  (∃ w, Wd m w ∧ r = (toI w, 0) ∧ c < card n (pw f n s0 w) ∧ (∀ v, Wd m v → c < card n (pw f n s0 v) → w.length ≤ v.length) ∧ w.length ≤ 4096) ∨ (r = ([], 4) ∧ ∀ v, Wd m v → card n (pw f n s0 v) ≤ c)
section
variable {rows : List (List Int)} {n m : Nat} (V : VA rows n m) (hn : n ≤ 12) {s0 : Nat} (h0 : s0 < 2 ^ n) {c : Nat}
include V hn h0
theorem l0_ev : ∀ (e d : Nat) (ws : List (List Nat)) (mt : List Nat), 2 ^ n + 1 ≤ mt.length + e → Lvl (nx rows) n m s0 c d ws mt → ∃ r, ExtSays (nx rows) n m s0 c r ∧ Ev (fun k => euler_Extend.l0 k rows (c : Int) (ws.map (tl (nx rows) n s0)) (toI mt)) r
  | 0, d, ws, mt, he, h => by have := h.len; omega
  | e + 1, d, ws, mt, he, h => by
    have hlen := h.len
    have hp : 2 ^ n ≤ 4096 := Nat.le_trans (Nat.pow_le_pow_right (by decide : 0 < 2) hn) (by decide)
    have hm0 := V.m0
    have hm6 := V.m6
    have hdl := h.dl
    have hwl := h.wl
    by_cases hws : ws = []
    · subst hws
      refine ⟨([], 4), .inr ⟨rfl, fun v hv => h.few _ (h.closed v hv)⟩, ?_⟩
      refine Ev.next (g := fun k => euler_Extend.l0 k rows (c : Int) (([] : List (List Nat)).map (tl (nx rows) n s0)) (toI mt)) ?_
      have e : ∀ k, euler_Extend.l0 (k + 1) rows (c : Int) (([] : List (List Nat)).map (tl (nx rows) n s0)) (toI mt) = some ([], 4) := fun k => by
        rw [euler_Extend.l0, if_neg (by simp)]
      exact Ev.congr e (Ev.now _)
    · have hpos : 0 < ws.length := List.length_pos_iff.2 hws
      have h1 := l1_ev V hn h0 (c := c) ws (fun w hw => by have := (h.wd w hw).2; omega) (by omega)
      have hnl : (nxW m ws).length ≤ 24576 := by
        rw [nxW_len]
        exact Nat.le_trans (Nat.mul_le_mul hm6 (show ws.length ≤ 4096 by omega)) (by decide)
      have hnl0 : 0 < (nxW m ws).length := by rw [nxW_len]; exact Nat.mul_pos hm0 hpos
      have hnw : ∀ w ∈ nxW m ws, Wd m w ∧ w.length = d + 1 := fun w hw => by
        obtain ⟨x, u, hx, hu, rfl⟩ := nxW_mem.1 hw
        obtain ⟨a, b⟩ := h.wd u hu
        exact ⟨Wd.cons hx a, by rw [List.length_cons, b]⟩
      have hL : auto_Letters.f rows = some (m : Int) := by
        have h : (rd_L1 rows 0).length = m := V.row 0 V.n0
        have h60 := V.n60
        have hn0 := V.n0
        have hlen := V.len
        unfold auto_Letters.f
        rw [if_pos (by omega), h]
      -- one level
      have hstep : ∀ {r : List Int × Int} {g : Nat → Option (List Int × Int)}, (∀ k, (if 0 < (((nxW m ws).filter fun w => decide (c < card n (pw (nx rows) n s0 w))).map toI).length then ((slices_MinFunc.f k (((nxW m ws).filter fun w => decide (c < card n (pw (nx rows) n s0 w))).map toI)).bind fun o => some (o, 0)) else (if freshOk ((nxW m ws).map (tl (nx rows) n s0)) = true then euler_Extend.l0 k rows (c : Int) (freshF (sortM ((nxW m ws).map (tl (nx rows) n s0))) (toI mt)).1 (freshF (sortM ((nxW m ws).map (tl (nx rows) n s0))) (toI mt)).2 else none)) = g k) → Ev g r → Ev (fun k => euler_Extend.l0 k rows (c : Int) (ws.map (tl (nx rows) n s0)) (toI mt)) r := fun hg h => by
        refine Ev.step (f := fun k => (euler_Extend.l1 k rows (c : Int) (ws.map (tl (nx rows) n s0)) (m : Int) 0 [] []).bind fun p => if 0 < p.2.length then ((slices_MinFunc.f k p.2).bind fun o => some (o, 0)) else (if freshOk p.1 = true then euler_Extend.l0 k rows (c : Int) (freshF (sortM p.1) (toI mt)).1 (freshF (sortM p.1) (toI mt)).2 else none)) (fun k => ?_) (Ev.bind h1 (Ev.congr hg h))
        rw [euler_Extend.l0, List.length_map, if_pos hpos, hL, Option.bind_some]
      generalize hF : (nxW m ws).filter (fun w => decide (c < card n (pw (nx rows) n s0 w))) = F at hstep
      have hFm : ∀ w, w ∈ F ↔ w ∈ nxW m ws ∧ c < card n (pw (nx rows) n s0 w) := fun w => by rw [← hF, List.mem_filter, decide_eq_true_iff]
      by_cases hFe : F = []
      · -- nothing larger: the next level
        subst hFe
        have hno : ∀ w ∈ nxW m ws, card n (pw (nx rows) n s0 w) ≤ c := fun w hw => by
          apply Classical.byContradiction
          intro hc
          have := (hFm w).2 ⟨hw, by omega⟩
          cases this
        have hok : freshOk ((nxW m ws).map (tl (nx rows) n s0)) = true := by
          unfold freshOk
          refine decide_eq_true ⟨by rw [List.length_map]; exact hnl0, by rw [List.length_map]; omega, fun r hr => ?_, ?_⟩
          · obtain ⟨w, hw, rfl⟩ := List.mem_map.1 hr
            show (toI w).length < _
            rw [toI_len, (hnw w hw).2]; omega
          · rw [List.map_map]
            exact List.pairwise_map.2 ((nxW_nodup h.nd m).imp fun hne e => hne (toI_inj e))
        obtain ⟨sw, hsw, hse⟩ := perm_tl (sortM_perm ((nxW m ws).map (tl (nx rows) n s0)))
        have hfr := frW_told (nx rows) n s0 sw mt
        rw [← hse] at hfr
        obtain ⟨f1, f2, f3, f4, f5, f6, f7⟩ := frW_spec (pw (nx rows) n s0) sw mt h.mnd
        by_cases hne : (frW (pw (nx rows) n s0) sw mt).1 = []
        · have hall : ∀ w, Wd m w → pw (nx rows) n s0 w ∈ mt := by
            intro w
            induction w with
            | nil => intro _; exact h.all [] (Wd.nil _) (Nat.zero_le _)
            | cons x w ihw =>
              intro hw
              rcases h.cl _ (ihw hw.tail) with ⟨v, hv, hve⟩ | hcl
              · have h7 := f3 (x :: v) (hsw.symm.subset (nxW_mem.2 ⟨x, v, hw.head, hv, rfl⟩))
                have h8 : pw (nx rows) n s0 (x :: v) = pw (nx rows) n s0 (x :: w) := by
                  show bk (nx rows) (pw (nx rows) n s0 v) x n = bk (nx rows) (pw (nx rows) n s0 w) x n
                  rw [hve]
                rw [h8] at h7
                rcases f4 _ h7 with h9 | ⟨u, hu, _⟩
                · exact h9
                · rw [hne] at hu; cases hu
              · exact hcl x hw.head
          refine ⟨([], 4), .inr ⟨rfl, fun v hv => h.few _ (hall v hv)⟩, ?_⟩
          refine hstep (g := fun k => euler_Extend.l0 k rows (c : Int) (([] : List (List Nat)).map (tl (nx rows) n s0)) (toI (frW (pw (nx rows) n s0) sw mt).2)) (fun k => ?_) ?_
          · rw [if_neg (by simp), if_pos hok, hfr, hne]
          · refine Ev.next (g := fun k => euler_Extend.l0 k rows (c : Int) (([] : List (List Nat)).map (tl (nx rows) n s0)) (toI (frW (pw (nx rows) n s0) sw mt).2)) ?_
            have e : ∀ k, euler_Extend.l0 (k + 1) rows (c : Int) (([] : List (List Nat)).map (tl (nx rows) n s0)) (toI (frW (pw (nx rows) n s0) sw mt).2) = some ([], 4) := fun k => by
              rw [euler_Extend.l0, if_neg (by simp)]
            exact Ev.congr e (Ev.now _)
        · have hnext := h.next h0 hsw hno hne
          have hlp : 0 < (frW (pw (nx rows) n s0) sw mt).1.length := List.length_pos_iff.2 hne
          obtain ⟨r, hr1, hr2⟩ := l0_ev e (d + 1) _ _ (by omega) hnext
          refine ⟨r, hr1, hstep (g := fun k => euler_Extend.l0 k rows (c : Int) ((frW (pw (nx rows) n s0) sw mt).1.map (tl (nx rows) n s0)) (toI (frW (pw (nx rows) n s0) sw mt).2)) (fun k => ?_) hr2⟩
          rw [if_neg (by simp), if_pos hok, hfr]
      · have hFl : 0 < F.length := List.length_pos_iff.2 hFe
        have hFle : F.length ≤ 24576 := by rw [← hF]; exact Nat.le_trans (List.length_filter_le _ _) hnl
        obtain ⟨o, ho, hmin, hev⟩ := min_ev (l := F.map toI) (by rw [List.length_map]; exact hFl) (by rw [List.length_map]; omega) fun u hu => by
          obtain ⟨w, hw, rfl⟩ := List.mem_map.1 hu
          rw [toI_len, (hnw w ((hFm w).1 hw).1).2]; omega
        obtain ⟨w, hw, rfl⟩ := List.mem_map.1 ho
        obtain ⟨hw1, hw2⟩ := (hFm w).1 hw
        obtain ⟨hw3, hw4⟩ := hnw w hw1
        refine ⟨(toI w, 0), .inl ⟨w, hw3, rfl, hw2, fun v hv hc => ?_, by omega⟩, ?_⟩
        · rw [hw4]
          apply Classical.byContradiction
          intro hlt
          have := h.few _ (h.all v hv (by omega))
          omega
        · refine hstep (g := fun k => (slices_MinFunc.f k (F.map toI)).bind fun o => some (o, 0)) (fun k => ?_) (Ev.bind hev (Ev.now _))
          rw [if_pos (by rw [List.length_map]; exact hFl)]
end
end Go.Proofs.Ytcpmmkennnjalaa.Pure
end
section
namespace Go.Proofs.Ytcpmmkennnjalaa.Pure
open Go.RowKit Go.Proofs.YtcpmmkennnjalaaW.PrintWords Go.Proofs.YtcpmmkennnjalaaW.PrintLast Go.Proofs.YtcpmmkennnjalaaW.PrintMore Go.Proofs.Ytcpmmkennnjalaa.Q
set_option linter.unusedVariables false
set_option linter.unusedSectionVars false
set_option linter.unusedSimpArgs false
/-! ### Extend -/
def mkq (a : Nat) : List Nat → Nat
  | [] => a
  | t :: q => mkq (a ||| 2 ^ t) q
theorem mkq_bit (t : Nat) : ∀ (q : List Nat) (a : Nat), (mkq a q).testBit t = (a.testBit t || decide (t ∈ q))
  | [], a => by simp [mkq]
  | u :: q, a => by
    rw [mkq, mkq_bit t q, Nat.testBit_or, Nat.testBit_two_pow]
    by_cases h : u = t
    · subst h; simp
    · have : t ∈ u :: q ↔ t ∈ q := by rw [List.mem_cons]; exact ⟨fun h1 => h1.elim (fun e => absurd e.symm h) id, .inr⟩
      simp [h, this]
theorem mkq_lt {n : Nat} : ∀ (q : List Nat) (a : Nat), a < 2 ^ n → (∀ x ∈ q, x < n) → mkq a q < 2 ^ n
  | [], a, ha, _ => ha
  | t :: q, a, ha, hq => mkq_lt q _ (Nat.or_lt_two_pow ha (Nat.pow_lt_pow_right (by decide : 1 < 2) (hq t List.mem_cons_self))) fun x hx => hq x (List.mem_cons_of_mem _ hx)
theorem firstE_mkq {n : Nat} (hn : n ≤ 12) (q : List Nat) (hq : ∀ x ∈ q, x < n) : firstE (toI q) = ((mkq 0 q : Nat) : Int) := by
  have key : ∀ (q : List Nat) (a : Nat), a < 2 ^ n → (∀ x ∈ q, x < n) → (toI q).foldl (fun a s => Go.bits .or .u16 a (IntKind.u16.wrap (2 ^ min s.toNat 16))) (a : Int) = ((mkq a q : Nat) : Int) := by
    intro q
    induction q with
    | nil => intro a _ _; rfl
    | cons t q ih =>
      intro a ha hq
      have ht : t < n := hq t List.mem_cons_self
      have h2 : 2 ^ t < 2 ^ n := Nat.pow_lt_pow_right (by decide : 1 < 2) ht
      have h12 := p12 hn ha
      have h12' := p12 hn h2
      show (toI q).foldl _ (Go.bits .or .u16 (a : Int) (IntKind.u16.wrap (2 ^ min ((t : Int)).toNat 16))) = _
      rw [Int.toNat_natCast, Nat.min_eq_left (by omega), show ((2 : Int) ^ t) = ((2 ^ t : Nat) : Int) from pow_cast t, Q.wrap_small (show 2 ^ t < 65536 by omega), bits_or_u16_nat _ _ (by omega) (by omega)]
      exact ih (a ||| 2 ^ t) (Nat.or_lt_two_pow ha h2) fun x hx => hq x (List.mem_cons_of_mem _ hx)
  exact key q 0 (Nat.two_pow_pos n) hq
section
variable {rows : List (List Int)} {n m : Nat} (V : VA rows n m) {q : List Nat} (hq : ∀ x ∈ q, x < n)
include V hq
theorem card_pw {w : List Nat} (hw : Wd m w) : card n (pw (nx rows) n (mkq 0 q) w) = cntS (nx rows) n (fun t => decide (t ∈ q)) w := by
  unfold card cntS
  rw [List.countP_eq_length_filter]
  congr 1
  refine List.filter_congr fun t ht => ?_
  rw [pw_bit (fun s x hs hx => V.nxLt hs hx) w t hw (List.mem_range.1 ht), mkq_bit, Nat.zero_testBit, Bool.false_or]
theorem ext_ev (hn : n ≤ 12) (hs : q.Pairwise (· < ·)) (hl : q.length ≤ n) : (∃ w, Wd m w ∧ q.length < cntS (nx rows) n (fun t => decide (t ∈ q)) w ∧ (∀ v, Wd m v → q.length < cntS (nx rows) n (fun t => decide (t ∈ q)) v → w.length ≤ v.length) ∧ w.length ≤ 4096 ∧ Ev (fun k => euler_Extend.f k rows (toI q)) (toI w, 0)) ∨ ((∀ v, Wd m v → cntS (nx rows) n (fun t => decide (t ∈ q)) v ≤ q.length) ∧ Ev (fun k => euler_Extend.f k rows (toI q)) ([], 4)) := by
  have hlen := V.len
  have h0 : mkq 0 q < 2 ^ n := mkq_lt q 0 (Nat.two_pow_pos n) hq
  have hc0 : card n (mkq 0 q) ≤ q.length := by
    unfold card
    have hnd : ((List.range n).filter fun t => (mkq 0 q).testBit t).Nodup := List.Pairwise.filter _ List.nodup_range
    refine nodup_sub hnd fun t ht => ?_
    rw [List.mem_filter, mkq_bit, Nat.zero_testBit, Bool.false_or] at ht
    exact of_decide_eq_true ht.2
  have hL : Lvl (nx rows) n m (mkq 0 q) q.length 0 [[]] [mkq 0 q] := by
    refine ⟨fun w hw => ?_, by simp, fun w hw => ?_, fun s hs => ?_, by simp, fun w hw hl => ?_, fun s hs => ?_, fun s hs => ?_, ?_, by simp⟩
    · rw [List.mem_singleton.1 hw]; exact ⟨Wd.nil _, rfl⟩
    · rw [List.mem_singleton.1 hw]; exact List.mem_singleton.2 rfl
    · rw [List.mem_singleton.1 hs]; exact h0
    · rw [List.eq_nil_of_length_eq_zero (Nat.le_zero.1 hl)]; exact List.mem_singleton.2 rfl
    · exact .inl ⟨[], List.mem_singleton.2 rfl, (List.mem_singleton.1 hs).symm⟩
    · rw [List.mem_singleton.1 hs]; exact hc0
    · exact Nat.two_pow_pos n
  obtain ⟨r, hr, hev⟩ := l0_ev V hn h0 (2 ^ n) 0 [[]] [mkq 0 q] (by simp; omega) hL
  have hf : Ev (fun k => euler_Extend.f k rows (toI q)) r := by
    unfold euler_Extend.f
    have hv : auto_Valid.f rows = some true := by unfold auto_Valid.f; rw [validB_of V]
    rw [hv]
    simp only [Option.bind_some, if_true]
    refine Ev.bind (auto_set_yes V hq hs (by omega)) ?_
    simp only [if_true, hlen, if_neg (show ¬ 12 < n by omega), inB_toI.2 (show Wd n q from hq), firstE_mkq hn q hq, toI_len]
    exact hev
  rcases hr with ⟨w, hw, rfl, h1, h2, h3⟩ | ⟨rfl, h1⟩
  · refine .inl ⟨w, hw, by rw [← card_pw V hq hw]; exact h1, fun v hv hc => h2 v hv (by rw [card_pw V hq hv]; exact hc), h3, hf⟩
  · exact .inr ⟨fun v hv => by rw [← card_pw V hq hv]; exact h1 v hv, hf⟩
end
end Go.Proofs.Ytcpmmkennnjalaa.Pure
end
section
namespace Go.Proofs.Ytcpmmkennnjalaa.Pure
open Go.RowKit Go.Proofs.YtcpmmkennnjalaaW.PrintWords Go.Proofs.YtcpmmkennnjalaaW.PrintLast Go.Proofs.YtcpmmkennnjalaaW.PrintMore Go.Proofs.Ytcpmmkennnjalaa.Q
set_option linter.unusedVariables false
set_option linter.unusedSectionVars false
set_option linter.unusedSimpArgs false
set_option maxRecDepth 100000 in
theorem balances_ev : Ev (fun k => mizmazetop_balances.f k) true := Ev.of (k := 300) (fun k => mizmazetop_balances.mono k) (by kernel_rfl)
/-- a bit of the number -/
def btK (a : Int) (s : Nat) : Bool := decide (Go.bits .and .i64 (shr .i64 a (IntKind.u64.wrap (s : Int))) 1 = 1)
theorem u64_nn (s : Nat) : 0 ≤ IntKind.u64.wrap (s : Int) := by rw [IntKind.wrap_u64]; omega
theorem cntS_nil {f : Nat → Nat → Nat} {n : Nat} (p : Nat → Bool) : cntS f n (fun t => decide (t ∈ (List.range n).filter p)) [] = ((List.range n).filter p).length := by
  unfold cntS
  rw [List.countP_eq_length_filter]
  congr 1
  refine List.filter_congr fun t ht => ?_
  show decide (t ∈ (List.range n).filter p) = p t
  rw [Bool.eq_iff_iff, decide_eq_true_iff, List.mem_filter]
  exact ⟨fun h => h.2, fun h => ⟨ht, h⟩⟩
theorem len9 {n : Nat} (hn : n ≤ 9) {l : Nat} (h : 6 * l ≤ HH (n - 1)) (h0 : 0 < n) : 6 * l + n ≤ n * n * n := by
  have e : HH (n - 1) + n = n * n * n := by
    obtain ⟨r, rfl⟩ : ∃ r, n = r + 1 := ⟨n - 1, by omega⟩
    unfold HH
    have e1 : (r + 1) * (r + 1) * (r + 1) = (r + 1) * ((r + 1) * (r + 1)) := Nat.mul_assoc _ _ _
    have e2 : (r + 1) * (r + 1) = r * (r + 2) + 1 := by
      rw [Nat.mul_add, Nat.add_mul, Nat.add_mul]; simp only [Nat.mul_one, Nat.one_mul, Nat.mul_add]; omega
    rw [e1, e2, Nat.add_sub_cancel, Nat.mul_comm r (r + 1), Nat.mul_assoc, Nat.mul_add (r + 1) (r * (r + 2)) 1, Nat.mul_one]
  omega
section
variable {rows : List (List Int)} {n m : Nat} (V : VA rows n m) (h9 : n ≤ 9) (a : Int)
include V h9
theorem kari_j0 (hl : Ev (fun k => mizmazetop_TopKari.l0 k a (n : Int) (toI ((List.range n).filter (btK a))) (n : Int) rows) true) : Ev (fun k => mizmazetop_TopKari.j0 k a false rows) true := by
  have hlen := V.len
  refine Ev.next ?_
  simp only [mizmazetop_TopKari.j0, Bool.false_eq_true, if_false, hlen]
  have key : ∀ d i : Nat, i + d = n → Ev (fun k => mizmazetop_TopKari.l0 k a (n : Int) (toI ((List.range i).filter (btK a))) (i : Int) rows) true := by
    intro d
    induction d with
    | zero =>
      intro i hi
      obtain rfl : i = n := by omega
      exact hl
    | succ d ih =>
      intro i hi
      have h := ih (i + 1) (by omega)
      have e : (List.range (i + 1)).filter (btK a) = (List.range i).filter (btK a) ++ if btK a i = true then [i] else [] := by
        rw [List.range_succ, List.filter_append, List.filter_cons, List.filter_nil]
      have hlf := List.length_filter_le (btK a) (List.range i)
      rw [List.length_range] at hlf
      rw [e] at h
      refine Ev.step (f := fun k => mizmazetop_TopKari.l0 k a (n : Int) (toI ((List.range i).filter (btK a) ++ if btK a i = true then [i] else [])) ((i + 1 : Nat) : Int) rows) (fun k => ?_) h
      rw [mizmazetop_TopKari.l0, if_pos (by omega), if_pos (u64_nn i), wrapS (by omega)]
      by_cases c : btK a i = true
      · rw [if_pos c, if_pos (of_decide_eq_true c), toI_len, if_pos (by omega)]
        congr 1
        unfold toI
        rw [List.map_append]; rfl
      · rw [if_neg c, if_neg (fun h => c (decide_eq_true h)), List.append_nil]
  exact key n 0 (by omega)
theorem kari_l1 {q w : List Nat} (hq : q = (List.range n).filter (btK a)) (hw : Wd m w) (hl : w.length ≤ 4096) (hc : q.length < cntS (nx rows) n (fun t => decide (t ∈ q)) w) : Ev (fun k => mizmazetop_TopKari.l1 k a (n : Int) (toI q) (toI w) 0 0 rows) true := by
  have bal : Ev (fun k => (mizmazetop_balances.f k).bind fun t => some t) true := Ev.bind balances_ev (Ev.now _)
  have hp : ∀ s, s < n → decide (s ∈ q) = btK a s := fun s hs => by
    rw [hq, Bool.eq_iff_iff, decide_eq_true_iff, List.mem_filter]
    exact ⟨fun h => h.2, fun h => ⟨List.mem_range.2 hs, h⟩⟩
  have key : ∀ d i : Nat, i + d = n → Ev (fun k => mizmazetop_TopKari.l1 k a (n : Int) (toI q) (toI w) ((((List.range i).countP fun s => decide (run (nx rows) s w ∈ q)) : Nat) : Int) (i : Int) rows) true := by
    intro d
    induction d with
    | zero =>
      intro i hi
      obtain rfl : i = n := by omega
      have hc' : q.length < (List.range i).countP fun s => decide (run (nx rows) s w ∈ q) := hc
      refine Ev.step (f := fun k => (mizmazetop_balances.f k).bind fun t => some t) (fun k => ?_) bal
      rw [mizmazetop_TopKari.l1, if_neg (by omega), toI_len, if_pos (by omega)]
    | succ d ih =>
      intro i hi
      have hin : i < n := by omega
      have h := ih (i + 1) (by omega)
      have hle : (List.range i).countP (fun s => decide (run (nx rows) s w ∈ q)) ≤ i := by
        have := List.countP_le_length (p := fun s => decide (run (nx rows) s w ∈ q)) (l := List.range i)
        rw [List.length_range] at this; exact this
      rw [List.range_succ, List.countP_append, List.countP_cons, List.countP_nil, Nat.zero_add] at h
      refine Ev.step (f := fun k => (mizmazetop_lead.f k rows (i : Int) (toI w)).bind fun t652 => (if 0 ≤ (IntKind.u64.wrap (t652)) then (if (Go.bits .and .i64 (shr .i64 a (IntKind.u64.wrap (t652))) 1) = 1 then (mizmazetop_TopKari.l1 k a (n : Int) (toI q) (toI w) (wrap64 (((((List.range i).countP fun s => decide (run (nx rows) s w ∈ q)) : Nat) : Int) + 1)) ((i + 1 : Nat) : Int) rows) else (mizmazetop_TopKari.l1 k a (n : Int) (toI q) (toI w) ((((List.range i).countP fun s => decide (run (nx rows) s w ∈ q)) : Nat) : Int) ((i + 1 : Nat) : Int) rows)) else (none))) (fun k => ?_) ?_
      · rw [mizmazetop_TopKari.l1, if_pos (by omega), wrapS (show i + 1 ≤ 9223372036854775807 by omega)]
      · refine Ev.bind (topLead_ev V hw (by omega) hin) ?_
        have hrun := V.runLt hin hw
        have hpp := hp _ hrun
        by_cases c : btK a (run (nx rows) i w) = true
        · rw [hpp, if_pos c] at h
          refine Ev.congr (fun k => ?_) h
          rw [if_pos (u64_nn _), if_pos (of_decide_eq_true c), wrapS (by omega)]
        · rw [hpp, if_neg c, Nat.add_zero] at h
          refine Ev.congr (fun k => ?_) h
          rw [if_pos (u64_nn _), if_neg (fun h => c (decide_eq_true h))]
  exact key n 0 (by omega)
end
/-- the numbers that the law compares with -/
theorem kari_nums {n L : Nat} (h9 : n ≤ 9) (h0 : 0 < n) (h6 : 6 * L + n ≤ n * n * n) (hL : L ≤ 1000) : wrap64 (wrap64 (wrap64 ((n : Int) * (n : Int)) - wrap64 (3 * (n : Int))) + 3) = ((n * n : Nat) : Int) - 3 * (n : Int) + 3 ∧ wrap64 (wrap64 ((n : Int) - 1) * wrap64 ((n : Int) - 1)) = (((n - 1) * (n - 1) : Nat) : Int) ∧ decide (wrap64 (6 * (L : Int)) > wrap64 (wrap64 (wrap64 ((n : Int) * (n : Int)) * (n : Int)) - (n : Int))) = false := by
  have hnn : n * n ≤ 81 := Nat.mul_le_mul h9 h9
  have hnnn : n * n * n ≤ 729 := Nat.mul_le_mul hnn h9
  have hmul : (n : Int) * (n : Int) = ((n * n : Nat) : Int) := (Int.natCast_mul n n).symm
  have hmul3 : ((n * n : Nat) : Int) * (n : Int) = ((n * n * n : Nat) : Int) := (Int.natCast_mul (n * n) n).symm
  have hq2 : (n - 1) * (n - 1) ≤ 9 * 9 := Nat.mul_le_mul (show n - 1 ≤ 9 by omega) (show n - 1 ≤ 9 by omega)
  have hmul2 : (((n - 1 : Nat)) : Int) * (((n - 1 : Nat)) : Int) = (((n - 1) * (n - 1) : Nat) : Int) := (Int.natCast_mul _ _).symm
  rw [hmul]
  generalize hX : n * n = X at *
  generalize hY : X * n = Y at *
  generalize hZ : (n - 1) * (n - 1) = Z at *
  refine ⟨?_, ?_, ?_⟩
  · rw [wrapI (z := (X : Int)) (by omega) (by omega), wrapI (z := 3 * (n : Int)) (by omega) (by omega), wrapI (z := (X : Int) - 3 * (n : Int)) (by omega) (by omega), wrapI (by omega) (by omega)]
  · rw [wrapI (z := (n : Int) - 1) (by omega) (by omega), show (n : Int) - 1 = ((n - 1 : Nat) : Int) by omega, hmul2, wrapI (by omega) (by omega)]
  · rw [wrapI (z := (X : Int)) (by omega) (by omega), hmul3, wrapI (z := (Y : Int)) (by omega) (by omega), wrapI (z := (Y : Int) - (n : Int)) (by omega) (by omega), wrapI (z := 6 * (L : Int)) (by omega) (by omega)]
    exact decide_eq_false (by omega)
/-- the law's comparisons, once the numbers are named -/
theorem kari_j2 {rows : List (List Int)} {n : Nat} {a : Int} {q u : List Int} {b is : Bool} {T1 T2 : Int} (e1 : wrap64 (wrap64 (wrap64 ((n : Int) * (n : Int)) - wrap64 (3 * (n : Int))) + 3) = T1) (e2 : wrap64 (wrap64 ((n : Int) - 1) * wrap64 ((n : Int) - 1)) = T2) (e3 : decide (wrap64 (6 * (u.length : Int)) > wrap64 (wrap64 (wrap64 ((n : Int) * (n : Int)) * (n : Int)) - (n : Int))) = false) (g1 : b = true → ¬ (u.length : Int) > T1) (g2 : is = true → ¬ (u.length : Int) > T2) (j3 : Ev (fun k => mizmazetop_TopKari.j3 k a (n : Int) q b false rows) true) : Ev (fun k => mizmazetop_TopKari.j2 k a (n : Int) q b (if is = true then 0 else 4) 0 u false rows) true := by
  refine Ev.step (f := fun k => mizmazetop_TopKari.j3 k a (n : Int) q b false rows) (fun k => ?_) j3
  rw [mizmazetop_TopKari.j2, if_neg Bool.false_ne_true, if_pos rfl, e1, e2, e3]
  cases b with
  | true =>
    rw [if_pos rfl, if_neg (g1 rfl)]
    cases is with
    | true => rw [if_pos rfl, if_pos rfl, if_neg (g2 rfl)]
    | false => rw [if_neg Bool.false_ne_true, if_neg (by decide)]
  | false =>
    rw [if_neg Bool.false_ne_true]
    cases is with
    | true => rw [if_pos rfl, if_pos rfl, if_neg (g2 rfl)]
    | false => rw [if_neg Bool.false_ne_true, if_neg (by decide)]
theorem TopKari : Q.mizmazetop_TopKari.Pure := by
  intro rows a ho ha
  refine Ev.rounds (g := fun k => mizmazetop_TopKari.f k rows a) ?_
  unfold mizmazetop_TopKari.f
  have bal : Ev (fun k => (mizmazetop_balances.f k).bind fun t => some t) true := Ev.bind balances_ev (Ev.now _)
  have out : Ev (fun k => mizmazetop_TopKari.j0 k a true rows) true := by
    refine Ev.next ?_
    simp only [mizmazetop_TopKari.j0, if_true]
    exact bal
  refine Ev.bind (topValid_ev rows) ?_
  cases hv : validB rows with
  | false => simp only [Bool.false_eq_true, if_false]; exact out
  | true =>
    have V := VA.of' hv
    generalize hn : rows.length = n at V
    generalize hm : (rd_L1 rows 0).length = m at V
    have hn0 := V.n0
    have hlen := V.len
    simp only [if_true, hn]
    by_cases h9 : (n : Int) > 9
    · simp only [decide_eq_true h9]; exact out
    simp only [decide_eq_false h9]
    have h9' : n ≤ 9 := by omega
    refine kari_j0 V h9' a ?_
    generalize hqq : (List.range n).filter (btK a) = q
    have hq : ∀ x ∈ q, x < n := fun x hx => by rw [← hqq, List.mem_filter] at hx; exact List.mem_range.1 hx.1
    have hs : q.Pairwise (· < ·) := by rw [← hqq]; exact List.Pairwise.filter _ List.pairwise_lt_range
    have hql : q.length ≤ n := by rw [← hqq]; have := List.length_filter_le (btK a) (List.range n); rw [List.length_range] at this; exact this
    have hq0 : cntS (nx rows) n (fun t => decide (t ∈ q)) [] = q.length := by rw [← hqq]; exact cntS_nil (btK a)
    obtain ⟨b, hb⟩ : ∃ b : Bool, b = true ↔ ∀ t, t < n → inn rows t = m := by
      by_cases h : ∀ t, t < n → inn rows t = m
      · exact ⟨true, fun _ => h, fun _ => rfl⟩
      · exact ⟨false, fun h2 => (by cases h2), fun h2 => absurd h2 h⟩
    have e1 : euler_Eulerian.f rows = some (b, 0) := by
      unfold euler_Eulerian.f; simp [auto_Valid.f, hv, eul_val V hb]
    obtain ⟨rc, hc1, _, hc3⟩ := circ_ev V (p := fun x => @decide (Cyc rows n x) (Classical.propDecidable _)) (fun x _ => by simp)
    obtain ⟨x, is⟩ := rc
    have e2 : Ev (fun k => euler_Circular.f k rows) (x, if is = true then 0 else 4) := by
      unfold euler_Circular.f
      simp only [auto_Valid.f, hv, Option.bind_some, if_true]
      refine Ev.bind hc1 ?_
      cases is with
      | true => simp only [if_true]; exact Ev.now _
      | false =>
        simp only [Bool.false_eq_true, if_false]
        rcases hc3 with ⟨_, h2, _⟩ | ⟨h1, _⟩
        · have h2 : x = 0 := h2
          rw [h2]; exact Ev.now _
        · cases h1
    have hcy : is = true → ∃ y, y < m ∧ Cyc rows n y := fun h => by
      rcases hc3 with ⟨h1, _⟩ | ⟨_, y, _, h2, h3⟩
      · rw [show is = false from h1] at h; cases h
      · exact ⟨y, h2, h3⟩
    refine Ev.step (f := fun k => ((euler_Eulerian.f rows).bind fun bt633 => ((euler_Circular.f k rows).bind fun bt635 => ((reset_Reset.f k rows).bind fun bt637 => ((short_Shortest.f k rows).bind fun bt641 => (if bt633.2 = 0 then (if ((bt637.2 == 0) != (bt641.2 == 0)) = true then (mizmazetop_TopKari.j2 k a (n : Int) (toI q) bt633.1 bt635.2 bt637.2 bt641.1 true rows) else (if bt635.2 = 0 then (mizmazetop_TopKari.j2 k a (n : Int) (toI q) bt633.1 bt635.2 bt637.2 bt641.1 false rows) else (mizmazetop_TopKari.j2 k a (n : Int) (toI q) bt633.1 bt635.2 bt637.2 bt641.1 (bt635.2 != 4) rows))) else (mizmazetop_TopKari.j2 k a (n : Int) (toI q) bt633.1 bt635.2 bt637.2 bt641.1 true rows))))))) (fun k => by rw [mizmazetop_TopKari.l0, if_neg (by omega)]) ?_
    rw [e1]
    simp only [Option.bind_some]
    refine Ev.bind e2 ?_
    obtain ⟨r, hr, hev⟩ := reset_ev V
    refine Ev.bind hev ?_
    have hcode : ∀ (x13 : Int) (u : List Int), Ev (fun k => mizmazetop_TopKari.j2 k a (n : Int) (toI q) b (if is = true then 0 else 4) x13 u false rows) true → Ev (fun k => if (if is = true then (0 : Int) else 4) = 0 then (mizmazetop_TopKari.j2 k a (n : Int) (toI q) b (if is = true then 0 else 4) x13 u false rows) else (mizmazetop_TopKari.j2 k a (n : Int) (toI q) b (if is = true then 0 else 4) x13 u ((if is = true then (0 : Int) else 4) != 4) rows)) true := fun x13 u h => by
      cases is with
      | true => simp only [if_true] at h ⊢; exact h
      | false => simp only [Bool.false_eq_true, if_false, show ¬ ((4 : Int) = 0) by omega, bne_self_eq_false] at h ⊢; exact h
    rcases hr with ⟨w, hw, rfl, hall, hlw⟩ | ⟨rfl, a', b', ha', hb', hab⟩
    · rcases short_val V (by omega) with ⟨u, hu, hua, hum, hS⟩ | ⟨hno, hS⟩
      · refine Ev.bind hS ?_
        simp only [beq_self_eq_true, bne_self_eq_false, Bool.false_eq_true, if_false, if_true]
        refine hcode 0 (toI u) ?_
        have hul := hum w hw hall
        have h6 := len9 h9' (l := u.length) (by omega) hn0
        have hnums := kari_nums (n := n) (L := u.length) h9' hn0 h6 (by have hnn : n * n ≤ 81 := Nat.mul_le_mul h9' h9'
                                                                        have hnnn : n * n * n ≤ 729 := Nat.mul_le_mul hnn h9'
                                                                        omega)
        have g2 : is = true → ¬ ((toI u).length : Int) > (((n - 1) * (n - 1) : Nat) : Int) := fun h => by
          obtain ⟨y, hy, hyc⟩ := hcy h
          obtain ⟨z, z1, z2, z3⟩ := cyc_len V hy hyc hw hall
          have := hum z z1 z3
          rw [toI_len]; omega
        have g1 : b = true → ¬ ((toI u).length : Int) > ((n * n : Nat) : Int) - 3 * (n : Int) + 3 := fun h => by
          obtain ⟨z, z1, z2, z3⟩ := eul_len V (hb.1 h) hw hall
          have := hum z z1 z3
          rw [toI_len]; omega
        have j3 : Ev (fun k => mizmazetop_TopKari.j3 k a (n : Int) (toI q) b false rows) true := by
          refine Ev.next ?_
          simp only [mizmazetop_TopKari.j3, Bool.false_eq_true, if_false]
          have j4t : Ev (fun k => mizmazetop_TopKari.j4 k a (n : Int) (toI q) true rows) true := by
            refine Ev.next ?_
            simp only [mizmazetop_TopKari.j4, if_true]
            exact bal
          cases hbb : b with
          | false => simp only [Bool.false_eq_true, if_false]; exact j4t
          | true =>
            simp only [if_true, toI_len]
            by_cases hz : (q.length : Int) = 0
            · simp only [if_pos hz]; exact j4t
            simp only [if_neg hz]
            by_cases hf : (q.length : Int) = (n : Int)
            · rw [show ((q.length : Int) == (n : Int)) = true from beq_iff_eq.2 hf]; exact j4t
            rw [show ((q.length : Int) == (n : Int)) = false from beq_false_of_ne hf]
            refine Ev.next ?_
            simp only [mizmazetop_TopKari.j4, Bool.false_eq_true, if_false]
            obtain ⟨z, z1, z2, z3⟩ := kari_ext V.m0 (fun s x hs hx => V.nxLt hs hx) (eul_sum V (hb.1 hbb)) hw hall (p := fun t => decide (t ∈ q)) (by rw [hq0]; omega) (by rw [hq0]; omega)
            rw [hq0] at z3
            have z4 : q.length < cntS (nx rows) n (fun t => decide (t ∈ q)) z := z3
            rcases ext_ev V hq (by omega) hs hql with ⟨v, hv1, k1, k2, k3, hev2⟩ | ⟨k1, hev2⟩
            · refine Ev.bind hev2 ?_
              have hvl := k2 z z1 z3
              simp only [if_true, toI_len]
              rw [wrapI (z := (n : Int) - 1) (by omega) (by omega)]
              simp only [if_neg (show ¬ (v.length : Int) > (n : Int) - 1 by omega)]
              refine Ev.bind (topRight_ev V hv1 (by omega)) ?_
              refine Ev.next ?_
              simp only [mizmazetop_TopKari.j5, Bool.not_true, Bool.false_eq_true, if_false]
              exact kari_l1 V h9' a hqq.symm hv1 k3 k1
            · have := k1 z z1
              exact absurd z4 (Nat.not_lt.2 this)
        exact kari_j2 hnums.1 hnums.2.1 (by rw [toI_len]; exact hnums.2.2) g1 g2 j3
      · exact absurd hall (hno w hw)
    · rcases short_val V (by omega) with ⟨u, hu, hua, hum, hS⟩ | ⟨hno, hS⟩
      · exact absurd ⟨u, hu, hua a' b' ha' hb'⟩ hab
      · refine Ev.bind hS ?_
        simp only [show ((4 : Int) == 0) = false from rfl, bne_self_eq_false, Bool.false_eq_true, if_false, if_true]
        refine hcode 4 [] ?_
        refine Ev.next ?_
        simp only [mizmazetop_TopKari.j2, Bool.false_eq_true, if_false, show ¬ ((4 : Int) = 0) by omega]
        exact bal
end Go.Proofs.Ytcpmmkennnjalaa.Pure
end
