/- In any Eulerian automaton that has a reset word, whatever set of states, neither empty nor all, is led into by more states with a word of at most n - 1 letters, and its shortest reset word has at most n^2 - 3n + 3 letters; in any circular one at most (n - 1)^2. (At most 9 states) (text 30 of 42) -/
import Derived.Test.YtcpmmkennnjalaaZTopKarij
import Derived.Test.YtcpmmkennnjalaaZTopKarizc
import Derived.Laws.EntriesVeiled
section
namespace Go.Proofs.Ytcpmmkennnjalaa.Q
open Go.RowKit Go.Proofs.YtcpmmkennnjalaaW.PrintWords Go.Proofs.YtcpmmkennnjalaaW.PrintLast Go.Proofs.YtcpmmkennnjalaaW.PrintMore
set_option linter.unusedVariables false
set_option linter.unusedSimpArgs false
def boundsObj : Obj := .cells #[.func (.func 32) #[] #[], .func (.func 67) #[] #[], .func (.func 68) #[] #[], .func (.func 69) #[] #[], .func (.func 70) #[] #[], .func (.func 71) #[] #[]] 52
set_option maxHeartbeats 1000000 in
theorem bounds_calls (w : World) : Calls Try.prog 34 #[] w fun e w' => e = .returned (.slice (some ⟨w.heap.size, 0, none⟩) 3 3) ∧ w' = w.alloc boundsObj := by
  go_enter Try.func34, Try.ntmps34
  go_wp2
  go_ret
  exact ⟨rfl, rfl⟩
theorem bounds1_calls (n : Int) (w : World) : Calls Try.prog 67 #[.int .i64 n] w fun e w' => e = .returned (.int .i64 (wrap64 (wrap64 (wrap64 (n * n) - wrap64 (3 * n)) + 3))) ∧ w' = w := by
  go_enter Try.func67, Try.ntmps67
  go_wp2
  go_ret
  exact ⟨rfl, rfl⟩
theorem bounds3_calls (n : Int) (w : World) : Calls Try.prog 69 #[.int .i64 n] w fun e w' => e = .returned (.int .i64 (wrap64 (wrap64 (n - 1) * wrap64 (n - 1)))) ∧ w' = w := by
  go_enter Try.func69, Try.ntmps69
  go_wp2
  go_ret
  exact ⟨rfl, rfl⟩
theorem bounds5_calls (n : Int) (w : World) : Calls Try.prog 71 #[.int .i64 n] w fun e w' => e = .returned (.int .i64 (wrap64 (Int.tdiv (wrap64 (wrap64 (wrap64 (n * n) * n) - n)) 6))) ∧ w' = w := by
  go_enter Try.func71, Try.ntmps71
  go_wp2
  go_ret
  exact ⟨rfl, rfl⟩
theorem bounds4_calls (v : Value) (w : World) : Calls Try.prog 70 #[.agg #[v]] w fun e w' => e = .returned (.bool true) ∧ Below w.heap.size w w' := by
  have HB0 := Below.refl w.heap.size w
  go_enter Try.func70, Try.ntmps70
  go_wp2_with ((with_reducible refine gate_dst (N := 1) rfl ?_); refine box_event ?hg (N := 1) ?hd (cs := #[v]) (t := 24) ?hr ?_; (case hd => rfl); (case hg => rfl); (case hr => first | (go_simp; done) | (go_simp; rfl)); intro B hBe w1 hbox hb1;  have HB1 := Aside0.mk (below_step HB0 hb1); clear hbox hb1 hBe)
  go_ret
  exact ⟨rfl, HB1.out⟩
set_option maxHeartbeats 1000000 in
theorem bounds2_calls (k : Nat) (A0_0 : Option Addr) (c0_0 : Nat) (l0_0 : List (List Int)) (r1 : Int) (r2 : Bool) (w : World) (hr0_0 : Kd.C (Kd.slice 3 (Kd.int .i64)) w A0_0 l0_0.length l0_0) (hc0_0 : l0_0.length ≤ c0_0) (h : euler_circular.f k l0_0 = some (r1, r2)) :
    Calls Try.prog 68 #[.agg #[.slice A0_0 l0_0.length c0_0]] w fun e w' => e = .returned (.bool r2) ∧ Below w.heap.size w w' := by
  have HR := Aside0.mk hr0_0
  have HC := Aside0.mk hc0_0
  have HB0 := Below.refl w.heap.size w
  have H := Aside0.mk h
  clear hr0_0 hc0_0 h
  go_enter Try.func68, Try.ntmps68
  go_wp2_with ((with_reducible refine gate_dst (N := 1) rfl ?_); refine box_event ?hg (N := 1) ?hd (cs := #[.slice A0_0 l0_0.length c0_0]) (t := 24) ?hr ?_; (case hd => rfl); (case hg => rfl); (case hr => first | (go_simp; done) | (go_simp; rfl)); intro B hBe w1 hbox hb1;  have hcb : w1.cell? ⟨B, 0, none⟩ = some (.slice A0_0 l0_0.length c0_0) := (blk_cell hbox 0).trans rfl;  have HB1 := Aside0.mk (below_step HB0 hb1); clear hbox hb1 hBe)
  refine (euler_circular.calls k _ _ l0_0 r1 r2 _ (Kd.C_below HR.out HB1.out) HC.out H.out).mono ?_
  rintro e w2 ⟨rfl, hb2⟩
  have HB2 := Aside0.mk (below_step HB1.out hb2)
  clear hb2 hcb
  go_wp2
  go_ret
  exact ⟨rfl, HB2.out⟩
def euler_Bound.f (k : Nat) (l0_0 : List (List Int)) : Option (Int × Int) := (reset_Reset.f k l0_0).bind fun t => if t.2 = 0 then ((euler_eulerian.f l0_0).bind fun is => if is = true then some (wrap64 (wrap64 (wrap64 ((l0_0.length : Int) * (l0_0.length : Int)) - wrap64 (3 * (l0_0.length : Int))) + 3), 0) else ((euler_circular.f k l0_0).bind fun bt => if bt.2 = true then some (wrap64 (wrap64 ((l0_0.length : Int) - 1) * wrap64 ((l0_0.length : Int) - 1)), 0) else some (wrap64 (Int.tdiv (wrap64 (wrap64 (wrap64 ((l0_0.length : Int) * (l0_0.length : Int)) * (l0_0.length : Int)) - (l0_0.length : Int))) 6), 0))) else some (0, t.2)
theorem euler_Bound.mono : ∀ a0 k, LeO (euler_Bound.f k a0) (euler_Bound.f (k + 1) a0) := by
  intro a0 k
  unfold euler_Bound.f
  repeat' first
      | (with_reducible exact reset_Reset.mono _ _)
      | (with_reducible exact euler_circular.mono _ _)
      | (with_reducible exact LeO.refl _)
      | (with_reducible exact LeO.none _)
      | (with_reducible refine LeO.ite ?_ ?_)
      | (with_reducible refine LeO.bind ?_ (fun _ => ?_))
structure BoI (k : Nat) (l : List (List Int)) (w W : World) (g B : Nat) (A : Option Addr) (c : Nat) (i : Int) : Prop where
  below : Below w.heap.size w W
  box : W.heap[B]? = some (.cells #[.slice A l.length c] 24 (0, 0))
  fs : W.heap[g]? = some (.cells #[.func (.func 32) #[] #[], .func (.func 67) #[] #[], .func (.func 68) #[] #[], .func (.func 69) #[] #[], .func (.func 70) #[] #[], .func (.func 71) #[] #[]] 52 (0, 0))
  at_ : i = 0 ∨ (i = 1 ∧ euler_eulerian.f l = some false) ∨ (i = 2 ∧ euler_eulerian.f l = some false ∧ ∃ x, euler_circular.f k l = some (x, false))
set_option maxHeartbeats 1000000 in
theorem euler_Bound.calls (k : Nat) (A0_0 : Option Addr) (c0_0 : Nat) (l0_0 : List (List Int)) (r1 r2 : Int) (w : World) (hr0_0 : Kd.C (Kd.slice 3 (Kd.int .i64)) w A0_0 l0_0.length l0_0) (hc0_0 : l0_0.length ≤ c0_0) (h : euler_Bound.f k l0_0 = some (r1, r2)) :
    Calls Try.prog 11 #[.agg #[.slice A0_0 l0_0.length c0_0]] w fun e w' => e = .returned (.tuple #[.int .i64 r1, .int .i64 r2]) ∧ Below w.heap.size w w' := by
  have HR := Aside0.mk hr0_0
  have HC := Aside0.mk hc0_0
  have HB0 := Below.refl w.heap.size w
  have H := h
  clear hr0_0 hc0_0 h
  unfold euler_Bound.f at H
  obtain ⟨⟨t1, t2⟩, ht, H⟩ := Option.bind_eq_some_iff.mp H
  have HT := Aside0.mk ht
  clear ht
  by_cases d0 : t2 = 0
  · subst d0
    rw [if_pos rfl] at H
    have H' := Aside0.mk H
    clear H
    go_enter Try.func11, Try.ntmps11
    go_wp2_with ((with_reducible refine gate_dst (N := 1) rfl ?_); refine box_event ?hg (N := 1) ?hd (cs := #[.slice A0_0 l0_0.length c0_0]) (t := 24) ?hr ?_; (case hd => rfl); (case hg => rfl); (case hr => first | (go_simp; done) | (go_simp; rfl)); intro B hBe w1 hbox hb1;  have hcb : w1.cell? ⟨B, 0, none⟩ = some (.slice A0_0 l0_0.length c0_0) := (blk_cell hbox 0).trans rfl;  have HBox := Aside0.mk hbox; have HB1 := Aside0.mk (below_step HB0 hb1); clear hbox hb1 hBe)
    refine (reset_Reset.calls k _ _ l0_0 t1 0 _ (Kd.C_below HR.out HB1.out) HC.out HT.out).mono ?_
    rintro e w2 ⟨v0, rfl, _, hb2⟩
    have HB2 := Aside0.mk (below_step HB1.out hb2)
    have HBox2 := Aside0.mk (blk_below HBox.out hb2)
    have hcb2 : w2.cell? ⟨B, 0, none⟩ = some (.slice A0_0 l0_0.length c0_0) := (blk_cell HBox2.out 0).trans rfl
    clear hb2 hcb
    go_wp2_with fail
    refine (bounds_calls _).mono ?_
    rintro e w3 ⟨rfl, rfl⟩
    have HS : Aside0 (BoI k l0_0 w (w2.alloc boundsObj) w2.heap.size B A0_0 c0_0 0) := ⟨⟨below_alloc HB2.out _, blk_alloc HBox2.out _, blk_new w2 _, .inl rfl⟩⟩
    generalize w2.heap.size = g at HS ⊢
    generalize w2.alloc boundsObj = w3 at HS ⊢
    have HA := Aside0.mk hcb2
    clear hcb2
    go_wp2_with fail
    go_loopg [18] 3 (fun kq v18 w' => ∃ (x : Int), v18 = .int .i64 x ∧ Aside0 (x + (kq : Int) = 3) ∧ Aside0 (BoI k l0_0 w w' g B A0_0 c0_0 x))
    case atStart => exact ⟨0, rfl, ⟨by omega⟩, HS⟩
    case round =>
      obtain ⟨x, rfl, HK, HX⟩ := hrel
      have HA := HX.out.at_
      rcases HA with rfl | ⟨rfl, hn⟩ | ⟨rfl, hn, y, hy⟩
      · have H := H'.out
        obtain ⟨is, his, H⟩ := Option.bind_eq_some_iff.mp H
        have HI := Aside0.mk his
        clear his
        have HN := Aside0.mk (blk_new wr (.cells #[.func (.func 32) #[] #[], .func (.func 67) #[] #[]] 52))
        have HBx := Aside0.mk (blk_alloc HX.out.box (.cells #[.func (.func 32) #[] #[], .func (.func 67) #[] #[]] 52))
        have HBw := Aside0.mk (below_alloc HX.out.below (.cells #[.func (.func 32) #[] #[], .func (.func 67) #[] #[]] 52))
        have HFs := Aside0.mk (blk_alloc HX.out.fs (.cells #[.func (.func 32) #[] #[], .func (.func 67) #[] #[]] 52))
        have e0 : wr.cell? ⟨g, 0, none⟩ = some (.func (.func 32) #[] #[]) := (blk_cell HX.out.fs 0).trans rfl
        have e1 : wr.cell? ⟨g, 1, none⟩ = some (.func (.func 67) #[] #[]) := (blk_cell HX.out.fs 1).trans rfl
        have hcb : (wr.alloc (.cells #[.func (.func 32) #[] #[], .func (.func 67) #[] #[]] 52)).cell? ⟨B, 0, none⟩ = some (.slice A0_0 l0_0.length c0_0) := (blk_cell HBx.out 0).trans rfl
        go_wp2_with fail
        refine (euler_eulerian.calls _ _ l0_0 is _ (Kd.C_below HR.out HBw.out) HC.out HI.out).mono ?_
        rintro e w4 ⟨rfl, hb4⟩
        have HB4 := Aside0.mk (below_step HBw.out hb4)
        have HN4 := Aside0.mk (blk_below HN.out hb4)
        have HBx4 := Aside0.mk (blk_below HBx.out hb4)
        have HFs4 := Aside0.mk (blk_below HFs.out hb4)
        cases is with
        | true =>
          rw [if_pos rfl] at H
          simp only [Option.some.injEq, Prod.mk.injEq] at H
          obtain ⟨rfl, rfl⟩ := H
          have h1 : w4.cell? ⟨wr.heap.size, 1, none⟩ = some (.func (.func 67) #[] #[]) := (blk_cell HN4.out 1).trans rfl
          have h2 : w4.cell? ⟨B, 0, none⟩ = some (.slice A0_0 l0_0.length c0_0) := (blk_cell HBx4.out 0).trans rfl
          clear hb4 hcb e0 e1
          go_wp2_with fail
          refine (bounds1_calls _ _).mono ?_
          rintro e w5 ⟨rfl, rfl⟩
          go_wp2
          go_ret2
          exact ⟨rfl, HB4.out⟩
        | false =>
          have HI2 := HI.out
          clear hb4 hcb e0 e1
          go_wp2_with fail
          go_roundg (gk - 1)
          case measure => have := HK.out; omega
          case rel => exact ⟨_, rfl, ⟨by have := HK.out; omega⟩, ⟨⟨HB4.out, HBx4.out, HFs4.out, .inr (.inl ⟨rfl, HI2⟩)⟩⟩⟩
      · have H := H'.out
        rw [hn, Option.bind_some, if_neg (by decide)] at H
        obtain ⟨⟨y, is⟩, his, H⟩ := Option.bind_eq_some_iff.mp H
        have HI := Aside0.mk his
        clear his
        have HN := Aside0.mk (blk_new wr (.cells #[.func (.func 68) #[] #[], .func (.func 69) #[] #[]] 52))
        have HBx := Aside0.mk (blk_alloc HX.out.box (.cells #[.func (.func 68) #[] #[], .func (.func 69) #[] #[]] 52))
        have HBw := Aside0.mk (below_alloc HX.out.below (.cells #[.func (.func 68) #[] #[], .func (.func 69) #[] #[]] 52))
        have HFs := Aside0.mk (blk_alloc HX.out.fs (.cells #[.func (.func 68) #[] #[], .func (.func 69) #[] #[]] 52))
        have e0 : wr.cell? ⟨g, 2, none⟩ = some (.func (.func 68) #[] #[]) := (blk_cell HX.out.fs 2).trans rfl
        have e1 : wr.cell? ⟨g, 3, none⟩ = some (.func (.func 69) #[] #[]) := (blk_cell HX.out.fs 3).trans rfl
        have hcb : (wr.alloc (.cells #[.func (.func 68) #[] #[], .func (.func 69) #[] #[]] 52)).cell? ⟨B, 0, none⟩ = some (.slice A0_0 l0_0.length c0_0) := (blk_cell HBx.out 0).trans rfl
        go_wp2_with fail
        refine (bounds2_calls k _ _ l0_0 y is _ (Kd.C_below HR.out HBw.out) HC.out HI.out).mono ?_
        rintro e w4 ⟨rfl, hb4⟩
        have HB4 := Aside0.mk (below_step HBw.out hb4)
        have HN4 := Aside0.mk (blk_below HN.out hb4)
        have HBx4 := Aside0.mk (blk_below HBx.out hb4)
        have HFs4 := Aside0.mk (blk_below HFs.out hb4)
        cases is with
        | true =>
          rw [if_pos rfl] at H
          simp only [Option.some.injEq, Prod.mk.injEq] at H
          obtain ⟨rfl, rfl⟩ := H
          have h1 : w4.cell? ⟨wr.heap.size, 1, none⟩ = some (.func (.func 69) #[] #[]) := (blk_cell HN4.out 1).trans rfl
          have h2 : w4.cell? ⟨B, 0, none⟩ = some (.slice A0_0 l0_0.length c0_0) := (blk_cell HBx4.out 0).trans rfl
          clear hb4 hcb e0 e1
          go_wp2_with fail
          refine (bounds3_calls _ _).mono ?_
          rintro e w5 ⟨rfl, rfl⟩
          go_wp2
          go_ret2
          exact ⟨rfl, HB4.out⟩
        | false =>
          have HI2 := HI.out
          clear hb4 hcb e0 e1
          go_wp2_with fail
          go_roundg (gk - 1)
          case measure => have := HK.out; omega
          case rel => exact ⟨_, rfl, ⟨by have := HK.out; omega⟩, ⟨⟨HB4.out, HBx4.out, HFs4.out, .inr (.inr ⟨rfl, hn, y, HI2⟩)⟩⟩⟩
      · have H := H'.out
        rw [hn, Option.bind_some, if_neg (by decide), hy, Option.bind_some, if_neg Bool.false_ne_true] at H
        simp only [Option.some.injEq, Prod.mk.injEq] at H
        obtain ⟨rfl, rfl⟩ := H
        have HN := Aside0.mk (blk_new wr (.cells #[.func (.func 70) #[] #[], .func (.func 71) #[] #[]] 52))
        have HBx := Aside0.mk (blk_alloc HX.out.box (.cells #[.func (.func 70) #[] #[], .func (.func 71) #[] #[]] 52))
        have HBw := Aside0.mk (below_alloc HX.out.below (.cells #[.func (.func 70) #[] #[], .func (.func 71) #[] #[]] 52))
        have HFs := Aside0.mk (blk_alloc HX.out.fs (.cells #[.func (.func 70) #[] #[], .func (.func 71) #[] #[]] 52))
        have e0 : wr.cell? ⟨g, 4, none⟩ = some (.func (.func 70) #[] #[]) := (blk_cell HX.out.fs 4).trans rfl
        have e1 : wr.cell? ⟨g, 5, none⟩ = some (.func (.func 71) #[] #[]) := (blk_cell HX.out.fs 5).trans rfl
        have hcb : (wr.alloc (.cells #[.func (.func 70) #[] #[], .func (.func 71) #[] #[]] 52)).cell? ⟨B, 0, none⟩ = some (.slice A0_0 l0_0.length c0_0) := (blk_cell HBx.out 0).trans rfl
        go_wp2_with fail
        refine (bounds4_calls _ _).mono ?_
        rintro e w4 ⟨rfl, hb4⟩
        have HB4 := Aside0.mk (below_step HBw.out hb4)
        have HN4 := Aside0.mk (blk_below HN.out hb4)
        have HBx4 := Aside0.mk (blk_below HBx.out hb4)
        have HFs4 := Aside0.mk (blk_below HFs.out hb4)
        have h1 : w4.cell? ⟨wr.heap.size, 1, none⟩ = some (.func (.func 71) #[] #[]) := (blk_cell HN4.out 1).trans rfl
        have h2 : w4.cell? ⟨B, 0, none⟩ = some (.slice A0_0 l0_0.length c0_0) := (blk_cell HBx4.out 0).trans rfl
        clear hb4 hcb e0 e1
        go_wp2_with fail
        refine (bounds5_calls _ _).mono ?_
        rintro e w5 ⟨rfl, rfl⟩
        go_wp2
        go_ret2
        exact ⟨rfl, HB4.out⟩
  · rw [if_neg d0] at H
    simp only [Option.some.injEq, Prod.mk.injEq] at H
    obtain ⟨rfl, rfl⟩ := H
    have q0 := eq_false d0
    have q1 := beq_false_of_ne d0
    have q2 := bne_iff_ne.mpr d0
    have D0 := Aside0.mk d0
    clear d0
    go_enter Try.func11, Try.ntmps11
    go_wp2_with ((with_reducible refine gate_dst (N := 1) rfl ?_); refine box_event ?hg (N := 1) ?hd (cs := #[.slice A0_0 l0_0.length c0_0]) (t := 24) ?hr ?_; (case hd => rfl); (case hg => rfl); (case hr => first | (go_simp; done) | (go_simp; rfl)); intro B hBe w1 hbox hb1;  have hcb : w1.cell? ⟨B, 0, none⟩ = some (.slice A0_0 l0_0.length c0_0) := (blk_cell hbox 0).trans rfl;  have HBox := Aside0.mk hbox; have HB1 := Aside0.mk (below_step HB0 hb1); clear hbox hb1 hBe)
    refine (reset_Reset.calls k _ _ l0_0 t1 t2 _ (Kd.C_below HR.out HB1.out) HC.out HT.out).mono ?_
    rintro e w2 ⟨v0, rfl, _, hb2⟩
    have HB2 := Aside0.mk (below_step HB1.out hb2)
    clear hb2 hcb
    go_wp2
    go_ret2
    exact ⟨rfl, HB2.out⟩
end Go.Proofs.Ytcpmmkennnjalaa.Q
end
section
-- Written by xprint.py, a program of this session's, over the kit's print. Lean checks it.
namespace Go.Proofs.Ytcpmmkennnjalaa.Q
open Go.RowKit Go.Proofs.YtcpmmkennnjalaaW.PrintWords Go.Proofs.YtcpmmkennnjalaaW.PrintLast Go.Proofs.YtcpmmkennnjalaaW.PrintMore
attribute [local go_sem] max2_int min2_int max_two min_two max_three min_three max_four min_four
set_option linter.unusedVariables false
set_option linter.unusedSimpArgs false

/-! ### mizmazetop_balances: function 28 -/
def mizmazetop_balances.f (k : Nat)  : Option (Bool) := (euler_Eulerian.f (([(([0, 1] : List Int)), (([0, 2] : List Int)), (([1, 2] : List Int))] : List (List Int)))).bind fun bt603 => ((euler_Bound.f k (([(([0, 1] : List Int)), (([0, 2] : List Int)), (([1, 2] : List Int))] : List (List Int)))).bind fun bt617 => (if bt603.2 = 0 then (if bt603.1 = true then (if bt617.2 = 0 then (some (bt617.1 == 3)) else (none)) else (none)) else (none)))
theorem mizmazetop_balances.mono : ∀ k, LeO (mizmazetop_balances.f k ) (mizmazetop_balances.f (k + 1) ) := by
  intro  k
  unfold mizmazetop_balances.f
  repeat' first
      | (with_reducible exact euler_Bound.mono _ _)
      | (with_reducible exact LeO.refl _)
      | (with_reducible exact LeO.none _)
      | (with_reducible refine LeO.ite ?_ ?_)
      | (with_reducible refine LeO.bind ?_ (fun _ => ?_))
      | exact euler_Bound.mono _ _
      | exact LeO.none _
      | refine LeO.ite ?_ ?_
      | refine LeO.bind ?_ (fun _ => ?_)
set_option maxHeartbeats 8000000 in
set_option maxRecDepth 100000 in
theorem mizmazetop_balances.calls (k : Nat)  (r : Bool) (w : World) (h : mizmazetop_balances.f k  = some r) :
    Calls Try.prog 28 #[] w fun e w' => e = .returned (.bool r) ∧ Below w.heap.size w w' := by
  have hu24 := Try.underlying24
  have HB := Aside0.mk (Below.refl w.heap.size w)
  have H : ((euler_Eulerian.f (([(([0, 1] : List Int)), (([0, 2] : List Int)), (([1, 2] : List Int))] : List (List Int)))).bind fun bt603 => ((euler_Bound.f k (([(([0, 1] : List Int)), (([0, 2] : List Int)), (([1, 2] : List Int))] : List (List Int)))).bind fun bt617 => (if bt603.2 = 0 then (if bt603.1 = true then (if bt617.2 = 0 then (some (bt617.1 == 3)) else (none)) else (none)) else (none)))) = some r := h
  clear h
  obtain ⟨y591, hy591⟩ : ∃ y_ : List Int, y_ = (([0, 1] : List Int)) := ⟨_, rfl⟩
  replace H : ((euler_Eulerian.f (([y591, (([0, 2] : List Int)), (([1, 2] : List Int))] : List (List Int)))).bind fun bt603 => ((euler_Bound.f k (([(([0, 1] : List Int)), (([0, 2] : List Int)), (([1, 2] : List Int))] : List (List Int)))).bind fun bt617 => (if bt603.2 = 0 then (if bt603.1 = true then (if bt617.2 = 0 then (some (bt617.1 == 3)) else (none)) else (none)) else (none)))) = some r := by first | (rw [hy591]; with_reducible exact H) | (have H2_ := (Option.bind_some _ _).symm.trans H; rw [hy591]; with_reducible exact H2_) | (have H2_ := (Option.bind_some _ _).symm.trans H; with_reducible exact H2_) | with_reducible exact H | (rw [hy591]; exact H) | exact H
  have Ny591 := Aside0.mk hy591
  clear hy591
  obtain ⟨y594, hy594⟩ : ∃ y_ : List Int, y_ = (([0, 2] : List Int)) := ⟨_, rfl⟩
  replace H : ((euler_Eulerian.f (([y591, y594, (([1, 2] : List Int))] : List (List Int)))).bind fun bt603 => ((euler_Bound.f k (([(([0, 1] : List Int)), (([0, 2] : List Int)), (([1, 2] : List Int))] : List (List Int)))).bind fun bt617 => (if bt603.2 = 0 then (if bt603.1 = true then (if bt617.2 = 0 then (some (bt617.1 == 3)) else (none)) else (none)) else (none)))) = some r := by first | (rw [hy594]; with_reducible exact H) | (have H2_ := (Option.bind_some _ _).symm.trans H; rw [hy594]; with_reducible exact H2_) | (have H2_ := (Option.bind_some _ _).symm.trans H; with_reducible exact H2_) | with_reducible exact H | (rw [hy594]; exact H) | exact H
  have Ny594 := Aside0.mk hy594
  clear hy594
  obtain ⟨y597, hy597⟩ : ∃ y_ : List Int, y_ = (([1, 2] : List Int)) := ⟨_, rfl⟩
  replace H : ((euler_Eulerian.f (([y591, y594, y597] : List (List Int)))).bind fun bt603 => ((euler_Bound.f k (([(([0, 1] : List Int)), (([0, 2] : List Int)), (([1, 2] : List Int))] : List (List Int)))).bind fun bt617 => (if bt603.2 = 0 then (if bt603.1 = true then (if bt617.2 = 0 then (some (bt617.1 == 3)) else (none)) else (none)) else (none)))) = some r := by first | (rw [hy597]; with_reducible exact H) | (have H2_ := (Option.bind_some _ _).symm.trans H; rw [hy597]; with_reducible exact H2_) | (have H2_ := (Option.bind_some _ _).symm.trans H; with_reducible exact H2_) | with_reducible exact H | (rw [hy597]; exact H) | exact H
  have Ny597 := Aside0.mk hy597
  clear hy597
  obtain ⟨y600, hy600⟩ : ∃ y_ : List (List Int), y_ = (([y591, y594, y597] : List (List Int))) := ⟨_, rfl⟩
  replace H : ((euler_Eulerian.f y600).bind fun bt603 => ((euler_Bound.f k (([(([0, 1] : List Int)), (([0, 2] : List Int)), (([1, 2] : List Int))] : List (List Int)))).bind fun bt617 => (if bt603.2 = 0 then (if bt603.1 = true then (if bt617.2 = 0 then (some (bt617.1 == 3)) else (none)) else (none)) else (none)))) = some r := by first | (rw [hy600]; with_reducible exact H) | (have H2_ := (Option.bind_some _ _).symm.trans H; rw [hy600]; with_reducible exact H2_) | (have H2_ := (Option.bind_some _ _).symm.trans H; with_reducible exact H2_) | with_reducible exact H | (rw [hy600]; exact H) | exact H
  have Ny600 := Aside0.mk hy600
  clear hy600
  replace H := Option.bind_eq_some_iff.mp H
  obtain ⟨⟨t603, t604⟩, A10, H⟩ := H
  replace H : ((euler_Bound.f k (([(([0, 1] : List Int)), (([0, 2] : List Int)), (([1, 2] : List Int))] : List (List Int)))).bind fun bt617 => (if t604 = 0 then (if t603 = true then (if bt617.2 = 0 then (some (bt617.1 == 3)) else (none)) else (none)) else (none))) = some r := H
  have A1 := Aside0.mk A10
  clear A10
  obtain ⟨y605, hy605⟩ : ∃ y_ : List Int, y_ = (([0, 1] : List Int)) := ⟨_, rfl⟩
  replace H : ((euler_Bound.f k (([y605, (([0, 2] : List Int)), (([1, 2] : List Int))] : List (List Int)))).bind fun bt617 => (if t604 = 0 then (if t603 = true then (if bt617.2 = 0 then (some (bt617.1 == 3)) else (none)) else (none)) else (none))) = some r := by first | (rw [hy605]; with_reducible exact H) | (have H2_ := (Option.bind_some _ _).symm.trans H; rw [hy605]; with_reducible exact H2_) | (have H2_ := (Option.bind_some _ _).symm.trans H; with_reducible exact H2_) | with_reducible exact H | (rw [hy605]; exact H) | exact H
  have Ny605 := Aside0.mk hy605
  clear hy605
  obtain ⟨y608, hy608⟩ : ∃ y_ : List Int, y_ = (([0, 2] : List Int)) := ⟨_, rfl⟩
  replace H : ((euler_Bound.f k (([y605, y608, (([1, 2] : List Int))] : List (List Int)))).bind fun bt617 => (if t604 = 0 then (if t603 = true then (if bt617.2 = 0 then (some (bt617.1 == 3)) else (none)) else (none)) else (none))) = some r := by first | (rw [hy608]; with_reducible exact H) | (have H2_ := (Option.bind_some _ _).symm.trans H; rw [hy608]; with_reducible exact H2_) | (have H2_ := (Option.bind_some _ _).symm.trans H; with_reducible exact H2_) | with_reducible exact H | (rw [hy608]; exact H) | exact H
  have Ny608 := Aside0.mk hy608
  clear hy608
  obtain ⟨y611, hy611⟩ : ∃ y_ : List Int, y_ = (([1, 2] : List Int)) := ⟨_, rfl⟩
  replace H : ((euler_Bound.f k (([y605, y608, y611] : List (List Int)))).bind fun bt617 => (if t604 = 0 then (if t603 = true then (if bt617.2 = 0 then (some (bt617.1 == 3)) else (none)) else (none)) else (none))) = some r := by first | (rw [hy611]; with_reducible exact H) | (have H2_ := (Option.bind_some _ _).symm.trans H; rw [hy611]; with_reducible exact H2_) | (have H2_ := (Option.bind_some _ _).symm.trans H; with_reducible exact H2_) | with_reducible exact H | (rw [hy611]; exact H) | exact H
  have Ny611 := Aside0.mk hy611
  clear hy611
  obtain ⟨y614, hy614⟩ : ∃ y_ : List (List Int), y_ = (([y605, y608, y611] : List (List Int))) := ⟨_, rfl⟩
  replace H : ((euler_Bound.f k y614).bind fun bt617 => (if t604 = 0 then (if t603 = true then (if bt617.2 = 0 then (some (bt617.1 == 3)) else (none)) else (none)) else (none))) = some r := by first | (rw [hy614]; with_reducible exact H) | (have H2_ := (Option.bind_some _ _).symm.trans H; rw [hy614]; with_reducible exact H2_) | (have H2_ := (Option.bind_some _ _).symm.trans H; with_reducible exact H2_) | with_reducible exact H | (rw [hy614]; exact H) | exact H
  have Ny614 := Aside0.mk hy614
  clear hy614
  replace H := Option.bind_eq_some_iff.mp H
  obtain ⟨⟨t617, t618⟩, A20, H⟩ := H
  replace H : (if t604 = 0 then (if t603 = true then (if t618 = 0 then (some (t617 == 3)) else (none)) else (none)) else (none)) = some r := H
  have A2 := Aside0.mk A20
  clear A20
  by_cases c3 : t604 = 0
  · rw [if_pos c3] at H
    have c3b0 : (t604 == 0) = true := beq_iff_eq.mpr c3
    have c3b1 : (t604 != 0) = false := bne_eq_false_iff_eq.mpr c3
    clear c3
    by_cases c4 : t603 = true
    · subst c4
      have H1 : (if t618 = 0 then (some (t617 == 3)) else (none)) = some r := by rw [if_pos rfl] at H; exact H
      clear H
      have H := H1
      clear H1
      by_cases c5 : t618 = 0
      · rw [if_pos c5] at H
        have c5b0 : (t618 == 0) = true := beq_iff_eq.mpr c5
        have c5b1 : (t618 != 0) = false := bne_eq_false_iff_eq.mpr c5
        clear c5
        obtain rfl := Option.some.inj H
        go_enter Try.func28, Try.ntmps28
        go_wp2_with (first | ((with_reducible refine gate_dst (N := 6) rfl ?_); refine Kd.R_lit (Kd.int .i64) _ 3 ?hg (N := 6) ?hd (xs := ([0, 1] : List Int)) (inner := [.int .i64 0, .int .i64 1]) (ok := fun _ => True) (okp := fun _ => True) ?hr ?hp (fun _ hk => hk) trivial (Below.refl _ _) (Nat.le_refl _) (by simp) ?_; (case hd => rfl); (case hg => rfl); (case hr => first | (go_simp; done) | (go_simp; rfl)); (case hp => exact (Reps.one (show Kd.M (Kd.int .i64) _ _ _ 0 [.int .i64 0] from rfl) (Reps.one (show Kd.M (Kd.int .i64) _ _ _ 1 [.int .i64 1] from rfl) (Reps.none _ _)))); intro v592 w6 ho7 hb hg_ hnew_; clear hg_ hnew_; (first | rw [← Ny591.out] at ho7 | (simp only [Int.reduceToNat] at ho7; rw [← Ny591.out] at ho7)); have n0_ := Aside0.mk (Kd.R_lower ho7 (below_size (by repeat (first | (with_reducible first | exact HB.out | apply below_alloc | apply pw_below_drewN | apply below_drew1) | exact HB.out)))); have n1_ := Aside0.mk (below_step (by repeat (first | (with_reducible first | exact HB.out | apply below_alloc | apply pw_below_drewN | apply below_drew1) | exact HB.out)) hb); clear HB; have HO593 := n0_; have HB := n1_; clear n0_ n1_; clear hb ho7) | ((with_reducible refine gate_dst (N := 7) rfl ?_); refine Kd.R_lit (Kd.int .i64) _ 3 ?hg (N := 7) ?hd (xs := ([0, 2] : List Int)) (inner := [.int .i64 0, .int .i64 2]) (ok := fun _ => True) (okp := fun _ => True) ?hr ?hp (fun _ hk => hk) trivial (Below.refl _ _) (Nat.le_refl _) (by simp) ?_; (case hd => rfl); (case hg => rfl); (case hr => first | (go_simp; done) | (go_simp; rfl)); (case hp => exact (Reps.one (show Kd.M (Kd.int .i64) _ _ _ 0 [.int .i64 0] from rfl) (Reps.one (show Kd.M (Kd.int .i64) _ _ _ 2 [.int .i64 2] from rfl) (Reps.none _ _)))); intro v595 w8 ho9 hb hg_ hnew_; clear hg_ hnew_; (first | rw [← Ny594.out] at ho9 | (simp only [Int.reduceToNat] at ho9; rw [← Ny594.out] at ho9)); have n0_ := Aside0.mk (Kd.R_elder' (by (with_reducible repeat (first | apply Kd.R_alloc | apply Kd.R_drewN | apply Kd.R_drew)); exact HO593.out) (Kd.R_base ho9) hb); have n1_ := Aside0.mk (Kd.R_lower (Kd.R_new' ho9 (Kd.R_lt (by (with_reducible repeat (first | apply Kd.R_alloc | apply Kd.R_drewN | apply Kd.R_drew)); exact HO593.out))) (below_size (by repeat (first | (with_reducible first | exact HB.out | apply below_alloc | apply pw_below_drewN | apply below_drew1) | exact HB.out)))); have n2_ := Aside0.mk (below_step (by repeat (first | (with_reducible first | exact HB.out | apply below_alloc | apply pw_below_drewN | apply below_drew1) | exact HB.out)) hb); clear HO593; clear HB; have HO593 := n0_; have HO596 := n1_; have HB := n2_; clear n0_ n1_ n2_; clear hb ho9) | ((with_reducible refine gate_dst (N := 8) rfl ?_); refine Kd.R_lit (Kd.int .i64) _ 3 ?hg (N := 8) ?hd (xs := ([1, 2] : List Int)) (inner := [.int .i64 1, .int .i64 2]) (ok := fun _ => True) (okp := fun _ => True) ?hr ?hp (fun _ hk => hk) trivial (Below.refl _ _) (Nat.le_refl _) (by simp) ?_; (case hd => rfl); (case hg => rfl); (case hr => first | (go_simp; done) | (go_simp; rfl)); (case hp => exact (Reps.one (show Kd.M (Kd.int .i64) _ _ _ 1 [.int .i64 1] from rfl) (Reps.one (show Kd.M (Kd.int .i64) _ _ _ 2 [.int .i64 2] from rfl) (Reps.none _ _)))); intro v598 w10 ho11 hb hg_ hnew_; clear hg_ hnew_; (first | rw [← Ny597.out] at ho11 | (simp only [Int.reduceToNat] at ho11; rw [← Ny597.out] at ho11)); have n0_ := Aside0.mk (Kd.R_elder' (by (with_reducible repeat (first | apply Kd.R_alloc | apply Kd.R_drewN | apply Kd.R_drew)); exact HO593.out) (Kd.R_base ho11) hb); have n1_ := Aside0.mk (Kd.R_elder' (by (with_reducible repeat (first | apply Kd.R_alloc | apply Kd.R_drewN | apply Kd.R_drew)); exact HO596.out) (Kd.R_base ho11) hb); have n2_ := Aside0.mk (Kd.R_lower (Kd.R_new' (Kd.R_new' ho11 (Kd.R_lt (by (with_reducible repeat (first | apply Kd.R_alloc | apply Kd.R_drewN | apply Kd.R_drew)); exact HO593.out))) (Kd.R_lt (by (with_reducible repeat (first | apply Kd.R_alloc | apply Kd.R_drewN | apply Kd.R_drew)); exact HO596.out))) (below_size (by repeat (first | (with_reducible first | exact HB.out | apply below_alloc | apply pw_below_drewN | apply below_drew1) | exact HB.out)))); have n3_ := Aside0.mk (below_step (by repeat (first | (with_reducible first | exact HB.out | apply below_alloc | apply pw_below_drewN | apply below_drew1) | exact HB.out)) hb); clear HO593; clear HO596; clear HB; have HO593 := n0_; have HO596 := n1_; have HO599 := n2_; have HB := n3_; clear n0_ n1_ n2_ n3_; clear hb ho11; obtain ⟨Ao12, co12, eo12⟩ := Kd.R_slice HO593.out; subst eo12; obtain ⟨Ao13, co13, eo13⟩ := Kd.R_slice HO596.out; subst eo13; obtain ⟨Ao14, co14, eo14⟩ := Kd.R_slice HO599.out; subst eo14) | ((with_reducible refine gate_dst (N := 9) rfl ?_); refine Kd.N_lit (Kd.slice 3 (Kd.int .i64)) _ 34 ?hg (N' := 9) ?hd (xs := ([y591, y594, y597] : List (List Int))) (inner := [.slice Ao12 y591.length co12, .slice Ao13 y594.length co13, .slice Ao14 y597.length co14]) (ok := (fun _ => True)) (okp := (fun _ => True)) ?hr ?hp (fun _ hk => hk) ((show ∀ k_, w10.heap.size ≤ k_ → (fun _ => True) k_ from fun k_ hk => trivial) _ (Nat.le_refl _)) (Below.refl _ _) (Nat.le_refl _) (by simp) ?_; (case hd => rfl); (case hg => rfl); (case hr => first | (go_simp; done) | (go_simp; rfl)); (case hp => exact (Reps.one (show Kd.FK (Kd.slice 3 (Kd.int .i64)) _ _ y591 [.slice Ao12 y591.length co12] from (Kd.FK_slice_mk (Kd.R_reads' (Kd.R_mono (ok' := (fun _ => True)) (HO593.out) (fun k_ hk => trivial))).2.1 (Kd.R_F (Kd.R_mono (ok' := (fun _ => True)) (HO593.out) (fun k_ hk => trivial))))) (Reps.one (show Kd.FK (Kd.slice 3 (Kd.int .i64)) _ _ y594 [.slice Ao13 y594.length co13] from (Kd.FK_slice_mk (Kd.R_reads' (Kd.R_mono (ok' := (fun _ => True)) (HO596.out) (fun k_ hk => trivial))).2.1 (Kd.R_F (Kd.R_mono (ok' := (fun _ => True)) (HO596.out) (fun k_ hk => trivial))))) (Reps.one (show Kd.FK (Kd.slice 3 (Kd.int .i64)) _ _ y597 [.slice Ao14 y597.length co14] from (Kd.FK_slice_mk (Kd.R_reads' (Kd.R_mono (ok' := (fun _ => True)) (HO599.out) (fun k_ hk => trivial))).2.1 (Kd.R_F (Kd.R_mono (ok' := (fun _ => True)) (HO599.out) (fun k_ hk => trivial))))) (Reps.none _ _))))); intro v601 w15 ho16 hb hg_ hnew_; clear hg_ hnew_; (first | rw [← Ny600.out] at ho16 | (simp only [Int.reduceToNat] at ho16; rw [← Ny600.out] at ho16)); have n0_ := Aside0.mk (Kd.N_lower ho16 (below_size (by repeat (first | (with_reducible first | exact HB.out | apply below_alloc | apply pw_below_drewN | apply below_drew1) | exact HB.out)))); have n1_ := Aside0.mk (below_step (by repeat (first | (with_reducible first | exact HB.out | apply below_alloc | apply pw_below_drewN | apply below_drew1) | exact HB.out)) hb); clear HB; clear HO593; clear HO596; clear HO599; have HO602 := n0_; have HB := n1_; clear n0_ n1_; clear hb ho16; obtain ⟨Ao17, co17, eo17⟩ := Kd.N_slice HO602.out; subst eo17) | ((with_reducible refine gate_callee (f := 9) rfl ?_); refine goesL_ (some 11) rfl rfl Try.func9 (by kernel_rfl) rfl #[.agg #[.slice Ao17 y600.length co17]] rfl (by (try simp only [List.map_toArray, List.map_cons, List.map_nil]); first | done | rfl | (simp only [List.length_drop, List.length_take]; rfl)) ?_; (with_reducible refine (euler_Eulerian.calls _ _ y600 true t604 _ ?side1 ?side2 A1.out).mono ?_); (case side1 => repeat (first | exact (Kd.N_reads' HO602.out).2.2 | (with_reducible refine Kd.C_alloc ?_ _) | (with_reducible refine Kd.C_drewN ?_ _) | (with_reducible refine Kd.C_drew ?_))); (case side2 => exact (Kd.N_reads' HO602.out).2.1); rintro e w18 ⟨rfl, hb⟩; refine ⟨_, rfl, ?_⟩; have n0_ := Aside0.mk (Kd.N_below (by (with_reducible repeat (first | apply Kd.N_alloc | apply Kd.N_drewN | apply Kd.N_drew)); exact HO602.out) hb); have n1_ := Aside0.mk (below_step (by repeat (first | (with_reducible first | exact HB.out | apply below_alloc | apply pw_below_drewN | apply below_drew1) | exact HB.out)) hb); clear HO602; clear HB; have HO602 := n0_; have HB := n1_; clear n0_ n1_; (try clear hb); (try clear hb2); (try clear hk); (try clear hi)) | ((with_reducible refine gate_dst (N := 15) rfl ?_); refine Kd.R_lit (Kd.int .i64) _ 3 ?hg (N := 15) ?hd (xs := ([0, 1] : List Int)) (inner := [.int .i64 0, .int .i64 1]) (ok := fun _ => True) (okp := fun _ => True) ?hr ?hp (fun _ hk => hk) trivial (Below.refl _ _) (Nat.le_refl _) (by simp) ?_; (case hd => rfl); (case hg => rfl); (case hr => first | (go_simp; done) | (go_simp; rfl)); (case hp => exact (Reps.one (show Kd.M (Kd.int .i64) _ _ _ 0 [.int .i64 0] from rfl) (Reps.one (show Kd.M (Kd.int .i64) _ _ _ 1 [.int .i64 1] from rfl) (Reps.none _ _)))); intro v606 w19 ho20 hb hg_ hnew_; clear hg_ hnew_; (first | rw [← Ny605.out] at ho20 | (simp only [Int.reduceToNat] at ho20; rw [← Ny605.out] at ho20)); have n0_ := Aside0.mk (Kd.N_elder' (by (with_reducible repeat (first | apply Kd.N_alloc | apply Kd.N_drewN | apply Kd.N_drew)); exact HO602.out) (Kd.R_base ho20) hb); have n1_ := Aside0.mk (Kd.R_lower ho20 (below_size (by repeat (first | (with_reducible first | exact HB.out | apply below_alloc | apply pw_below_drewN | apply below_drew1) | exact HB.out)))); have n2_ := Aside0.mk (below_step (by repeat (first | (with_reducible first | exact HB.out | apply below_alloc | apply pw_below_drewN | apply below_drew1) | exact HB.out)) hb); clear HO602; clear HB; have HO602 := n0_; have HO607 := n1_; have HB := n2_; clear n0_ n1_ n2_; clear hb ho20) | ((with_reducible refine gate_dst (N := 16) rfl ?_); refine Kd.R_lit (Kd.int .i64) _ 3 ?hg (N := 16) ?hd (xs := ([0, 2] : List Int)) (inner := [.int .i64 0, .int .i64 2]) (ok := fun _ => True) (okp := fun _ => True) ?hr ?hp (fun _ hk => hk) trivial (Below.refl _ _) (Nat.le_refl _) (by simp) ?_; (case hd => rfl); (case hg => rfl); (case hr => first | (go_simp; done) | (go_simp; rfl)); (case hp => exact (Reps.one (show Kd.M (Kd.int .i64) _ _ _ 0 [.int .i64 0] from rfl) (Reps.one (show Kd.M (Kd.int .i64) _ _ _ 2 [.int .i64 2] from rfl) (Reps.none _ _)))); intro v609 w21 ho22 hb hg_ hnew_; clear hg_ hnew_; (first | rw [← Ny608.out] at ho22 | (simp only [Int.reduceToNat] at ho22; rw [← Ny608.out] at ho22)); have n0_ := Aside0.mk (Kd.N_elder' (by (with_reducible repeat (first | apply Kd.N_alloc | apply Kd.N_drewN | apply Kd.N_drew)); exact HO602.out) (Kd.R_base ho22) hb); have n1_ := Aside0.mk (Kd.R_elder' (by (with_reducible repeat (first | apply Kd.R_alloc | apply Kd.R_drewN | apply Kd.R_drew)); exact HO607.out) (Kd.R_base ho22) hb); have n2_ := Aside0.mk (Kd.R_lower (Kd.R_new' ho22 (Kd.R_lt (by (with_reducible repeat (first | apply Kd.R_alloc | apply Kd.R_drewN | apply Kd.R_drew)); exact HO607.out))) (below_size (by repeat (first | (with_reducible first | exact HB.out | apply below_alloc | apply pw_below_drewN | apply below_drew1) | exact HB.out)))); have n3_ := Aside0.mk (below_step (by repeat (first | (with_reducible first | exact HB.out | apply below_alloc | apply pw_below_drewN | apply below_drew1) | exact HB.out)) hb); clear HO602; clear HO607; clear HB; have HO602 := n0_; have HO607 := n1_; have HO610 := n2_; have HB := n3_; clear n0_ n1_ n2_ n3_; clear hb ho22) | ((with_reducible refine gate_dst (N := 17) rfl ?_); refine Kd.R_lit (Kd.int .i64) _ 3 ?hg (N := 17) ?hd (xs := ([1, 2] : List Int)) (inner := [.int .i64 1, .int .i64 2]) (ok := fun _ => True) (okp := fun _ => True) ?hr ?hp (fun _ hk => hk) trivial (Below.refl _ _) (Nat.le_refl _) (by simp) ?_; (case hd => rfl); (case hg => rfl); (case hr => first | (go_simp; done) | (go_simp; rfl)); (case hp => exact (Reps.one (show Kd.M (Kd.int .i64) _ _ _ 1 [.int .i64 1] from rfl) (Reps.one (show Kd.M (Kd.int .i64) _ _ _ 2 [.int .i64 2] from rfl) (Reps.none _ _)))); intro v612 w23 ho24 hb hg_ hnew_; clear hg_ hnew_; (first | rw [← Ny611.out] at ho24 | (simp only [Int.reduceToNat] at ho24; rw [← Ny611.out] at ho24)); have n0_ := Aside0.mk (Kd.N_elder' (by (with_reducible repeat (first | apply Kd.N_alloc | apply Kd.N_drewN | apply Kd.N_drew)); exact HO602.out) (Kd.R_base ho24) hb); have n1_ := Aside0.mk (Kd.R_elder' (by (with_reducible repeat (first | apply Kd.R_alloc | apply Kd.R_drewN | apply Kd.R_drew)); exact HO607.out) (Kd.R_base ho24) hb); have n2_ := Aside0.mk (Kd.R_elder' (by (with_reducible repeat (first | apply Kd.R_alloc | apply Kd.R_drewN | apply Kd.R_drew)); exact HO610.out) (Kd.R_base ho24) hb); have n3_ := Aside0.mk (Kd.R_lower (Kd.R_new' (Kd.R_new' ho24 (Kd.R_lt (by (with_reducible repeat (first | apply Kd.R_alloc | apply Kd.R_drewN | apply Kd.R_drew)); exact HO607.out))) (Kd.R_lt (by (with_reducible repeat (first | apply Kd.R_alloc | apply Kd.R_drewN | apply Kd.R_drew)); exact HO610.out))) (below_size (by repeat (first | (with_reducible first | exact HB.out | apply below_alloc | apply pw_below_drewN | apply below_drew1) | exact HB.out)))); have n4_ := Aside0.mk (below_step (by repeat (first | (with_reducible first | exact HB.out | apply below_alloc | apply pw_below_drewN | apply below_drew1) | exact HB.out)) hb); clear HO602; clear HO607; clear HO610; clear HB; have HO602 := n0_; have HO607 := n1_; have HO610 := n2_; have HO613 := n3_; have HB := n4_; clear n0_ n1_ n2_ n3_ n4_; clear hb ho24; obtain ⟨Ao25, co25, eo25⟩ := Kd.R_slice HO607.out; subst eo25; obtain ⟨Ao26, co26, eo26⟩ := Kd.R_slice HO610.out; subst eo26; obtain ⟨Ao27, co27, eo27⟩ := Kd.R_slice HO613.out; subst eo27) | ((with_reducible refine gate_dst (N := 18) rfl ?_); refine Kd.N_lit (Kd.slice 3 (Kd.int .i64)) _ 34 ?hg (N' := 18) ?hd (xs := ([y605, y608, y611] : List (List Int))) (inner := [.slice Ao25 y605.length co25, .slice Ao26 y608.length co26, .slice Ao27 y611.length co27]) (ok := (fun k_ => some k_ ≠ (.slice Ao17 y600.length co17 : Value).ownBlock)) (okp := (fun k_ => some k_ ≠ (.slice Ao17 y600.length co17 : Value).ownBlock)) ?hr ?hp (fun _ hk => hk) ((show ∀ k_, w23.heap.size ≤ k_ → (fun k_ => some k_ ≠ (.slice Ao17 y600.length co17 : Value).ownBlock) k_ from fun k_ hk => Kd.fresh' (Kd.N_lt (by (with_reducible repeat (first | apply Kd.N_alloc | apply Kd.N_drewN | apply Kd.N_drew)); exact HO602.out)) k_ hk) _ (Nat.le_refl _)) (Below.refl _ _) (Nat.le_refl _) (by simp) ?_; (case hd => rfl); (case hg => rfl); (case hr => first | (go_simp; done) | (go_simp; rfl)); (case hp => exact (Reps.one (show Kd.FK (Kd.slice 3 (Kd.int .i64)) _ _ y605 [.slice Ao25 y605.length co25] from (Kd.FK_slice_mk (Kd.R_reads' (Kd.R_mono (ok' := (fun k_ => some k_ ≠ (.slice Ao17 y600.length co17 : Value).ownBlock)) (Kd.R_apart' (HO607.out) (Kd.N_typed HO602.out) (by decide)) (fun k_ hk => hk.2))).2.1 (Kd.R_F (Kd.R_mono (ok' := (fun k_ => some k_ ≠ (.slice Ao17 y600.length co17 : Value).ownBlock)) (Kd.R_apart' (HO607.out) (Kd.N_typed HO602.out) (by decide)) (fun k_ hk => hk.2))))) (Reps.one (show Kd.FK (Kd.slice 3 (Kd.int .i64)) _ _ y608 [.slice Ao26 y608.length co26] from (Kd.FK_slice_mk (Kd.R_reads' (Kd.R_mono (ok' := (fun k_ => some k_ ≠ (.slice Ao17 y600.length co17 : Value).ownBlock)) (Kd.R_apart' (HO610.out) (Kd.N_typed HO602.out) (by decide)) (fun k_ hk => hk.2))).2.1 (Kd.R_F (Kd.R_mono (ok' := (fun k_ => some k_ ≠ (.slice Ao17 y600.length co17 : Value).ownBlock)) (Kd.R_apart' (HO610.out) (Kd.N_typed HO602.out) (by decide)) (fun k_ hk => hk.2))))) (Reps.one (show Kd.FK (Kd.slice 3 (Kd.int .i64)) _ _ y611 [.slice Ao27 y611.length co27] from (Kd.FK_slice_mk (Kd.R_reads' (Kd.R_mono (ok' := (fun k_ => some k_ ≠ (.slice Ao17 y600.length co17 : Value).ownBlock)) (Kd.R_apart' (HO613.out) (Kd.N_typed HO602.out) (by decide)) (fun k_ hk => hk.2))).2.1 (Kd.R_F (Kd.R_mono (ok' := (fun k_ => some k_ ≠ (.slice Ao17 y600.length co17 : Value).ownBlock)) (Kd.R_apart' (HO613.out) (Kd.N_typed HO602.out) (by decide)) (fun k_ hk => hk.2))))) (Reps.none _ _))))); intro v615 w28 ho29 hb hg_ hnew_; clear hg_ hnew_; (first | rw [← Ny614.out] at ho29 | (simp only [Int.reduceToNat] at ho29; rw [← Ny614.out] at ho29)); have n0_ := Aside0.mk (Kd.N_elder' (by (with_reducible repeat (first | apply Kd.N_alloc | apply Kd.N_drewN | apply Kd.N_drew)); exact HO602.out) (by first | exact Kd.N_base ho29 | exact Kd.S_base ho29 | exact Kd.R_base ho29) hb); have n1_ := Aside0.mk (Kd.N_lower ho29 (below_size (by repeat (first | (with_reducible first | exact HB.out | apply below_alloc | apply pw_below_drewN | apply below_drew1) | exact HB.out)))); have n2_ := Aside0.mk (below_step (by repeat (first | (with_reducible first | exact HB.out | apply below_alloc | apply pw_below_drewN | apply below_drew1) | exact HB.out)) hb); clear HO602; clear HB; clear HO607; clear HO610; clear HO613; have HO602 := n0_; have HO616 := n1_; have HB := n2_; clear n0_ n1_ n2_; clear hb ho29; obtain ⟨Ao30, co30, eo30⟩ := Kd.N_slice HO616.out; subst eo30) | ((with_reducible refine gate_callee (f := 11) rfl ?_); refine goesL_ (some 20) rfl rfl Try.func11 (by kernel_rfl) rfl #[.agg #[.slice Ao30 y614.length co30]] rfl (by (try simp only [List.map_toArray, List.map_cons, List.map_nil]); first | done | rfl | (simp only [List.length_drop, List.length_take]; rfl)) ?_; (with_reducible refine (euler_Bound.calls k _ _ y614 t617 t618 _ ?side1 ?side2 A2.out).mono ?_); (case side1 => repeat (first | exact (Kd.N_reads' HO616.out).2.2 | (with_reducible refine Kd.C_alloc ?_ _) | (with_reducible refine Kd.C_drewN ?_ _) | (with_reducible refine Kd.C_drew ?_))); (case side2 => exact (Kd.N_reads' HO616.out).2.1); rintro e w31 ⟨rfl, hb⟩; refine ⟨_, rfl, ?_⟩; have n0_ := Aside0.mk (Kd.N_below (by (with_reducible repeat (first | apply Kd.N_alloc | apply Kd.N_drewN | apply Kd.N_drew)); exact HO602.out) hb); have n1_ := Aside0.mk (Kd.N_below (by (with_reducible repeat (first | apply Kd.N_alloc | apply Kd.N_drewN | apply Kd.N_drew)); exact HO616.out) hb); have n2_ := Aside0.mk (below_step (by repeat (first | (with_reducible first | exact HB.out | apply below_alloc | apply pw_below_drewN | apply below_drew1) | exact HB.out)) hb); clear HO602; clear HO616; clear HB; have HO602 := n0_; have HO616 := n1_; have HB := n2_; clear n0_ n1_ n2_; (try clear hb); (try clear hb2); (try clear hk); (try clear hi)))
        go_ret
        exact ⟨by first | rfl | (simp [errW_none, errW_some] <;> rfl) | (simp [*, errW_none, errW_some] <;> rfl), by repeat (first | (with_reducible first | exact HB.out | apply below_alloc | apply pw_below_drewN | apply below_drew1) | exact HB.out)⟩
      · rw [if_neg c5] at H
        exact absurd H (by simp)
    · replace c4 := Bool.eq_false_iff.mpr c4
      subst c4
      have H1 : (none) = some r := by rw [if_neg (show ¬ (false = true) by decide)] at H; exact H
      clear H
      have H := H1
      clear H1
      exact absurd H (by simp)
  · rw [if_neg c3] at H
    exact absurd H (by simp)

end Go.Proofs.Ytcpmmkennnjalaa.Q
end
