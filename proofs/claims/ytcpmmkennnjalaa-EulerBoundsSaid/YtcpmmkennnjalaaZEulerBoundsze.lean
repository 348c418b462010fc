/- The length of the shortest reset word of an automaton of at most MaxSmall states is at most Bound; the word that Reset returns has at most (n^3 - n) / 6 letters, and Bound does not say more. (text 31 of 37) -/
import Derived.Test.YtcpmmkennnjalaaZEulerBoundsg
import Derived.Test.YtcpmmkennnjalaaZEulerBoundszd
import Derived.Laws.EntriesVeiled
import Derived.Test.YtcpmmkennnjalaaZEulerBoundst
section
namespace Go.Proofs.Ytcpmmkennnjalaa.Q
open Go.RowKit Go.Proofs.YtcpmmkennnjalaaW.PrintWords Go.Proofs.YtcpmmkennnjalaaW.PrintLast Go.Proofs.YtcpmmkennnjalaaW.PrintMore
set_option linter.unusedVariables false
set_option linter.unusedSimpArgs false
def boundsObj : Obj := .cells #[.func (.func 32) #[] #[], .func (.func 67) #[] #[], .func (.func 68) #[] #[], .func (.func 69) #[] #[], .func (.func 70) #[] #[], .func (.func 71) #[] #[]] 52
set_option maxHeartbeats 1000000 in
theorem bounds_calls (w : World) : Calls Try.prog 34 #[] w fun e w' => e = .returned (.slice (some ⟨w.heap.size, 0, none⟩) 3 3) ∧ w' = w.alloc boundsObj := by
  go_enter Try.func34, Try.ntmps34
  go_wp2
  go_ret
  exact ⟨rfl, rfl⟩
theorem bounds1_calls (n : Int) (w : World) : Calls Try.prog 67 #[.int .i64 n] w fun e w' => e = .returned (.int .i64 (wrap64 (wrap64 (wrap64 (n * n) - wrap64 (3 * n)) + 3))) ∧ w' = w := by
  go_enter Try.func67, Try.ntmps67
  go_wp2
  go_ret
  exact ⟨rfl, rfl⟩
theorem bounds3_calls (n : Int) (w : World) : Calls Try.prog 69 #[.int .i64 n] w fun e w' => e = .returned (.int .i64 (wrap64 (wrap64 (n - 1) * wrap64 (n - 1)))) ∧ w' = w := by
  go_enter Try.func69, Try.ntmps69
  go_wp2
  go_ret
  exact ⟨rfl, rfl⟩
theorem bounds5_calls (n : Int) (w : World) : Calls Try.prog 71 #[.int .i64 n] w fun e w' => e = .returned (.int .i64 (wrap64 (Int.tdiv (wrap64 (wrap64 (wrap64 (n * n) * n) - n)) 6))) ∧ w' = w := by
  go_enter Try.func71, Try.ntmps71
  go_wp2
  go_ret
  exact ⟨rfl, rfl⟩
theorem bounds4_calls (v : Value) (w : World) : Calls Try.prog 70 #[.agg #[v]] w fun e w' => e = .returned (.bool true) ∧ Below w.heap.size w w' := by
  have HB0 := Below.refl w.heap.size w
  go_enter Try.func70, Try.ntmps70
  go_wp2_with ((with_reducible refine gate_dst (N := 1) rfl ?_); refine box_event ?hg (N := 1) ?hd (cs := #[v]) (t := 24) ?hr ?_; (case hd => rfl); (case hg => rfl); (case hr => first | (go_simp; done) | (go_simp; rfl)); intro B hBe w1 hbox hb1;  have HB1 := Aside0.mk (below_step HB0 hb1); clear hbox hb1 hBe)
  go_ret
  exact ⟨rfl, HB1.out⟩
set_option maxHeartbeats 1000000 in
theorem bounds2_calls (k : Nat) (A0_0 : Option Addr) (c0_0 : Nat) (l0_0 : List (List Int)) (r1 : Int) (r2 : Bool) (w : World) (hr0_0 : Kd.C (Kd.slice 3 (Kd.int .i64)) w A0_0 l0_0.length l0_0) (hc0_0 : l0_0.length ≤ c0_0) (h : euler_circular.f k l0_0 = some (r1, r2)) :
    Calls Try.prog 68 #[.agg #[.slice A0_0 l0_0.length c0_0]] w fun e w' => e = .returned (.bool r2) ∧ Below w.heap.size w w' := by
  have HR := Aside0.mk hr0_0
  have HC := Aside0.mk hc0_0
  have HB0 := Below.refl w.heap.size w
  have H := Aside0.mk h
  clear hr0_0 hc0_0 h
  go_enter Try.func68, Try.ntmps68
  go_wp2_with ((with_reducible refine gate_dst (N := 1) rfl ?_); refine box_event ?hg (N := 1) ?hd (cs := #[.slice A0_0 l0_0.length c0_0]) (t := 24) ?hr ?_; (case hd => rfl); (case hg => rfl); (case hr => first | (go_simp; done) | (go_simp; rfl)); intro B hBe w1 hbox hb1;  have hcb : w1.cell? ⟨B, 0, none⟩ = some (.slice A0_0 l0_0.length c0_0) := (blk_cell hbox 0).trans rfl;  have HB1 := Aside0.mk (below_step HB0 hb1); clear hbox hb1 hBe)
  refine (euler_circular.calls k _ _ l0_0 r1 r2 _ (Kd.C_below HR.out HB1.out) HC.out H.out).mono ?_
  rintro e w2 ⟨rfl, hb2⟩
  have HB2 := Aside0.mk (below_step HB1.out hb2)
  clear hb2 hcb
  go_wp2
  go_ret
  exact ⟨rfl, HB2.out⟩
def euler_Bound.f (k : Nat) (l0_0 : List (List Int)) : Option (Int × Int) := (reset_Reset.f k l0_0).bind fun t => if t.2 = 0 then ((euler_eulerian.f l0_0).bind fun is => if is = true then some (wrap64 (wrap64 (wrap64 ((l0_0.length : Int) * (l0_0.length : Int)) - wrap64 (3 * (l0_0.length : Int))) + 3), 0) else ((euler_circular.f k l0_0).bind fun bt => if bt.2 = true then some (wrap64 (wrap64 ((l0_0.length : Int) - 1) * wrap64 ((l0_0.length : Int) - 1)), 0) else some (wrap64 (Int.tdiv (wrap64 (wrap64 (wrap64 ((l0_0.length : Int) * (l0_0.length : Int)) * (l0_0.length : Int)) - (l0_0.length : Int))) 6), 0))) else some (0, t.2)
theorem euler_Bound.mono : ∀ a0 k, LeO (euler_Bound.f k a0) (euler_Bound.f (k + 1) a0) := by
  intro a0 k
  unfold euler_Bound.f
  repeat' first
      | (with_reducible exact reset_Reset.mono _ _)
      | (with_reducible exact euler_circular.mono _ _)
      | (with_reducible exact LeO.refl _)
      | (with_reducible exact LeO.none _)
      | (with_reducible refine LeO.ite ?_ ?_)
      | (with_reducible refine LeO.bind ?_ (fun _ => ?_))
structure BoI (k : Nat) (l : List (List Int)) (w W : World) (g B : Nat) (A : Option Addr) (c : Nat) (i : Int) : Prop where
  below : Below w.heap.size w W
  box : W.heap[B]? = some (.cells #[.slice A l.length c] 24 (0, 0))
  fs : W.heap[g]? = some (.cells #[.func (.func 32) #[] #[], .func (.func 67) #[] #[], .func (.func 68) #[] #[], .func (.func 69) #[] #[], .func (.func 70) #[] #[], .func (.func 71) #[] #[]] 52 (0, 0))
  at_ : i = 0 ∨ (i = 1 ∧ euler_eulerian.f l = some false) ∨ (i = 2 ∧ euler_eulerian.f l = some false ∧ ∃ x, euler_circular.f k l = some (x, false))
set_option maxHeartbeats 1000000 in
theorem euler_Bound.calls (k : Nat) (A0_0 : Option Addr) (c0_0 : Nat) (l0_0 : List (List Int)) (r1 r2 : Int) (w : World) (hr0_0 : Kd.C (Kd.slice 3 (Kd.int .i64)) w A0_0 l0_0.length l0_0) (hc0_0 : l0_0.length ≤ c0_0) (h : euler_Bound.f k l0_0 = some (r1, r2)) :
    Calls Try.prog 11 #[.agg #[.slice A0_0 l0_0.length c0_0]] w fun e w' => e = .returned (.tuple #[.int .i64 r1, .int .i64 r2]) ∧ Below w.heap.size w w' := by
  have HR := Aside0.mk hr0_0
  have HC := Aside0.mk hc0_0
  have HB0 := Below.refl w.heap.size w
  have H := h
  clear hr0_0 hc0_0 h
  unfold euler_Bound.f at H
  obtain ⟨⟨t1, t2⟩, ht, H⟩ := Option.bind_eq_some_iff.mp H
  have HT := Aside0.mk ht
  clear ht
  by_cases d0 : t2 = 0
  · subst d0
    rw [if_pos rfl] at H
    have H' := Aside0.mk H
    clear H
    go_enter Try.func11, Try.ntmps11
    go_wp2_with ((with_reducible refine gate_dst (N := 1) rfl ?_); refine box_event ?hg (N := 1) ?hd (cs := #[.slice A0_0 l0_0.length c0_0]) (t := 24) ?hr ?_; (case hd => rfl); (case hg => rfl); (case hr => first | (go_simp; done) | (go_simp; rfl)); intro B hBe w1 hbox hb1;  have hcb : w1.cell? ⟨B, 0, none⟩ = some (.slice A0_0 l0_0.length c0_0) := (blk_cell hbox 0).trans rfl;  have HBox := Aside0.mk hbox; have HB1 := Aside0.mk (below_step HB0 hb1); clear hbox hb1 hBe)
    refine (reset_Reset.calls k _ _ l0_0 t1 0 _ (Kd.C_below HR.out HB1.out) HC.out HT.out).mono ?_
    rintro e w2 ⟨v0, rfl, _, hb2⟩
    have HB2 := Aside0.mk (below_step HB1.out hb2)
    have HBox2 := Aside0.mk (blk_below HBox.out hb2)
    have hcb2 : w2.cell? ⟨B, 0, none⟩ = some (.slice A0_0 l0_0.length c0_0) := (blk_cell HBox2.out 0).trans rfl
    clear hb2 hcb
    go_wp2_with fail
    refine (bounds_calls _).mono ?_
    rintro e w3 ⟨rfl, rfl⟩
    have HS : Aside0 (BoI k l0_0 w (w2.alloc boundsObj) w2.heap.size B A0_0 c0_0 0) := ⟨⟨below_alloc HB2.out _, blk_alloc HBox2.out _, blk_new w2 _, .inl rfl⟩⟩
    generalize w2.heap.size = g at HS ⊢
    generalize w2.alloc boundsObj = w3 at HS ⊢
    have HA := Aside0.mk hcb2
    clear hcb2
    go_wp2_with fail
    go_loopg [18] 3 (fun kq v18 w' => ∃ (x : Int), v18 = .int .i64 x ∧ Aside0 (x + (kq : Int) = 3) ∧ Aside0 (BoI k l0_0 w w' g B A0_0 c0_0 x))
    case atStart => exact ⟨0, rfl, ⟨by omega⟩, HS⟩
    case round =>
      obtain ⟨x, rfl, HK, HX⟩ := hrel
      have HA := HX.out.at_
      rcases HA with rfl | ⟨rfl, hn⟩ | ⟨rfl, hn, y, hy⟩
      · have H := H'.out
        obtain ⟨is, his, H⟩ := Option.bind_eq_some_iff.mp H
        have HI := Aside0.mk his
        clear his
        have HN := Aside0.mk (blk_new wr (.cells #[.func (.func 32) #[] #[], .func (.func 67) #[] #[]] 52))
        have HBx := Aside0.mk (blk_alloc HX.out.box (.cells #[.func (.func 32) #[] #[], .func (.func 67) #[] #[]] 52))
        have HBw := Aside0.mk (below_alloc HX.out.below (.cells #[.func (.func 32) #[] #[], .func (.func 67) #[] #[]] 52))
        have HFs := Aside0.mk (blk_alloc HX.out.fs (.cells #[.func (.func 32) #[] #[], .func (.func 67) #[] #[]] 52))
        have e0 : wr.cell? ⟨g, 0, none⟩ = some (.func (.func 32) #[] #[]) := (blk_cell HX.out.fs 0).trans rfl
        have e1 : wr.cell? ⟨g, 1, none⟩ = some (.func (.func 67) #[] #[]) := (blk_cell HX.out.fs 1).trans rfl
        have hcb : (wr.alloc (.cells #[.func (.func 32) #[] #[], .func (.func 67) #[] #[]] 52)).cell? ⟨B, 0, none⟩ = some (.slice A0_0 l0_0.length c0_0) := (blk_cell HBx.out 0).trans rfl
        go_wp2_with fail
        refine (euler_eulerian.calls _ _ l0_0 is _ (Kd.C_below HR.out HBw.out) HC.out HI.out).mono ?_
        rintro e w4 ⟨rfl, hb4⟩
        have HB4 := Aside0.mk (below_step HBw.out hb4)
        have HN4 := Aside0.mk (blk_below HN.out hb4)
        have HBx4 := Aside0.mk (blk_below HBx.out hb4)
        have HFs4 := Aside0.mk (blk_below HFs.out hb4)
        cases is with
        | true =>
          rw [if_pos rfl] at H
          simp only [Option.some.injEq, Prod.mk.injEq] at H
          obtain ⟨rfl, rfl⟩ := H
          have h1 : w4.cell? ⟨wr.heap.size, 1, none⟩ = some (.func (.func 67) #[] #[]) := (blk_cell HN4.out 1).trans rfl
          have h2 : w4.cell? ⟨B, 0, none⟩ = some (.slice A0_0 l0_0.length c0_0) := (blk_cell HBx4.out 0).trans rfl
          clear hb4 hcb e0 e1
          go_wp2_with fail
          refine (bounds1_calls _ _).mono ?_
          rintro e w5 ⟨rfl, rfl⟩
          go_wp2
          go_ret2
          exact ⟨rfl, HB4.out⟩
        | false =>
          have HI2 := HI.out
          clear hb4 hcb e0 e1
          go_wp2_with fail
          go_roundg (gk - 1)
          case measure => have := HK.out; omega
          case rel => exact ⟨_, rfl, ⟨by have := HK.out; omega⟩, ⟨⟨HB4.out, HBx4.out, HFs4.out, .inr (.inl ⟨rfl, HI2⟩)⟩⟩⟩
      · have H := H'.out
        rw [hn, Option.bind_some, if_neg (by decide)] at H
        obtain ⟨⟨y, is⟩, his, H⟩ := Option.bind_eq_some_iff.mp H
        have HI := Aside0.mk his
        clear his
        have HN := Aside0.mk (blk_new wr (.cells #[.func (.func 68) #[] #[], .func (.func 69) #[] #[]] 52))
        have HBx := Aside0.mk (blk_alloc HX.out.box (.cells #[.func (.func 68) #[] #[], .func (.func 69) #[] #[]] 52))
        have HBw := Aside0.mk (below_alloc HX.out.below (.cells #[.func (.func 68) #[] #[], .func (.func 69) #[] #[]] 52))
        have HFs := Aside0.mk (blk_alloc HX.out.fs (.cells #[.func (.func 68) #[] #[], .func (.func 69) #[] #[]] 52))
        have e0 : wr.cell? ⟨g, 2, none⟩ = some (.func (.func 68) #[] #[]) := (blk_cell HX.out.fs 2).trans rfl
        have e1 : wr.cell? ⟨g, 3, none⟩ = some (.func (.func 69) #[] #[]) := (blk_cell HX.out.fs 3).trans rfl
        have hcb : (wr.alloc (.cells #[.func (.func 68) #[] #[], .func (.func 69) #[] #[]] 52)).cell? ⟨B, 0, none⟩ = some (.slice A0_0 l0_0.length c0_0) := (blk_cell HBx.out 0).trans rfl
        go_wp2_with fail
        refine (bounds2_calls k _ _ l0_0 y is _ (Kd.C_below HR.out HBw.out) HC.out HI.out).mono ?_
        rintro e w4 ⟨rfl, hb4⟩
        have HB4 := Aside0.mk (below_step HBw.out hb4)
        have HN4 := Aside0.mk (blk_below HN.out hb4)
        have HBx4 := Aside0.mk (blk_below HBx.out hb4)
        have HFs4 := Aside0.mk (blk_below HFs.out hb4)
        cases is with
        | true =>
          rw [if_pos rfl] at H
          simp only [Option.some.injEq, Prod.mk.injEq] at H
          obtain ⟨rfl, rfl⟩ := H
          have h1 : w4.cell? ⟨wr.heap.size, 1, none⟩ = some (.func (.func 69) #[] #[]) := (blk_cell HN4.out 1).trans rfl
          have h2 : w4.cell? ⟨B, 0, none⟩ = some (.slice A0_0 l0_0.length c0_0) := (blk_cell HBx4.out 0).trans rfl
          clear hb4 hcb e0 e1
          go_wp2_with fail
          refine (bounds3_calls _ _).mono ?_
          rintro e w5 ⟨rfl, rfl⟩
          go_wp2
          go_ret2
          exact ⟨rfl, HB4.out⟩
        | false =>
          have HI2 := HI.out
          clear hb4 hcb e0 e1
          go_wp2_with fail
          go_roundg (gk - 1)
          case measure => have := HK.out; omega
          case rel => exact ⟨_, rfl, ⟨by have := HK.out; omega⟩, ⟨⟨HB4.out, HBx4.out, HFs4.out, .inr (.inr ⟨rfl, hn, y, HI2⟩)⟩⟩⟩
      · have H := H'.out
        rw [hn, Option.bind_some, if_neg (by decide), hy, Option.bind_some, if_neg Bool.false_ne_true] at H
        simp only [Option.some.injEq, Prod.mk.injEq] at H
        obtain ⟨rfl, rfl⟩ := H
        have HN := Aside0.mk (blk_new wr (.cells #[.func (.func 70) #[] #[], .func (.func 71) #[] #[]] 52))
        have HBx := Aside0.mk (blk_alloc HX.out.box (.cells #[.func (.func 70) #[] #[], .func (.func 71) #[] #[]] 52))
        have HBw := Aside0.mk (below_alloc HX.out.below (.cells #[.func (.func 70) #[] #[], .func (.func 71) #[] #[]] 52))
        have HFs := Aside0.mk (blk_alloc HX.out.fs (.cells #[.func (.func 70) #[] #[], .func (.func 71) #[] #[]] 52))
        have e0 : wr.cell? ⟨g, 4, none⟩ = some (.func (.func 70) #[] #[]) := (blk_cell HX.out.fs 4).trans rfl
        have e1 : wr.cell? ⟨g, 5, none⟩ = some (.func (.func 71) #[] #[]) := (blk_cell HX.out.fs 5).trans rfl
        have hcb : (wr.alloc (.cells #[.func (.func 70) #[] #[], .func (.func 71) #[] #[]] 52)).cell? ⟨B, 0, none⟩ = some (.slice A0_0 l0_0.length c0_0) := (blk_cell HBx.out 0).trans rfl
        go_wp2_with fail
        refine (bounds4_calls _ _).mono ?_
        rintro e w4 ⟨rfl, hb4⟩
        have HB4 := Aside0.mk (below_step HBw.out hb4)
        have HN4 := Aside0.mk (blk_below HN.out hb4)
        have HBx4 := Aside0.mk (blk_below HBx.out hb4)
        have HFs4 := Aside0.mk (blk_below HFs.out hb4)
        have h1 : w4.cell? ⟨wr.heap.size, 1, none⟩ = some (.func (.func 71) #[] #[]) := (blk_cell HN4.out 1).trans rfl
        have h2 : w4.cell? ⟨B, 0, none⟩ = some (.slice A0_0 l0_0.length c0_0) := (blk_cell HBx4.out 0).trans rfl
        clear hb4 hcb e0 e1
        go_wp2_with fail
        refine (bounds5_calls _ _).mono ?_
        rintro e w5 ⟨rfl, rfl⟩
        go_wp2
        go_ret2
        exact ⟨rfl, HB4.out⟩
  · rw [if_neg d0] at H
    simp only [Option.some.injEq, Prod.mk.injEq] at H
    obtain ⟨rfl, rfl⟩ := H
    have q0 := eq_false d0
    have q1 := beq_false_of_ne d0
    have q2 := bne_iff_ne.mpr d0
    have D0 := Aside0.mk d0
    clear d0
    go_enter Try.func11, Try.ntmps11
    go_wp2_with ((with_reducible refine gate_dst (N := 1) rfl ?_); refine box_event ?hg (N := 1) ?hd (cs := #[.slice A0_0 l0_0.length c0_0]) (t := 24) ?hr ?_; (case hd => rfl); (case hg => rfl); (case hr => first | (go_simp; done) | (go_simp; rfl)); intro B hBe w1 hbox hb1;  have hcb : w1.cell? ⟨B, 0, none⟩ = some (.slice A0_0 l0_0.length c0_0) := (blk_cell hbox 0).trans rfl;  have HBox := Aside0.mk hbox; have HB1 := Aside0.mk (below_step HB0 hb1); clear hbox hb1 hBe)
    refine (reset_Reset.calls k _ _ l0_0 t1 t2 _ (Kd.C_below HR.out HB1.out) HC.out HT.out).mono ?_
    rintro e w2 ⟨v0, rfl, _, hb2⟩
    have HB2 := Aside0.mk (below_step HB1.out hb2)
    clear hb2 hcb
    go_wp2
    go_ret2
    exact ⟨rfl, HB2.out⟩
end Go.Proofs.Ytcpmmkennnjalaa.Q
end
section
-- Written by xprint.py, a program of this session's, over the kit's print. Lean checks it.
namespace Go.Proofs.Ytcpmmkennnjalaa.Q
open Go.RowKit Go.Proofs.YtcpmmkennnjalaaW.PrintWords Go.Proofs.YtcpmmkennnjalaaW.PrintLast Go.Proofs.YtcpmmkennnjalaaW.PrintMore
attribute [local go_sem] max2_int min2_int max_two min_two max_three min_three max_four min_four
set_option linter.unusedVariables false
set_option linter.unusedSimpArgs false

/-! ### mizmazelaw06_awake: function 13 -/
def mizmazelaw06_awake.f (k : Nat)  : Option (Bool) := (some (([(([1, 0] : List Int)), (([2, 1] : List Int)), (([0, 2] : List Int))] : List (List Int)) : List (List Int))).bind fun y305 => ((some (([(([0, 1] : List Int)), (([0, 2] : List Int)), (([1, 2] : List Int))] : List (List Int)) : List (List Int))).bind fun y318 => ((euler_Eulerian.f y305).bind fun bt322 => ((euler_Circular.f k y305).bind fun bt324 => ((euler_Bound.f k y305).bind fun bt326 => ((euler_Bound.f k y318).bind fun bt328 => ((euler_Extend.f k y318 (([0] : List Int))).bind fun bt333 => (if bt322.2 = 0 then (if bt322.1 = true then (if bt324.2 = 0 then (if bt324.1 = 0 then (if bt326.2 = 4 then (if bt328.2 = 0 then (if bt328.1 = 3 then (if bt333.2 = 0 then ((mizmazeref01_Same.f k bt333.1 (([0] : List Int))).bind fun t340 => (some t340)) else (none)) else (none)) else (none)) else (none)) else (none)) else (none)) else (none)) else (none))))))))
theorem mizmazelaw06_awake.mono : ∀ k, LeO (mizmazelaw06_awake.f k ) (mizmazelaw06_awake.f (k + 1) ) := by
  intro  k
  unfold mizmazelaw06_awake.f
  repeat' first
      | (with_reducible exact euler_Bound.mono _ _)
      | (with_reducible exact euler_Circular.mono _ _)
      | (with_reducible exact euler_Extend.mono _ _ _)
      | (with_reducible exact mizmazeref01_Same.mono _ _ _)
      | (with_reducible exact LeO.refl _)
      | (with_reducible exact LeO.none _)
      | (with_reducible refine LeO.ite ?_ ?_)
      | (with_reducible refine LeO.bind ?_ (fun _ => ?_))
      | exact euler_Bound.mono _ _
      | exact euler_Circular.mono _ _
      | exact euler_Extend.mono _ _ _
      | exact mizmazeref01_Same.mono _ _ _
      | exact LeO.none _
      | refine LeO.ite ?_ ?_
      | refine LeO.bind ?_ (fun _ => ?_)
set_option maxHeartbeats 8000000 in
set_option maxRecDepth 100000 in
theorem mizmazelaw06_awake.calls (k : Nat)  (r : Bool) (w : World) (h : mizmazelaw06_awake.f k  = some r) :
    Calls Try.prog 13 #[] w fun e w' => e = .returned (.bool r) ∧ Below w.heap.size w w' := by
  have hu24 := Try.underlying24
  have HB := Aside0.mk (Below.refl w.heap.size w)
  have H : ((some (([(([1, 0] : List Int)), (([2, 1] : List Int)), (([0, 2] : List Int))] : List (List Int)) : List (List Int))).bind fun y305 => ((some (([(([0, 1] : List Int)), (([0, 2] : List Int)), (([1, 2] : List Int))] : List (List Int)) : List (List Int))).bind fun y318 => ((euler_Eulerian.f y305).bind fun bt322 => ((euler_Circular.f k y305).bind fun bt324 => ((euler_Bound.f k y305).bind fun bt326 => ((euler_Bound.f k y318).bind fun bt328 => ((euler_Extend.f k y318 (([0] : List Int))).bind fun bt333 => (if bt322.2 = 0 then (if bt322.1 = true then (if bt324.2 = 0 then (if bt324.1 = 0 then (if bt326.2 = 4 then (if bt328.2 = 0 then (if bt328.1 = 3 then (if bt333.2 = 0 then ((mizmazeref01_Same.f k bt333.1 (([0] : List Int))).bind fun t340 => (some t340)) else (none)) else (none)) else (none)) else (none)) else (none)) else (none)) else (none)) else (none))))))))) = some r := h
  clear h
  obtain ⟨y296, hy296⟩ : ∃ y_ : List Int, y_ = (([1, 0] : List Int)) := ⟨_, rfl⟩
  replace H : ((some (([y296, (([2, 1] : List Int)), (([0, 2] : List Int))] : List (List Int)) : List (List Int))).bind fun y305 => ((some (([(([0, 1] : List Int)), (([0, 2] : List Int)), (([1, 2] : List Int))] : List (List Int)) : List (List Int))).bind fun y318 => ((euler_Eulerian.f y305).bind fun bt322 => ((euler_Circular.f k y305).bind fun bt324 => ((euler_Bound.f k y305).bind fun bt326 => ((euler_Bound.f k y318).bind fun bt328 => ((euler_Extend.f k y318 (([0] : List Int))).bind fun bt333 => (if bt322.2 = 0 then (if bt322.1 = true then (if bt324.2 = 0 then (if bt324.1 = 0 then (if bt326.2 = 4 then (if bt328.2 = 0 then (if bt328.1 = 3 then (if bt333.2 = 0 then ((mizmazeref01_Same.f k bt333.1 (([0] : List Int))).bind fun t340 => (some t340)) else (none)) else (none)) else (none)) else (none)) else (none)) else (none)) else (none)) else (none))))))))) = some r := by first | (rw [hy296]; with_reducible exact H) | (have H2_ := (Option.bind_some _ _).symm.trans H; rw [hy296]; with_reducible exact H2_) | (have H2_ := (Option.bind_some _ _).symm.trans H; with_reducible exact H2_) | with_reducible exact H | (rw [hy296]; exact H) | exact H
  have Ny296 := Aside0.mk hy296
  clear hy296
  obtain ⟨y299, hy299⟩ : ∃ y_ : List Int, y_ = (([2, 1] : List Int)) := ⟨_, rfl⟩
  replace H : ((some (([y296, y299, (([0, 2] : List Int))] : List (List Int)) : List (List Int))).bind fun y305 => ((some (([(([0, 1] : List Int)), (([0, 2] : List Int)), (([1, 2] : List Int))] : List (List Int)) : List (List Int))).bind fun y318 => ((euler_Eulerian.f y305).bind fun bt322 => ((euler_Circular.f k y305).bind fun bt324 => ((euler_Bound.f k y305).bind fun bt326 => ((euler_Bound.f k y318).bind fun bt328 => ((euler_Extend.f k y318 (([0] : List Int))).bind fun bt333 => (if bt322.2 = 0 then (if bt322.1 = true then (if bt324.2 = 0 then (if bt324.1 = 0 then (if bt326.2 = 4 then (if bt328.2 = 0 then (if bt328.1 = 3 then (if bt333.2 = 0 then ((mizmazeref01_Same.f k bt333.1 (([0] : List Int))).bind fun t340 => (some t340)) else (none)) else (none)) else (none)) else (none)) else (none)) else (none)) else (none)) else (none))))))))) = some r := by first | (rw [hy299]; with_reducible exact H) | (have H2_ := (Option.bind_some _ _).symm.trans H; rw [hy299]; with_reducible exact H2_) | (have H2_ := (Option.bind_some _ _).symm.trans H; with_reducible exact H2_) | with_reducible exact H | (rw [hy299]; exact H) | exact H
  have Ny299 := Aside0.mk hy299
  clear hy299
  obtain ⟨y302, hy302⟩ : ∃ y_ : List Int, y_ = (([0, 2] : List Int)) := ⟨_, rfl⟩
  replace H : ((some (([y296, y299, y302] : List (List Int)) : List (List Int))).bind fun y305 => ((some (([(([0, 1] : List Int)), (([0, 2] : List Int)), (([1, 2] : List Int))] : List (List Int)) : List (List Int))).bind fun y318 => ((euler_Eulerian.f y305).bind fun bt322 => ((euler_Circular.f k y305).bind fun bt324 => ((euler_Bound.f k y305).bind fun bt326 => ((euler_Bound.f k y318).bind fun bt328 => ((euler_Extend.f k y318 (([0] : List Int))).bind fun bt333 => (if bt322.2 = 0 then (if bt322.1 = true then (if bt324.2 = 0 then (if bt324.1 = 0 then (if bt326.2 = 4 then (if bt328.2 = 0 then (if bt328.1 = 3 then (if bt333.2 = 0 then ((mizmazeref01_Same.f k bt333.1 (([0] : List Int))).bind fun t340 => (some t340)) else (none)) else (none)) else (none)) else (none)) else (none)) else (none)) else (none)) else (none))))))))) = some r := by first | (rw [hy302]; with_reducible exact H) | (have H2_ := (Option.bind_some _ _).symm.trans H; rw [hy302]; with_reducible exact H2_) | (have H2_ := (Option.bind_some _ _).symm.trans H; with_reducible exact H2_) | with_reducible exact H | (rw [hy302]; exact H) | exact H
  have Ny302 := Aside0.mk hy302
  clear hy302
  obtain ⟨y305, hy305⟩ : ∃ y_ : List (List Int), y_ = (([y296, y299, y302] : List (List Int))) := ⟨_, rfl⟩
  replace H : ((some (([(([0, 1] : List Int)), (([0, 2] : List Int)), (([1, 2] : List Int))] : List (List Int)) : List (List Int))).bind fun y318 => ((euler_Eulerian.f y305).bind fun bt322 => ((euler_Circular.f k y305).bind fun bt324 => ((euler_Bound.f k y305).bind fun bt326 => ((euler_Bound.f k y318).bind fun bt328 => ((euler_Extend.f k y318 (([0] : List Int))).bind fun bt333 => (if bt322.2 = 0 then (if bt322.1 = true then (if bt324.2 = 0 then (if bt324.1 = 0 then (if bt326.2 = 4 then (if bt328.2 = 0 then (if bt328.1 = 3 then (if bt333.2 = 0 then ((mizmazeref01_Same.f k bt333.1 (([0] : List Int))).bind fun t340 => (some t340)) else (none)) else (none)) else (none)) else (none)) else (none)) else (none)) else (none)) else (none)))))))) = some r := by first | (rw [hy305]; with_reducible exact H) | (have H2_ := (Option.bind_some _ _).symm.trans H; rw [hy305]; with_reducible exact H2_) | (have H2_ := (Option.bind_some _ _).symm.trans H; with_reducible exact H2_) | with_reducible exact H | (rw [hy305]; exact H) | exact H
  have Ny305 := Aside0.mk hy305
  clear hy305
  obtain ⟨y309, hy309⟩ : ∃ y_ : List Int, y_ = (([0, 1] : List Int)) := ⟨_, rfl⟩
  replace H : ((some (([y309, (([0, 2] : List Int)), (([1, 2] : List Int))] : List (List Int)) : List (List Int))).bind fun y318 => ((euler_Eulerian.f y305).bind fun bt322 => ((euler_Circular.f k y305).bind fun bt324 => ((euler_Bound.f k y305).bind fun bt326 => ((euler_Bound.f k y318).bind fun bt328 => ((euler_Extend.f k y318 (([0] : List Int))).bind fun bt333 => (if bt322.2 = 0 then (if bt322.1 = true then (if bt324.2 = 0 then (if bt324.1 = 0 then (if bt326.2 = 4 then (if bt328.2 = 0 then (if bt328.1 = 3 then (if bt333.2 = 0 then ((mizmazeref01_Same.f k bt333.1 (([0] : List Int))).bind fun t340 => (some t340)) else (none)) else (none)) else (none)) else (none)) else (none)) else (none)) else (none)) else (none)))))))) = some r := by first | (rw [hy309]; with_reducible exact H) | (have H2_ := (Option.bind_some _ _).symm.trans H; rw [hy309]; with_reducible exact H2_) | (have H2_ := (Option.bind_some _ _).symm.trans H; with_reducible exact H2_) | with_reducible exact H | (rw [hy309]; exact H) | exact H
  have Ny309 := Aside0.mk hy309
  clear hy309
  obtain ⟨y312, hy312⟩ : ∃ y_ : List Int, y_ = (([0, 2] : List Int)) := ⟨_, rfl⟩
  replace H : ((some (([y309, y312, (([1, 2] : List Int))] : List (List Int)) : List (List Int))).bind fun y318 => ((euler_Eulerian.f y305).bind fun bt322 => ((euler_Circular.f k y305).bind fun bt324 => ((euler_Bound.f k y305).bind fun bt326 => ((euler_Bound.f k y318).bind fun bt328 => ((euler_Extend.f k y318 (([0] : List Int))).bind fun bt333 => (if bt322.2 = 0 then (if bt322.1 = true then (if bt324.2 = 0 then (if bt324.1 = 0 then (if bt326.2 = 4 then (if bt328.2 = 0 then (if bt328.1 = 3 then (if bt333.2 = 0 then ((mizmazeref01_Same.f k bt333.1 (([0] : List Int))).bind fun t340 => (some t340)) else (none)) else (none)) else (none)) else (none)) else (none)) else (none)) else (none)) else (none)))))))) = some r := by first | (rw [hy312]; with_reducible exact H) | (have H2_ := (Option.bind_some _ _).symm.trans H; rw [hy312]; with_reducible exact H2_) | (have H2_ := (Option.bind_some _ _).symm.trans H; with_reducible exact H2_) | with_reducible exact H | (rw [hy312]; exact H) | exact H
  have Ny312 := Aside0.mk hy312
  clear hy312
  obtain ⟨y315, hy315⟩ : ∃ y_ : List Int, y_ = (([1, 2] : List Int)) := ⟨_, rfl⟩
  replace H : ((some (([y309, y312, y315] : List (List Int)) : List (List Int))).bind fun y318 => ((euler_Eulerian.f y305).bind fun bt322 => ((euler_Circular.f k y305).bind fun bt324 => ((euler_Bound.f k y305).bind fun bt326 => ((euler_Bound.f k y318).bind fun bt328 => ((euler_Extend.f k y318 (([0] : List Int))).bind fun bt333 => (if bt322.2 = 0 then (if bt322.1 = true then (if bt324.2 = 0 then (if bt324.1 = 0 then (if bt326.2 = 4 then (if bt328.2 = 0 then (if bt328.1 = 3 then (if bt333.2 = 0 then ((mizmazeref01_Same.f k bt333.1 (([0] : List Int))).bind fun t340 => (some t340)) else (none)) else (none)) else (none)) else (none)) else (none)) else (none)) else (none)) else (none)))))))) = some r := by first | (rw [hy315]; with_reducible exact H) | (have H2_ := (Option.bind_some _ _).symm.trans H; rw [hy315]; with_reducible exact H2_) | (have H2_ := (Option.bind_some _ _).symm.trans H; with_reducible exact H2_) | with_reducible exact H | (rw [hy315]; exact H) | exact H
  have Ny315 := Aside0.mk hy315
  clear hy315
  obtain ⟨y318, hy318⟩ : ∃ y_ : List (List Int), y_ = (([y309, y312, y315] : List (List Int))) := ⟨_, rfl⟩
  replace H : ((euler_Eulerian.f y305).bind fun bt322 => ((euler_Circular.f k y305).bind fun bt324 => ((euler_Bound.f k y305).bind fun bt326 => ((euler_Bound.f k y318).bind fun bt328 => ((euler_Extend.f k y318 (([0] : List Int))).bind fun bt333 => (if bt322.2 = 0 then (if bt322.1 = true then (if bt324.2 = 0 then (if bt324.1 = 0 then (if bt326.2 = 4 then (if bt328.2 = 0 then (if bt328.1 = 3 then (if bt333.2 = 0 then ((mizmazeref01_Same.f k bt333.1 (([0] : List Int))).bind fun t340 => (some t340)) else (none)) else (none)) else (none)) else (none)) else (none)) else (none)) else (none)) else (none))))))) = some r := by first | (rw [hy318]; with_reducible exact H) | (have H2_ := (Option.bind_some _ _).symm.trans H; rw [hy318]; with_reducible exact H2_) | (have H2_ := (Option.bind_some _ _).symm.trans H; with_reducible exact H2_) | with_reducible exact H | (rw [hy318]; exact H) | exact H
  have Ny318 := Aside0.mk hy318
  clear hy318
  replace H := Option.bind_eq_some_iff.mp H
  obtain ⟨⟨t322, t323⟩, A10, H⟩ := H
  replace H : ((euler_Circular.f k y305).bind fun bt324 => ((euler_Bound.f k y305).bind fun bt326 => ((euler_Bound.f k y318).bind fun bt328 => ((euler_Extend.f k y318 (([0] : List Int))).bind fun bt333 => (if t323 = 0 then (if t322 = true then (if bt324.2 = 0 then (if bt324.1 = 0 then (if bt326.2 = 4 then (if bt328.2 = 0 then (if bt328.1 = 3 then (if bt333.2 = 0 then ((mizmazeref01_Same.f k bt333.1 (([0] : List Int))).bind fun t340 => (some t340)) else (none)) else (none)) else (none)) else (none)) else (none)) else (none)) else (none)) else (none)))))) = some r := H
  have A1 := Aside0.mk A10
  clear A10
  replace H := Option.bind_eq_some_iff.mp H
  obtain ⟨⟨t324, t325⟩, A20, H⟩ := H
  replace H : ((euler_Bound.f k y305).bind fun bt326 => ((euler_Bound.f k y318).bind fun bt328 => ((euler_Extend.f k y318 (([0] : List Int))).bind fun bt333 => (if t323 = 0 then (if t322 = true then (if t325 = 0 then (if t324 = 0 then (if bt326.2 = 4 then (if bt328.2 = 0 then (if bt328.1 = 3 then (if bt333.2 = 0 then ((mizmazeref01_Same.f k bt333.1 (([0] : List Int))).bind fun t340 => (some t340)) else (none)) else (none)) else (none)) else (none)) else (none)) else (none)) else (none)) else (none))))) = some r := H
  have A2 := Aside0.mk A20
  clear A20
  replace H := Option.bind_eq_some_iff.mp H
  obtain ⟨⟨t326, t327⟩, A30, H⟩ := H
  replace H : ((euler_Bound.f k y318).bind fun bt328 => ((euler_Extend.f k y318 (([0] : List Int))).bind fun bt333 => (if t323 = 0 then (if t322 = true then (if t325 = 0 then (if t324 = 0 then (if t327 = 4 then (if bt328.2 = 0 then (if bt328.1 = 3 then (if bt333.2 = 0 then ((mizmazeref01_Same.f k bt333.1 (([0] : List Int))).bind fun t340 => (some t340)) else (none)) else (none)) else (none)) else (none)) else (none)) else (none)) else (none)) else (none)))) = some r := H
  have A3 := Aside0.mk A30
  clear A30
  replace H := Option.bind_eq_some_iff.mp H
  obtain ⟨⟨t328, t329⟩, A40, H⟩ := H
  replace H : ((euler_Extend.f k y318 (([0] : List Int))).bind fun bt333 => (if t323 = 0 then (if t322 = true then (if t325 = 0 then (if t324 = 0 then (if t327 = 4 then (if t329 = 0 then (if t328 = 3 then (if bt333.2 = 0 then ((mizmazeref01_Same.f k bt333.1 (([0] : List Int))).bind fun t340 => (some t340)) else (none)) else (none)) else (none)) else (none)) else (none)) else (none)) else (none)) else (none))) = some r := H
  have A4 := Aside0.mk A40
  clear A40
  obtain ⟨y330, hy330⟩ : ∃ y_ : List Int, y_ = (([0] : List Int)) := ⟨_, rfl⟩
  replace H : ((euler_Extend.f k y318 y330).bind fun bt333 => (if t323 = 0 then (if t322 = true then (if t325 = 0 then (if t324 = 0 then (if t327 = 4 then (if t329 = 0 then (if t328 = 3 then (if bt333.2 = 0 then ((mizmazeref01_Same.f k bt333.1 (([0] : List Int))).bind fun t340 => (some t340)) else (none)) else (none)) else (none)) else (none)) else (none)) else (none)) else (none)) else (none))) = some r := by first | (rw [hy330]; with_reducible exact H) | (have H2_ := (Option.bind_some _ _).symm.trans H; rw [hy330]; with_reducible exact H2_) | (have H2_ := (Option.bind_some _ _).symm.trans H; with_reducible exact H2_) | with_reducible exact H | (rw [hy330]; exact H) | exact H
  have Ny330 := Aside0.mk hy330
  clear hy330
  replace H := Option.bind_eq_some_iff.mp H
  obtain ⟨⟨t333, t336⟩, A50, H⟩ := H
  replace H : (if t323 = 0 then (if t322 = true then (if t325 = 0 then (if t324 = 0 then (if t327 = 4 then (if t329 = 0 then (if t328 = 3 then (if t336 = 0 then ((mizmazeref01_Same.f k t333 (([0] : List Int))).bind fun t340 => (some t340)) else (none)) else (none)) else (none)) else (none)) else (none)) else (none)) else (none)) else (none)) = some r := H
  have A5 := Aside0.mk A50
  clear A50
  by_cases c6 : t323 = 0
  · rw [if_pos c6] at H
    have c6b0 : (t323 == 0) = true := beq_iff_eq.mpr c6
    have c6b1 : (t323 != 0) = false := bne_eq_false_iff_eq.mpr c6
    clear c6
    by_cases c7 : t322 = true
    · subst c7
      have H1 : (if t325 = 0 then (if t324 = 0 then (if t327 = 4 then (if t329 = 0 then (if t328 = 3 then (if t336 = 0 then ((mizmazeref01_Same.f k t333 (([0] : List Int))).bind fun t340 => (some t340)) else (none)) else (none)) else (none)) else (none)) else (none)) else (none)) = some r := by rw [if_pos rfl] at H; exact H
      clear H
      have H := H1
      clear H1
      by_cases c8 : t325 = 0
      · rw [if_pos c8] at H
        have c8b0 : (t325 == 0) = true := beq_iff_eq.mpr c8
        have c8b1 : (t325 != 0) = false := bne_eq_false_iff_eq.mpr c8
        clear c8
        by_cases c9 : t324 = 0
        · rw [if_pos c9] at H
          have c9b0 : (t324 == 0) = true := beq_iff_eq.mpr c9
          have c9b1 : (t324 != 0) = false := bne_eq_false_iff_eq.mpr c9
          clear c9
          by_cases c10 : t327 = 4
          · rw [if_pos c10] at H
            have c10b0 : (t327 == 4) = true := beq_iff_eq.mpr c10
            have c10b1 : (t327 != 4) = false := bne_eq_false_iff_eq.mpr c10
            clear c10
            by_cases c11 : t329 = 0
            · rw [if_pos c11] at H
              have c11b0 : (t329 == 0) = true := beq_iff_eq.mpr c11
              have c11b1 : (t329 != 0) = false := bne_eq_false_iff_eq.mpr c11
              clear c11
              by_cases c12 : t328 = 3
              · rw [if_pos c12] at H
                have c12b0 : (t328 == 3) = true := beq_iff_eq.mpr c12
                have c12b1 : (t328 != 3) = false := bne_eq_false_iff_eq.mpr c12
                clear c12
                by_cases c13 : t336 = 0
                · rw [if_pos c13] at H
                  have c13b0 : (t336 == 0) = true := beq_iff_eq.mpr c13
                  have c13b1 : (t336 != 0) = false := bne_eq_false_iff_eq.mpr c13
                  clear c13
                  obtain ⟨y337, hy337⟩ : ∃ y_ : List Int, y_ = (([0] : List Int)) := ⟨_, rfl⟩
                  replace H : ((mizmazeref01_Same.f k t333 y337).bind fun t340 => (some t340)) = some r := by first | (rw [hy337]; with_reducible exact H) | (have H2_ := (Option.bind_some _ _).symm.trans H; rw [hy337]; with_reducible exact H2_) | (have H2_ := (Option.bind_some _ _).symm.trans H; with_reducible exact H2_) | with_reducible exact H | (rw [hy337]; exact H) | exact H
                  have Ny337 := Aside0.mk hy337
                  clear hy337
                  replace H := Option.bind_eq_some_iff.mp H
                  obtain ⟨t340, A140, H⟩ := H
                  replace H : (some t340) = some r := H
                  have A14 := Aside0.mk A140
                  clear A140
                  obtain rfl := Option.some.inj H
                  go_enter Try.func13, Try.ntmps13
                  go_wp2_with (first | ((with_reducible refine gate_dst (N := 13) rfl ?_); (try (refine gate_guard (by rfl) ?_; dsimp only)); refine Kd.R_lit (Kd.int .i64) _ 3 ?hg (N := 13) ?hd (xs := ([1, 0] : List Int)) (inner := [.int .i64 1, .int .i64 0]) (ok := fun _ => True) (okp := fun _ => True) ?hr ?hp (fun _ hk => hk) trivial (Below.refl _ _) (Nat.le_refl _) (by simp) ?_; (case hd => rfl); (case hg => rfl); (case hr => first | (go_simp; done) | (go_simp; rfl)); (case hp => exact (Reps.one (show Kd.M (Kd.int .i64) _ _ _ 1 [.int .i64 1] from rfl) (Reps.one (show Kd.M (Kd.int .i64) _ _ _ 0 [.int .i64 0] from rfl) (Reps.none _ _)))); intro v297 w15 ho16 hb hg_ hnew_; clear hg_ hnew_; (first | rw [← Ny296.out] at ho16 | (simp only [Int.reduceToNat] at ho16; rw [← Ny296.out] at ho16)); have n0_ := Aside0.mk (Kd.R_lower ho16 (below_size (by repeat (first | (with_reducible first | exact HB.out | apply below_alloc | apply pw_below_drewN | apply below_drew1) | exact HB.out)))); have n1_ := Aside0.mk (below_step (by repeat (first | (with_reducible first | exact HB.out | apply below_alloc | apply pw_below_drewN | apply below_drew1) | exact HB.out)) hb); clear HB; have HO298 := n0_; have HB := n1_; clear n0_ n1_; clear hb ho16) | ((with_reducible refine gate_dst (N := 14) rfl ?_); (try (refine gate_guard (by rfl) ?_; dsimp only)); refine Kd.R_lit (Kd.int .i64) _ 3 ?hg (N := 14) ?hd (xs := ([2, 1] : List Int)) (inner := [.int .i64 2, .int .i64 1]) (ok := fun _ => True) (okp := fun _ => True) ?hr ?hp (fun _ hk => hk) trivial (Below.refl _ _) (Nat.le_refl _) (by simp) ?_; (case hd => rfl); (case hg => rfl); (case hr => first | (go_simp; done) | (go_simp; rfl)); (case hp => exact (Reps.one (show Kd.M (Kd.int .i64) _ _ _ 2 [.int .i64 2] from rfl) (Reps.one (show Kd.M (Kd.int .i64) _ _ _ 1 [.int .i64 1] from rfl) (Reps.none _ _)))); intro v300 w17 ho18 hb hg_ hnew_; clear hg_ hnew_; (first | rw [← Ny299.out] at ho18 | (simp only [Int.reduceToNat] at ho18; rw [← Ny299.out] at ho18)); have n0_ := Aside0.mk (Kd.R_elder' (by (with_reducible repeat (first | apply Kd.R_alloc | apply Kd.R_drewN | apply Kd.R_drew)); exact HO298.out) (Kd.R_base ho18) hb); have n1_ := Aside0.mk (Kd.R_lower (Kd.R_new' ho18 (Kd.R_lt (by (with_reducible repeat (first | apply Kd.R_alloc | apply Kd.R_drewN | apply Kd.R_drew)); exact HO298.out))) (below_size (by repeat (first | (with_reducible first | exact HB.out | apply below_alloc | apply pw_below_drewN | apply below_drew1) | exact HB.out)))); have n2_ := Aside0.mk (below_step (by repeat (first | (with_reducible first | exact HB.out | apply below_alloc | apply pw_below_drewN | apply below_drew1) | exact HB.out)) hb); clear HO298; clear HB; have HO298 := n0_; have HO301 := n1_; have HB := n2_; clear n0_ n1_ n2_; clear hb ho18) | ((with_reducible refine gate_dst (N := 15) rfl ?_); (try (refine gate_guard (by rfl) ?_; dsimp only)); refine Kd.R_lit (Kd.int .i64) _ 3 ?hg (N := 15) ?hd (xs := ([0, 2] : List Int)) (inner := [.int .i64 0, .int .i64 2]) (ok := fun _ => True) (okp := fun _ => True) ?hr ?hp (fun _ hk => hk) trivial (Below.refl _ _) (Nat.le_refl _) (by simp) ?_; (case hd => rfl); (case hg => rfl); (case hr => first | (go_simp; done) | (go_simp; rfl)); (case hp => exact (Reps.one (show Kd.M (Kd.int .i64) _ _ _ 0 [.int .i64 0] from rfl) (Reps.one (show Kd.M (Kd.int .i64) _ _ _ 2 [.int .i64 2] from rfl) (Reps.none _ _)))); intro v303 w19 ho20 hb hg_ hnew_; clear hg_ hnew_; (first | rw [← Ny302.out] at ho20 | (simp only [Int.reduceToNat] at ho20; rw [← Ny302.out] at ho20)); have n0_ := Aside0.mk (Kd.R_elder' (by (with_reducible repeat (first | apply Kd.R_alloc | apply Kd.R_drewN | apply Kd.R_drew)); exact HO298.out) (Kd.R_base ho20) hb); have n1_ := Aside0.mk (Kd.R_elder' (by (with_reducible repeat (first | apply Kd.R_alloc | apply Kd.R_drewN | apply Kd.R_drew)); exact HO301.out) (Kd.R_base ho20) hb); have n2_ := Aside0.mk (Kd.R_lower (Kd.R_new' (Kd.R_new' ho20 (Kd.R_lt (by (with_reducible repeat (first | apply Kd.R_alloc | apply Kd.R_drewN | apply Kd.R_drew)); exact HO298.out))) (Kd.R_lt (by (with_reducible repeat (first | apply Kd.R_alloc | apply Kd.R_drewN | apply Kd.R_drew)); exact HO301.out))) (below_size (by repeat (first | (with_reducible first | exact HB.out | apply below_alloc | apply pw_below_drewN | apply below_drew1) | exact HB.out)))); have n3_ := Aside0.mk (below_step (by repeat (first | (with_reducible first | exact HB.out | apply below_alloc | apply pw_below_drewN | apply below_drew1) | exact HB.out)) hb); clear HO298; clear HO301; clear HB; have HO298 := n0_; have HO301 := n1_; have HO304 := n2_; have HB := n3_; clear n0_ n1_ n2_ n3_; clear hb ho20; obtain ⟨Ao21, co21, eo21⟩ := Kd.R_slice HO298.out; subst eo21; obtain ⟨Ao22, co22, eo22⟩ := Kd.R_slice HO301.out; subst eo22; obtain ⟨Ao23, co23, eo23⟩ := Kd.R_slice HO304.out; subst eo23) | ((with_reducible refine gate_dst (N := 16) rfl ?_); (try (refine gate_guard (by rfl) ?_; dsimp only)); refine Kd.N_lit (Kd.slice 3 (Kd.int .i64)) _ 34 ?hg (N' := 16) ?hd (xs := ([y296, y299, y302] : List (List Int))) (inner := [.slice Ao21 y296.length co21, .slice Ao22 y299.length co22, .slice Ao23 y302.length co23]) (ok := (fun _ => True)) (okp := (fun _ => True)) ?hr ?hp (fun _ hk => hk) ((show ∀ k_, w19.heap.size ≤ k_ → (fun _ => True) k_ from fun k_ hk => trivial) _ (Nat.le_refl _)) (Below.refl _ _) (Nat.le_refl _) (by simp) ?_; (case hd => rfl); (case hg => rfl); (case hr => first | (go_simp; done) | (go_simp; rfl)); (case hp => exact (Reps.one (show Kd.FK (Kd.slice 3 (Kd.int .i64)) _ _ y296 [.slice Ao21 y296.length co21] from (Kd.FK_slice_mk (Kd.R_reads' (Kd.R_mono (ok' := (fun _ => True)) (HO298.out) (fun k_ hk => trivial))).2.1 (Kd.R_F (Kd.R_mono (ok' := (fun _ => True)) (HO298.out) (fun k_ hk => trivial))))) (Reps.one (show Kd.FK (Kd.slice 3 (Kd.int .i64)) _ _ y299 [.slice Ao22 y299.length co22] from (Kd.FK_slice_mk (Kd.R_reads' (Kd.R_mono (ok' := (fun _ => True)) (HO301.out) (fun k_ hk => trivial))).2.1 (Kd.R_F (Kd.R_mono (ok' := (fun _ => True)) (HO301.out) (fun k_ hk => trivial))))) (Reps.one (show Kd.FK (Kd.slice 3 (Kd.int .i64)) _ _ y302 [.slice Ao23 y302.length co23] from (Kd.FK_slice_mk (Kd.R_reads' (Kd.R_mono (ok' := (fun _ => True)) (HO304.out) (fun k_ hk => trivial))).2.1 (Kd.R_F (Kd.R_mono (ok' := (fun _ => True)) (HO304.out) (fun k_ hk => trivial))))) (Reps.none _ _))))); intro v306 w24 ho25 hb hg_ hnew_; clear hg_ hnew_; (first | rw [← Ny305.out] at ho25 | (simp only [Int.reduceToNat] at ho25; rw [← Ny305.out] at ho25)); have n0_ := Aside0.mk (Kd.N_lower ho25 (below_size (by repeat (first | (with_reducible first | exact HB.out | apply below_alloc | apply pw_below_drewN | apply below_drew1) | exact HB.out)))); have n1_ := Aside0.mk (below_step (by repeat (first | (with_reducible first | exact HB.out | apply below_alloc | apply pw_below_drewN | apply below_drew1) | exact HB.out)) hb); clear HB; clear HO298; clear HO301; clear HO304; have HO307 := n0_; have HB := n1_; clear n0_ n1_; clear hb ho25; obtain ⟨Ao26, co26, eo26⟩ := Kd.N_slice HO307.out; subst eo26) | ((with_reducible refine gate_dst (N := 1) rfl ?_); (try (refine gate_guard (by rfl) ?_; dsimp only)); refine box_event ?hg (N := 1) ?hd (cs := #[.slice none 0 0]) (t := 24) ?hr ?_; (case hd => rfl); (case hg => rfl); (case hr => first | (go_simp; done) | (go_simp; rfl)); intro gb308 hg w27 hbox hb; have n0_ := Aside0.mk (Kd.N_below (Kd.N_elderB (by (with_reducible repeat (first | apply Kd.N_alloc | apply Kd.N_drewN | apply Kd.N_drew)); exact HO307.out) gb308 (Nat.le_of_eq hg.symm)) hb); have n1_ := Aside0.mk (below_step (by repeat (first | (with_reducible first | exact HB.out | apply below_alloc | apply pw_below_drewN | apply below_drew1) | exact HB.out)) hb); have n2_ := Aside0.mk (hbox); have n3_ := Aside0.mk ((by rw [hg]; exact (below_size (by repeat (first | (with_reducible first | exact HB.out | apply below_alloc | apply pw_below_drewN | apply below_drew1) | exact HB.out))) : w.heap.size ≤ gb308)); have n4_ := Aside0.mk ((by rw [hg]; exact (below_size (by repeat (first | (with_reducible first | exact HB.out | apply below_alloc | apply pw_below_drewN | apply below_drew1) | exact HB.out))) : w.heap.size ≤ gb308)); clear HO307; clear HB; have HO307 := n0_; have HB := n1_; have BK308 := n2_; have GW308 := n3_; have GE308 := n4_; clear n0_ n1_ n2_ n3_ n4_; clear hb hbox hg; have hcz28_0 : w27.cell? ⟨gb308, 0, none⟩ = some (.slice none 0 0) := (blk_cell BK308.out 0).trans rfl; have hfz28_0 := blk_frozen BK308.out 0) | ((with_reducible refine gate_dst (N := 18) rfl ?_); (try (refine gate_guard (by rfl) ?_; dsimp only)); refine Kd.R_lit (Kd.int .i64) _ 3 ?hg (N := 18) ?hd (xs := ([0, 1] : List Int)) (inner := [.int .i64 0, .int .i64 1]) (ok := fun _ => True) (okp := fun _ => True) ?hr ?hp (fun _ hk => hk) trivial (Below.refl _ _) (Nat.le_refl _) (by simp) ?_; (case hd => rfl); (case hg => rfl); (case hr => first | (go_simp; done) | (go_simp; rfl)); (case hp => exact (Reps.one (show Kd.M (Kd.int .i64) _ _ _ 0 [.int .i64 0] from rfl) (Reps.one (show Kd.M (Kd.int .i64) _ _ _ 1 [.int .i64 1] from rfl) (Reps.none _ _)))); intro v310 w29 ho30 hb hg_ hnew_; clear hg_ hnew_; (first | rw [← Ny309.out] at ho30 | (simp only [Int.reduceToNat] at ho30; rw [← Ny309.out] at ho30)); have n0_ := Aside0.mk (Kd.N_elder' (by (with_reducible repeat (first | apply Kd.N_alloc | apply Kd.N_drewN | apply Kd.N_drew)); exact (Kd.N_mono (Kd.N_far (p := ⟨gb308, 0, none⟩) (Kd.N_mono HO307.out (fun k_ hk => (⟨hk, hk.2⟩ : _ ∧ k_ ≠ gb308))) (fun _ hk => hk.2) (.slice Ao26 y305.length co26)) (fun _ h_ => h_.1))) (Kd.R_base ho30) hb); have n1_ := Aside0.mk (Kd.R_lower ho30 (below_size (by repeat (first | (with_reducible first | exact HB.out | apply below_alloc | apply pw_below_drewN | apply below_drew1 | refine below_set ?_ GE308.out) | exact HB.out)))); have n2_ := Aside0.mk (blk_below (g := gb308) (o := .cells #[.slice Ao26 y305.length co26] 24 (0, 0)) (by (with_reducible repeat (first | refine blk_drewN ?_ _ | refine blk_drew ?_ | refine blk_alloc ?_ _)); refine blk_put (cs := #[.slice none 0 0]) ?_ 0 _ rfl; (with_reducible repeat (first | refine blk_drewN ?_ _ | refine blk_drew ?_ | refine blk_alloc ?_ _)); exact BK308.out) hb); have n3_ := Aside0.mk (below_step (by repeat (first | (with_reducible first | exact HB.out | apply below_alloc | apply pw_below_drewN | apply below_drew1 | refine below_set ?_ GE308.out) | exact HB.out)) hb); clear HO307; clear BK308; clear HB; have HO307 := n0_; have HO311 := n1_; have BK308 := n2_; have HB := n3_; clear n0_ n1_ n2_ n3_; clear hb ho30) | ((with_reducible refine gate_dst (N := 19) rfl ?_); (try (refine gate_guard (by rfl) ?_; dsimp only)); refine Kd.R_lit (Kd.int .i64) _ 3 ?hg (N := 19) ?hd (xs := ([0, 2] : List Int)) (inner := [.int .i64 0, .int .i64 2]) (ok := fun _ => True) (okp := fun _ => True) ?hr ?hp (fun _ hk => hk) trivial (Below.refl _ _) (Nat.le_refl _) (by simp) ?_; (case hd => rfl); (case hg => rfl); (case hr => first | (go_simp; done) | (go_simp; rfl)); (case hp => exact (Reps.one (show Kd.M (Kd.int .i64) _ _ _ 0 [.int .i64 0] from rfl) (Reps.one (show Kd.M (Kd.int .i64) _ _ _ 2 [.int .i64 2] from rfl) (Reps.none _ _)))); intro v313 w31 ho32 hb hg_ hnew_; clear hg_ hnew_; (first | rw [← Ny312.out] at ho32 | (simp only [Int.reduceToNat] at ho32; rw [← Ny312.out] at ho32)); have n0_ := Aside0.mk (Kd.N_elder' (by (with_reducible repeat (first | apply Kd.N_alloc | apply Kd.N_drewN | apply Kd.N_drew)); exact HO307.out) (Kd.R_base ho32) hb); have n1_ := Aside0.mk (Kd.R_elder' (by (with_reducible repeat (first | apply Kd.R_alloc | apply Kd.R_drewN | apply Kd.R_drew)); exact HO311.out) (Kd.R_base ho32) hb); have n2_ := Aside0.mk (Kd.R_lower (Kd.R_new' ho32 (Kd.R_lt (by (with_reducible repeat (first | apply Kd.R_alloc | apply Kd.R_drewN | apply Kd.R_drew)); exact HO311.out))) (below_size (by repeat (first | (with_reducible first | exact HB.out | apply below_alloc | apply pw_below_drewN | apply below_drew1 | refine below_set ?_ GE308.out) | exact HB.out)))); have n3_ := Aside0.mk (blk_below (g := gb308) (o := .cells #[.slice Ao26 y305.length co26] 24 (0, 0)) (by (with_reducible repeat (first | refine blk_drewN ?_ _ | refine blk_drew ?_ | refine blk_alloc ?_ _)); exact BK308.out) hb); have n4_ := Aside0.mk (below_step (by repeat (first | (with_reducible first | exact HB.out | apply below_alloc | apply pw_below_drewN | apply below_drew1 | refine below_set ?_ GE308.out) | exact HB.out)) hb); clear HO307; clear HO311; clear BK308; clear HB; have HO307 := n0_; have HO311 := n1_; have HO314 := n2_; have BK308 := n3_; have HB := n4_; clear n0_ n1_ n2_ n3_ n4_; clear hb ho32) | ((with_reducible refine gate_dst (N := 20) rfl ?_); (try (refine gate_guard (by rfl) ?_; dsimp only)); refine Kd.R_lit (Kd.int .i64) _ 3 ?hg (N := 20) ?hd (xs := ([1, 2] : List Int)) (inner := [.int .i64 1, .int .i64 2]) (ok := fun _ => True) (okp := fun _ => True) ?hr ?hp (fun _ hk => hk) trivial (Below.refl _ _) (Nat.le_refl _) (by simp) ?_; (case hd => rfl); (case hg => rfl); (case hr => first | (go_simp; done) | (go_simp; rfl)); (case hp => exact (Reps.one (show Kd.M (Kd.int .i64) _ _ _ 1 [.int .i64 1] from rfl) (Reps.one (show Kd.M (Kd.int .i64) _ _ _ 2 [.int .i64 2] from rfl) (Reps.none _ _)))); intro v316 w33 ho34 hb hg_ hnew_; clear hg_ hnew_; (first | rw [← Ny315.out] at ho34 | (simp only [Int.reduceToNat] at ho34; rw [← Ny315.out] at ho34)); have n0_ := Aside0.mk (Kd.N_elder' (by (with_reducible repeat (first | apply Kd.N_alloc | apply Kd.N_drewN | apply Kd.N_drew)); exact HO307.out) (Kd.R_base ho34) hb); have n1_ := Aside0.mk (Kd.R_elder' (by (with_reducible repeat (first | apply Kd.R_alloc | apply Kd.R_drewN | apply Kd.R_drew)); exact HO311.out) (Kd.R_base ho34) hb); have n2_ := Aside0.mk (Kd.R_elder' (by (with_reducible repeat (first | apply Kd.R_alloc | apply Kd.R_drewN | apply Kd.R_drew)); exact HO314.out) (Kd.R_base ho34) hb); have n3_ := Aside0.mk (Kd.R_lower (Kd.R_new' (Kd.R_new' ho34 (Kd.R_lt (by (with_reducible repeat (first | apply Kd.R_alloc | apply Kd.R_drewN | apply Kd.R_drew)); exact HO311.out))) (Kd.R_lt (by (with_reducible repeat (first | apply Kd.R_alloc | apply Kd.R_drewN | apply Kd.R_drew)); exact HO314.out))) (below_size (by repeat (first | (with_reducible first | exact HB.out | apply below_alloc | apply pw_below_drewN | apply below_drew1 | refine below_set ?_ GE308.out) | exact HB.out)))); have n4_ := Aside0.mk (blk_below (g := gb308) (o := .cells #[.slice Ao26 y305.length co26] 24 (0, 0)) (by (with_reducible repeat (first | refine blk_drewN ?_ _ | refine blk_drew ?_ | refine blk_alloc ?_ _)); exact BK308.out) hb); have n5_ := Aside0.mk (below_step (by repeat (first | (with_reducible first | exact HB.out | apply below_alloc | apply pw_below_drewN | apply below_drew1 | refine below_set ?_ GE308.out) | exact HB.out)) hb); clear HO307; clear HO311; clear HO314; clear BK308; clear HB; have HO307 := n0_; have HO311 := n1_; have HO314 := n2_; have HO317 := n3_; have BK308 := n4_; have HB := n5_; clear n0_ n1_ n2_ n3_ n4_ n5_; clear hb ho34; obtain ⟨Ao35, co35, eo35⟩ := Kd.R_slice HO311.out; subst eo35; obtain ⟨Ao36, co36, eo36⟩ := Kd.R_slice HO314.out; subst eo36; obtain ⟨Ao37, co37, eo37⟩ := Kd.R_slice HO317.out; subst eo37) | ((with_reducible refine gate_dst (N := 21) rfl ?_); (try (refine gate_guard (by rfl) ?_; dsimp only)); refine Kd.N_lit (Kd.slice 3 (Kd.int .i64)) _ 34 ?hg (N' := 21) ?hd (xs := ([y309, y312, y315] : List (List Int))) (inner := [.slice Ao35 y309.length co35, .slice Ao36 y312.length co36, .slice Ao37 y315.length co37]) (ok := (fun k_ => some k_ ≠ (.slice Ao26 y305.length co26 : Value).ownBlock ∧ k_ ≠ gb308)) (okp := (fun k_ => some k_ ≠ (.slice Ao26 y305.length co26 : Value).ownBlock ∧ k_ ≠ gb308)) ?hr ?hp (fun _ hk => hk) ((show ∀ k_, w33.heap.size ≤ k_ → (fun k_ => some k_ ≠ (.slice Ao26 y305.length co26 : Value).ownBlock ∧ k_ ≠ gb308) k_ from fun k_ hk => ⟨Kd.fresh' (Kd.N_lt (by (with_reducible repeat (first | apply Kd.N_alloc | apply Kd.N_drewN | apply Kd.N_drew)); exact HO307.out)) k_ hk, Kd.freshB (g := gb308) (o := .cells #[.slice Ao26 y305.length co26] 24 (0, 0)) (by (with_reducible repeat (first | refine blk_drewN ?_ _ | refine blk_drew ?_ | refine blk_alloc ?_ _)); exact BK308.out) k_ hk⟩) _ (Nat.le_refl _)) (Below.refl _ _) (Nat.le_refl _) (by simp) ?_; (case hd => rfl); (case hg => rfl); (case hr => first | (go_simp; done) | (go_simp; rfl)); (case hp => exact (Reps.one (show Kd.FK (Kd.slice 3 (Kd.int .i64)) _ _ y309 [.slice Ao35 y309.length co35] from (Kd.FK_slice_mk (Kd.R_reads' (Kd.R_mono (ok' := (fun k_ => some k_ ≠ (.slice Ao26 y305.length co26 : Value).ownBlock ∧ k_ ≠ gb308)) (Kd.R_types (Kd.R_apart' (HO311.out) (Kd.N_typed HO307.out) (by decide)) BK308.out (by decide)) (fun k_ hk => ⟨hk.1.2, hk.2⟩))).2.1 (Kd.R_F (Kd.R_mono (ok' := (fun k_ => some k_ ≠ (.slice Ao26 y305.length co26 : Value).ownBlock ∧ k_ ≠ gb308)) (Kd.R_types (Kd.R_apart' (HO311.out) (Kd.N_typed HO307.out) (by decide)) BK308.out (by decide)) (fun k_ hk => ⟨hk.1.2, hk.2⟩))))) (Reps.one (show Kd.FK (Kd.slice 3 (Kd.int .i64)) _ _ y312 [.slice Ao36 y312.length co36] from (Kd.FK_slice_mk (Kd.R_reads' (Kd.R_mono (ok' := (fun k_ => some k_ ≠ (.slice Ao26 y305.length co26 : Value).ownBlock ∧ k_ ≠ gb308)) (Kd.R_types (Kd.R_apart' (HO314.out) (Kd.N_typed HO307.out) (by decide)) BK308.out (by decide)) (fun k_ hk => ⟨hk.1.2, hk.2⟩))).2.1 (Kd.R_F (Kd.R_mono (ok' := (fun k_ => some k_ ≠ (.slice Ao26 y305.length co26 : Value).ownBlock ∧ k_ ≠ gb308)) (Kd.R_types (Kd.R_apart' (HO314.out) (Kd.N_typed HO307.out) (by decide)) BK308.out (by decide)) (fun k_ hk => ⟨hk.1.2, hk.2⟩))))) (Reps.one (show Kd.FK (Kd.slice 3 (Kd.int .i64)) _ _ y315 [.slice Ao37 y315.length co37] from (Kd.FK_slice_mk (Kd.R_reads' (Kd.R_mono (ok' := (fun k_ => some k_ ≠ (.slice Ao26 y305.length co26 : Value).ownBlock ∧ k_ ≠ gb308)) (Kd.R_types (Kd.R_apart' (HO317.out) (Kd.N_typed HO307.out) (by decide)) BK308.out (by decide)) (fun k_ hk => ⟨hk.1.2, hk.2⟩))).2.1 (Kd.R_F (Kd.R_mono (ok' := (fun k_ => some k_ ≠ (.slice Ao26 y305.length co26 : Value).ownBlock ∧ k_ ≠ gb308)) (Kd.R_types (Kd.R_apart' (HO317.out) (Kd.N_typed HO307.out) (by decide)) BK308.out (by decide)) (fun k_ hk => ⟨hk.1.2, hk.2⟩))))) (Reps.none _ _))))); intro v319 w38 ho39 hb hg_ hnew_; clear hg_ hnew_; (first | rw [← Ny318.out] at ho39 | (simp only [Int.reduceToNat] at ho39; rw [← Ny318.out] at ho39)); have n0_ := Aside0.mk (Kd.N_elder' (by (with_reducible repeat (first | apply Kd.N_alloc | apply Kd.N_drewN | apply Kd.N_drew)); exact HO307.out) (by first | exact Kd.N_base ho39 | exact Kd.S_base ho39 | exact Kd.R_base ho39) hb); have n1_ := Aside0.mk (Kd.N_lower ho39 (below_size (by repeat (first | (with_reducible first | exact HB.out | apply below_alloc | apply pw_below_drewN | apply below_drew1 | refine below_set ?_ GE308.out) | exact HB.out)))); have n2_ := Aside0.mk (blk_below (g := gb308) (o := .cells #[.slice Ao26 y305.length co26] 24 (0, 0)) (by (with_reducible repeat (first | refine blk_drewN ?_ _ | refine blk_drew ?_ | refine blk_alloc ?_ _)); exact BK308.out) hb); have n3_ := Aside0.mk (below_step (by repeat (first | (with_reducible first | exact HB.out | apply below_alloc | apply pw_below_drewN | apply below_drew1 | refine below_set ?_ GE308.out) | exact HB.out)) hb); clear HO307; clear BK308; clear HB; clear HO311; clear HO314; clear HO317; have HO307 := n0_; have HO320 := n1_; have BK308 := n2_; have HB := n3_; clear n0_ n1_ n2_ n3_; clear hb ho39; obtain ⟨Ao40, co40, eo40⟩ := Kd.N_slice HO320.out; subst eo40) | ((with_reducible refine gate_dst (N := 2) rfl ?_); (try (refine gate_guard (by rfl) ?_; dsimp only)); refine box_event ?hg (N := 2) ?hd (cs := #[.slice none 0 0]) (t := 24) ?hr ?_; (case hd => rfl); (case hg => rfl); (case hr => first | (go_simp; done) | (go_simp; rfl)); intro gb321 hg w41 hbox hb; have n0_ := Aside0.mk (Kd.N_below (Kd.N_elderB (by (with_reducible repeat (first | apply Kd.N_alloc | apply Kd.N_drewN | apply Kd.N_drew)); exact HO307.out) gb321 (Nat.le_of_eq hg.symm)) hb); have n1_ := Aside0.mk (Kd.N_below (Kd.N_elderB (by (with_reducible repeat (first | apply Kd.N_alloc | apply Kd.N_drewN | apply Kd.N_drew)); exact HO320.out) gb321 (Nat.le_of_eq hg.symm)) hb); have n2_ := Aside0.mk (blk_below (g := gb308) (o := .cells #[.slice Ao26 y305.length co26] 24 (0, 0)) (by (with_reducible repeat (first | refine blk_drewN ?_ _ | refine blk_drew ?_ | refine blk_alloc ?_ _)); exact BK308.out) hb); have n3_ := Aside0.mk (below_step (by repeat (first | (with_reducible first | exact HB.out | apply below_alloc | apply pw_below_drewN | apply below_drew1 | refine below_set ?_ GE308.out) | exact HB.out)) hb); have n4_ := Aside0.mk (hbox); have n5_ := Aside0.mk ((by rw [hg]; exact (below_size (by repeat (first | (with_reducible first | exact HB.out | apply below_alloc | apply pw_below_drewN | apply below_drew1 | refine below_set ?_ GE308.out) | exact HB.out))) : w.heap.size ≤ gb321)); have n6_ := Aside0.mk ((by rw [hg]; exact (below_size (by repeat (first | (with_reducible first | exact HB.out | apply below_alloc | apply pw_below_drewN | apply below_drew1 | refine below_set ?_ GE308.out) | exact HB.out))) : w.heap.size ≤ gb321)); have n7_ := Aside0.mk ((by rw [hg]; exact Nat.ne_of_lt (blk_lt (g := gb308) (o := .cells #[.slice Ao26 y305.length co26] 24 (0, 0)) (by (with_reducible repeat (first | refine blk_drewN ?_ _ | refine blk_drew ?_ | refine blk_alloc ?_ _)); exact BK308.out)) : gb308 ≠ gb321)); have n8_ := Aside0.mk ((by rw [hg]; exact Nat.ne_of_gt (blk_lt (g := gb308) (o := .cells #[.slice Ao26 y305.length co26] 24 (0, 0)) (by (with_reducible repeat (first | refine blk_drewN ?_ _ | refine blk_drew ?_ | refine blk_alloc ?_ _)); exact BK308.out)) : gb321 ≠ gb308)); clear HO307; clear HO320; clear BK308; clear HB; have HO307 := n0_; have HO320 := n1_; have BK308 := n2_; have HB := n3_; have BK321 := n4_; have GW321 := n5_; have GE321 := n6_; have NB308_321 := n7_; have NB321_308 := n8_; clear n0_ n1_ n2_ n3_ n4_ n5_ n6_ n7_ n8_; clear hb hbox hg; have hnb42 := NB321_308.out; have hnc42 := NB308_321.out; have hcz43_0 : w41.cell? ⟨gb321, 0, none⟩ = some (.slice none 0 0) := (blk_cell BK321.out 0).trans rfl; have hfz43_0 := blk_frozen BK321.out 0; have hcz44_0 : w41.cell? ⟨gb308, 0, none⟩ = some (.slice Ao26 y305.length co26) := (blk_cell BK308.out 0).trans rfl; have hfz44_0 := blk_frozen BK308.out 0) | ((with_reducible refine gate_callee (f := 9) rfl ?_); refine goesL_ (some 25) rfl rfl Try.func9 (by kernel_rfl) rfl #[.agg #[.slice Ao26 y305.length co26]] rfl (by (try simp only [List.map_toArray, List.map_cons, List.map_nil]); first | done | rfl | (simp only [List.length_drop, List.length_take]; rfl)) ?_; (with_reducible refine (euler_Eulerian.calls _ _ y305 true t323 _ ?side1 ?side2 A1.out).mono ?_); (case side1 => exact (Kd.N_reads' (e := 34) (base := w.heap.size) (n := y305.length) (c := co26) (by (with_reducible repeat (first | apply Kd.N_alloc | apply Kd.N_drewN | apply Kd.N_drew)); exact (Kd.N_mono (Kd.N_far (p := ⟨gb321, 0, none⟩) (Kd.N_mono HO307.out (fun k_ hk => (⟨hk, hk.2⟩ : _ ∧ k_ ≠ gb321))) (fun _ hk => hk.2) (.slice Ao40 y318.length co40)) (fun _ h_ => h_.1)))).2.2); (case side2 => exact (Kd.N_reads' HO307.out).2.1); rintro e w45 ⟨rfl, hb⟩; refine ⟨_, rfl, ?_⟩; have n0_ := Aside0.mk (Kd.N_below (by (with_reducible repeat (first | apply Kd.N_alloc | apply Kd.N_drewN | apply Kd.N_drew)); exact (Kd.N_mono (Kd.N_far (p := ⟨gb321, 0, none⟩) (Kd.N_mono HO307.out (fun k_ hk => (⟨hk, hk.2⟩ : _ ∧ k_ ≠ gb321))) (fun _ hk => hk.2) (.slice Ao40 y318.length co40)) (fun _ h_ => h_.1))) hb); have n1_ := Aside0.mk (Kd.N_below (by (with_reducible repeat (first | apply Kd.N_alloc | apply Kd.N_drewN | apply Kd.N_drew)); exact (Kd.N_mono (Kd.N_far (p := ⟨gb321, 0, none⟩) (Kd.N_mono HO320.out (fun k_ hk => (⟨hk, hk.2⟩ : _ ∧ k_ ≠ gb321))) (fun _ hk => hk.2) (.slice Ao40 y318.length co40)) (fun _ h_ => h_.1))) hb); have n2_ := Aside0.mk (blk_below (g := gb308) (o := .cells #[.slice Ao26 y305.length co26] 24 (0, 0)) (by (with_reducible repeat (first | refine blk_drewN ?_ _ | refine blk_drew ?_ | refine blk_alloc ?_ _)); refine blk_far ?_ NB308_321.out _; (with_reducible repeat (first | refine blk_drewN ?_ _ | refine blk_drew ?_ | refine blk_alloc ?_ _)); exact BK308.out) hb); have n3_ := Aside0.mk (blk_below (g := gb321) (o := .cells #[.slice Ao40 y318.length co40] 24 (0, 0)) (by (with_reducible repeat (first | refine blk_drewN ?_ _ | refine blk_drew ?_ | refine blk_alloc ?_ _)); refine blk_put (cs := #[.slice none 0 0]) ?_ 0 _ rfl; (with_reducible repeat (first | refine blk_drewN ?_ _ | refine blk_drew ?_ | refine blk_alloc ?_ _)); exact BK321.out) hb); have n4_ := Aside0.mk (below_step (by repeat (first | (with_reducible first | exact HB.out | apply below_alloc | apply pw_below_drewN | apply below_drew1 | refine below_set ?_ GE308.out | refine below_set ?_ GE321.out) | exact HB.out)) hb); clear HO307; clear HO320; clear BK308; clear BK321; clear HB; have HO307 := n0_; have HO320 := n1_; have BK308 := n2_; have BK321 := n3_; have HB := n4_; clear n0_ n1_ n2_ n3_ n4_; (try clear hb); (try clear hb2); (try clear hk); (try clear hi); have hcz46_0 : w45.cell? ⟨gb308, 0, none⟩ = some (.slice Ao26 y305.length co26) := (blk_cell BK308.out 0).trans rfl; have hfz46_0 := blk_frozen BK308.out 0) | ((with_reducible refine gate_callee (f := 10) rfl ?_); refine goesL_ (some 30) rfl rfl Try.func10 (by kernel_rfl) rfl #[.agg #[.slice Ao26 y305.length co26]] rfl (by (try simp only [List.map_toArray, List.map_cons, List.map_nil]); first | done | rfl | (simp only [List.length_drop, List.length_take]; rfl)) ?_; (with_reducible refine (euler_Circular.calls k _ _ y305 t324 t325 _ ?side1 ?side2 A2.out).mono ?_); (case side1 => repeat (first | exact (Kd.N_reads' HO307.out).2.2 | (with_reducible refine Kd.C_alloc ?_ _) | (with_reducible refine Kd.C_drewN ?_ _) | (with_reducible refine Kd.C_drew ?_))); (case side2 => exact (Kd.N_reads' HO307.out).2.1); rintro e w47 ⟨rfl, hb⟩; refine ⟨_, rfl, ?_⟩; have n0_ := Aside0.mk (Kd.N_below (by (with_reducible repeat (first | apply Kd.N_alloc | apply Kd.N_drewN | apply Kd.N_drew)); exact HO307.out) hb); have n1_ := Aside0.mk (Kd.N_below (by (with_reducible repeat (first | apply Kd.N_alloc | apply Kd.N_drewN | apply Kd.N_drew)); exact HO320.out) hb); have n2_ := Aside0.mk (blk_below (g := gb308) (o := .cells #[.slice Ao26 y305.length co26] 24 (0, 0)) (by (with_reducible repeat (first | refine blk_drewN ?_ _ | refine blk_drew ?_ | refine blk_alloc ?_ _)); exact BK308.out) hb); have n3_ := Aside0.mk (blk_below (g := gb321) (o := .cells #[.slice Ao40 y318.length co40] 24 (0, 0)) (by (with_reducible repeat (first | refine blk_drewN ?_ _ | refine blk_drew ?_ | refine blk_alloc ?_ _)); exact BK321.out) hb); have n4_ := Aside0.mk (below_step (by repeat (first | (with_reducible first | exact HB.out | apply below_alloc | apply pw_below_drewN | apply below_drew1 | refine below_set ?_ GE308.out | refine below_set ?_ GE321.out) | exact HB.out)) hb); clear HO307; clear HO320; clear BK308; clear BK321; clear HB; have HO307 := n0_; have HO320 := n1_; have BK308 := n2_; have BK321 := n3_; have HB := n4_; clear n0_ n1_ n2_ n3_ n4_; (try clear hb); (try clear hb2); (try clear hk); (try clear hi); have hcz48_0 : w47.cell? ⟨gb308, 0, none⟩ = some (.slice Ao26 y305.length co26) := (blk_cell BK308.out 0).trans rfl; have hfz48_0 := blk_frozen BK308.out 0) | ((with_reducible refine gate_callee (f := 11) rfl ?_); refine goesL_ (some 35) rfl rfl Try.func11 (by kernel_rfl) rfl #[.agg #[.slice Ao26 y305.length co26]] rfl (by (try simp only [List.map_toArray, List.map_cons, List.map_nil]); first | done | rfl | (simp only [List.length_drop, List.length_take]; rfl)) ?_; (with_reducible refine (euler_Bound.calls k _ _ y305 t326 t327 _ ?side1 ?side2 A3.out).mono ?_); (case side1 => repeat (first | exact (Kd.N_reads' HO307.out).2.2 | (with_reducible refine Kd.C_alloc ?_ _) | (with_reducible refine Kd.C_drewN ?_ _) | (with_reducible refine Kd.C_drew ?_))); (case side2 => exact (Kd.N_reads' HO307.out).2.1); rintro e w49 ⟨rfl, hb⟩; refine ⟨_, rfl, ?_⟩; have n0_ := Aside0.mk (Kd.N_below (by (with_reducible repeat (first | apply Kd.N_alloc | apply Kd.N_drewN | apply Kd.N_drew)); exact HO307.out) hb); have n1_ := Aside0.mk (Kd.N_below (by (with_reducible repeat (first | apply Kd.N_alloc | apply Kd.N_drewN | apply Kd.N_drew)); exact HO320.out) hb); have n2_ := Aside0.mk (blk_below (g := gb308) (o := .cells #[.slice Ao26 y305.length co26] 24 (0, 0)) (by (with_reducible repeat (first | refine blk_drewN ?_ _ | refine blk_drew ?_ | refine blk_alloc ?_ _)); exact BK308.out) hb); have n3_ := Aside0.mk (blk_below (g := gb321) (o := .cells #[.slice Ao40 y318.length co40] 24 (0, 0)) (by (with_reducible repeat (first | refine blk_drewN ?_ _ | refine blk_drew ?_ | refine blk_alloc ?_ _)); exact BK321.out) hb); have n4_ := Aside0.mk (below_step (by repeat (first | (with_reducible first | exact HB.out | apply below_alloc | apply pw_below_drewN | apply below_drew1 | refine below_set ?_ GE308.out | refine below_set ?_ GE321.out) | exact HB.out)) hb); clear HO307; clear HO320; clear BK308; clear BK321; clear HB; have HO307 := n0_; have HO320 := n1_; have BK308 := n2_; have BK321 := n3_; have HB := n4_; clear n0_ n1_ n2_ n3_ n4_; (try clear hb); (try clear hb2); (try clear hk); (try clear hi); have hcz50_0 : w49.cell? ⟨gb321, 0, none⟩ = some (.slice Ao40 y318.length co40) := (blk_cell BK321.out 0).trans rfl; have hfz50_0 := blk_frozen BK321.out 0) | ((with_reducible refine gate_callee (f := 11) rfl ?_); refine goesL_ (some 40) rfl rfl Try.func11 (by kernel_rfl) rfl #[.agg #[.slice Ao40 y318.length co40]] rfl (by (try simp only [List.map_toArray, List.map_cons, List.map_nil]); first | done | rfl | (simp only [List.length_drop, List.length_take]; rfl)) ?_; (with_reducible refine (euler_Bound.calls k _ _ y318 t328 t329 _ ?side1 ?side2 A4.out).mono ?_); (case side1 => repeat (first | exact (Kd.N_reads' HO320.out).2.2 | (with_reducible refine Kd.C_alloc ?_ _) | (with_reducible refine Kd.C_drewN ?_ _) | (with_reducible refine Kd.C_drew ?_))); (case side2 => exact (Kd.N_reads' HO320.out).2.1); rintro e w51 ⟨rfl, hb⟩; refine ⟨_, rfl, ?_⟩; have n0_ := Aside0.mk (Kd.N_below (by (with_reducible repeat (first | apply Kd.N_alloc | apply Kd.N_drewN | apply Kd.N_drew)); exact HO307.out) hb); have n1_ := Aside0.mk (Kd.N_below (by (with_reducible repeat (first | apply Kd.N_alloc | apply Kd.N_drewN | apply Kd.N_drew)); exact HO320.out) hb); have n2_ := Aside0.mk (blk_below (g := gb308) (o := .cells #[.slice Ao26 y305.length co26] 24 (0, 0)) (by (with_reducible repeat (first | refine blk_drewN ?_ _ | refine blk_drew ?_ | refine blk_alloc ?_ _)); exact BK308.out) hb); have n3_ := Aside0.mk (blk_below (g := gb321) (o := .cells #[.slice Ao40 y318.length co40] 24 (0, 0)) (by (with_reducible repeat (first | refine blk_drewN ?_ _ | refine blk_drew ?_ | refine blk_alloc ?_ _)); exact BK321.out) hb); have n4_ := Aside0.mk (below_step (by repeat (first | (with_reducible first | exact HB.out | apply below_alloc | apply pw_below_drewN | apply below_drew1 | refine below_set ?_ GE308.out | refine below_set ?_ GE321.out) | exact HB.out)) hb); clear HO307; clear HO320; clear BK308; clear BK321; clear HB; have HO307 := n0_; have HO320 := n1_; have BK308 := n2_; have BK321 := n3_; have HB := n4_; clear n0_ n1_ n2_ n3_ n4_; (try clear hb); (try clear hb2); (try clear hk); (try clear hi); have hcz52_0 : w51.cell? ⟨gb321, 0, none⟩ = some (.slice Ao40 y318.length co40) := (blk_cell BK321.out 0).trans rfl; have hfz52_0 := blk_frozen BK321.out 0) | ((with_reducible refine gate_dst (N := 45) rfl ?_); (try (refine gate_guard (by rfl) ?_; dsimp only)); refine Kd.R_lit (Kd.int .i64) _ 3 ?hg (N := 45) ?hd (xs := ([0] : List Int)) (inner := [.int .i64 0]) (ok := fun _ => True) (okp := fun _ => True) ?hr ?hp (fun _ hk => hk) trivial (Below.refl _ _) (Nat.le_refl _) (by simp) ?_; (case hd => rfl); (case hg => rfl); (case hr => first | (go_simp; done) | (go_simp; rfl)); (case hp => exact (Reps.one (show Kd.M (Kd.int .i64) _ _ _ 0 [.int .i64 0] from rfl) (Reps.none _ _))); intro v331 w53 ho54 hb hg_ hnew_; clear hg_ hnew_; (first | rw [← Ny330.out] at ho54 | (simp only [Int.reduceToNat] at ho54; rw [← Ny330.out] at ho54)); have n0_ := Aside0.mk (Kd.N_elder' (by (with_reducible repeat (first | apply Kd.N_alloc | apply Kd.N_drewN | apply Kd.N_drew)); exact HO307.out) (Kd.R_base ho54) hb); have n1_ := Aside0.mk (Kd.N_elder' (by (with_reducible repeat (first | apply Kd.N_alloc | apply Kd.N_drewN | apply Kd.N_drew)); exact HO320.out) (Kd.R_base ho54) hb); have n2_ := Aside0.mk (Kd.R_lower ho54 (below_size (by repeat (first | (with_reducible first | exact HB.out | apply below_alloc | apply pw_below_drewN | apply below_drew1 | refine below_set ?_ GE308.out | refine below_set ?_ GE321.out) | exact HB.out)))); have n3_ := Aside0.mk (blk_below (g := gb308) (o := .cells #[.slice Ao26 y305.length co26] 24 (0, 0)) (by (with_reducible repeat (first | refine blk_drewN ?_ _ | refine blk_drew ?_ | refine blk_alloc ?_ _)); exact BK308.out) hb); have n4_ := Aside0.mk (blk_below (g := gb321) (o := .cells #[.slice Ao40 y318.length co40] 24 (0, 0)) (by (with_reducible repeat (first | refine blk_drewN ?_ _ | refine blk_drew ?_ | refine blk_alloc ?_ _)); exact BK321.out) hb); have n5_ := Aside0.mk (below_step (by repeat (first | (with_reducible first | exact HB.out | apply below_alloc | apply pw_below_drewN | apply below_drew1 | refine below_set ?_ GE308.out | refine below_set ?_ GE321.out) | exact HB.out)) hb); clear HO307; clear HO320; clear BK308; clear BK321; clear HB; have HO307 := n0_; have HO320 := n1_; have HO332 := n2_; have BK308 := n3_; have BK321 := n4_; have HB := n5_; clear n0_ n1_ n2_ n3_ n4_ n5_; clear hb ho54; obtain ⟨Ao55, co55, eo55⟩ := Kd.R_slice HO332.out; subst eo55) | ((with_reducible refine gate_callee (f := 17) rfl ?_); refine goesL_ (some 46) rfl rfl Try.func17 (by kernel_rfl) rfl #[.agg #[.slice Ao40 y318.length co40], .slice Ao55 y330.length co55] rfl (by (try simp only [List.map_toArray, List.map_cons, List.map_nil]); first | done | rfl | (simp only [List.length_drop, List.length_take]; rfl)) ?_; (with_reducible refine (euler_Extend.calls k _ _ y318 _ _ y330 t333 t336 _ ?side1 ?side2 ?side3 ?side4 A5.out).mono ?_); (case side1 => repeat (first | exact (Kd.N_reads' HO320.out).2.2 | (with_reducible refine Kd.C_alloc ?_ _) | (with_reducible refine Kd.C_drewN ?_ _) | (with_reducible refine Kd.C_drew ?_))); (case side2 => exact (Kd.N_reads' HO320.out).2.1); (case side3 => repeat (first | exact (Kd.R_reads' HO332.out).2.2 | (with_reducible refine Kd.C_alloc ?_ _) | (with_reducible refine Kd.C_drewN ?_ _) | (with_reducible refine Kd.C_drew ?_))); (case side4 => exact (Kd.R_reads' HO332.out).2.1); rintro e w56 ⟨v334, rfl, ho0, hb⟩; refine ⟨_, rfl, ?_⟩; have n0_ := Aside0.mk (Kd.N_elder' (by (with_reducible repeat (first | apply Kd.N_alloc | apply Kd.N_drewN | apply Kd.N_drew)); exact HO307.out) (Kd.R_base ho0) hb); have n1_ := Aside0.mk (Kd.N_elder' (by (with_reducible repeat (first | apply Kd.N_alloc | apply Kd.N_drewN | apply Kd.N_drew)); exact HO320.out) (Kd.R_base ho0) hb); have n2_ := Aside0.mk (Kd.R_elder' (by (with_reducible repeat (first | apply Kd.R_alloc | apply Kd.R_drewN | apply Kd.R_drew)); exact HO332.out) (Kd.R_base ho0) hb); have n3_ := Aside0.mk (Kd.R_lower (Kd.R_new' ho0 (Kd.R_lt (by (with_reducible repeat (first | apply Kd.R_alloc | apply Kd.R_drewN | apply Kd.R_drew)); exact HO332.out))) (below_size (by repeat (first | (with_reducible first | exact HB.out | apply below_alloc | apply pw_below_drewN | apply below_drew1 | refine below_set ?_ GE308.out | refine below_set ?_ GE321.out) | exact HB.out)))); have n4_ := Aside0.mk (blk_below (g := gb308) (o := .cells #[.slice Ao26 y305.length co26] 24 (0, 0)) (by (with_reducible repeat (first | refine blk_drewN ?_ _ | refine blk_drew ?_ | refine blk_alloc ?_ _)); exact BK308.out) hb); have n5_ := Aside0.mk (blk_below (g := gb321) (o := .cells #[.slice Ao40 y318.length co40] 24 (0, 0)) (by (with_reducible repeat (first | refine blk_drewN ?_ _ | refine blk_drew ?_ | refine blk_alloc ?_ _)); exact BK321.out) hb); have n6_ := Aside0.mk (below_step (by repeat (first | (with_reducible first | exact HB.out | apply below_alloc | apply pw_below_drewN | apply below_drew1 | refine below_set ?_ GE308.out | refine below_set ?_ GE321.out) | exact HB.out)) hb); clear HO307; clear HO320; clear HO332; clear BK308; clear BK321; clear HB; have HO307 := n0_; have HO320 := n1_; have HO332 := n2_; have HO335 := n3_; have BK308 := n4_; have BK321 := n5_; have HB := n6_; clear n0_ n1_ n2_ n3_ n4_ n5_ n6_; (try clear hb); (try clear hb2); (try clear hk); (try clear hi); (try clear ho0)) | ((with_reducible refine gate_dst (N := 80) rfl ?_); (try (refine gate_guard (by rfl) ?_; dsimp only)); refine Kd.R_lit (Kd.int .i64) _ 3 ?hg (N := 80) ?hd (xs := ([0] : List Int)) (inner := [.int .i64 0]) (ok := fun _ => True) (okp := fun _ => True) ?hr ?hp (fun _ hk => hk) trivial (Below.refl _ _) (Nat.le_refl _) (by simp) ?_; (case hd => rfl); (case hg => rfl); (case hr => first | (go_simp; done) | (go_simp; rfl)); (case hp => exact (Reps.one (show Kd.M (Kd.int .i64) _ _ _ 0 [.int .i64 0] from rfl) (Reps.none _ _))); intro v338 w57 ho58 hb hg_ hnew_; clear hg_ hnew_; (first | rw [← Ny337.out] at ho58 | (simp only [Int.reduceToNat] at ho58; rw [← Ny337.out] at ho58)); have n0_ := Aside0.mk (Kd.N_elder' (by (with_reducible repeat (first | apply Kd.N_alloc | apply Kd.N_drewN | apply Kd.N_drew)); exact HO307.out) (Kd.R_base ho58) hb); have n1_ := Aside0.mk (Kd.N_elder' (by (with_reducible repeat (first | apply Kd.N_alloc | apply Kd.N_drewN | apply Kd.N_drew)); exact HO320.out) (Kd.R_base ho58) hb); have n2_ := Aside0.mk (Kd.R_elder' (by (with_reducible repeat (first | apply Kd.R_alloc | apply Kd.R_drewN | apply Kd.R_drew)); exact HO332.out) (Kd.R_base ho58) hb); have n3_ := Aside0.mk (Kd.R_elder' (by (with_reducible repeat (first | apply Kd.R_alloc | apply Kd.R_drewN | apply Kd.R_drew)); exact HO335.out) (Kd.R_base ho58) hb); have n4_ := Aside0.mk (Kd.R_lower (Kd.R_new' (Kd.R_new' ho58 (Kd.R_lt (by (with_reducible repeat (first | apply Kd.R_alloc | apply Kd.R_drewN | apply Kd.R_drew)); exact HO332.out))) (Kd.R_lt (by (with_reducible repeat (first | apply Kd.R_alloc | apply Kd.R_drewN | apply Kd.R_drew)); exact HO335.out))) (below_size (by repeat (first | (with_reducible first | exact HB.out | apply below_alloc | apply pw_below_drewN | apply below_drew1 | refine below_set ?_ GE308.out | refine below_set ?_ GE321.out) | exact HB.out)))); have n5_ := Aside0.mk (blk_below (g := gb308) (o := .cells #[.slice Ao26 y305.length co26] 24 (0, 0)) (by (with_reducible repeat (first | refine blk_drewN ?_ _ | refine blk_drew ?_ | refine blk_alloc ?_ _)); exact BK308.out) hb); have n6_ := Aside0.mk (blk_below (g := gb321) (o := .cells #[.slice Ao40 y318.length co40] 24 (0, 0)) (by (with_reducible repeat (first | refine blk_drewN ?_ _ | refine blk_drew ?_ | refine blk_alloc ?_ _)); exact BK321.out) hb); have n7_ := Aside0.mk (below_step (by repeat (first | (with_reducible first | exact HB.out | apply below_alloc | apply pw_below_drewN | apply below_drew1 | refine below_set ?_ GE308.out | refine below_set ?_ GE321.out) | exact HB.out)) hb); clear HO307; clear HO320; clear HO332; clear HO335; clear BK308; clear BK321; clear HB; have HO307 := n0_; have HO320 := n1_; have HO332 := n2_; have HO335 := n3_; have HO339 := n4_; have BK308 := n5_; have BK321 := n6_; have HB := n7_; clear n0_ n1_ n2_ n3_ n4_ n5_ n6_ n7_; clear hb ho58; obtain ⟨Ao59, co59, eo59⟩ := Kd.R_slice HO335.out; subst eo59; obtain ⟨Ao60, co60, eo60⟩ := Kd.R_slice HO339.out; subst eo60) | (go_at_call 20; (with_reducible refine (mizmazeref01_Same.calls k _ _ t333 _ _ y337 t340 _ ?side1 ?side2 ?side3 ?side4 A14.out).mono ?_); (case side1 => repeat (first | exact (Kd.R_reads' HO335.out).2.2 | (with_reducible refine Kd.C_alloc ?_ _) | (with_reducible refine Kd.C_drewN ?_ _) | (with_reducible refine Kd.C_drew ?_))); (case side2 => exact (Kd.R_reads' HO335.out).2.1); (case side3 => repeat (first | exact (Kd.R_reads' HO339.out).2.2 | (with_reducible refine Kd.C_alloc ?_ _) | (with_reducible refine Kd.C_drewN ?_ _) | (with_reducible refine Kd.C_drew ?_))); (case side4 => exact (Kd.R_reads' HO339.out).2.1); rintro e w' ⟨rfl, ⟨nd, rfl⟩⟩))
                  go_ret
                  exact ⟨by first | rfl | (simp [errW_none, errW_some] <;> rfl) | (simp [*, errW_none, errW_some] <;> rfl), by repeat (first | (with_reducible first | exact HB.out | apply below_alloc | apply pw_below_drewN | apply below_drew1 | refine below_set ?_ GE308.out | refine below_set ?_ GE321.out) | exact HB.out)⟩
                · rw [if_neg c13] at H
                  exact absurd H (by simp)
              · rw [if_neg c12] at H
                exact absurd H (by simp)
            · rw [if_neg c11] at H
              exact absurd H (by simp)
          · rw [if_neg c10] at H
            exact absurd H (by simp)
        · rw [if_neg c9] at H
          exact absurd H (by simp)
      · rw [if_neg c8] at H
        exact absurd H (by simp)
    · replace c7 := Bool.eq_false_iff.mpr c7
      subst c7
      have H1 : (none) = some r := by rw [if_neg (show ¬ (false = true) by decide)] at H; exact H
      clear H
      have H := H1
      clear H1
      exact absurd H (by simp)
  · rw [if_neg c6] at H
    exact absurd H (by simp)

end Go.Proofs.Ytcpmmkennnjalaa.Q
end
section
namespace Go.Proofs.Ytcpmmkennnjalaa.Q
open Go.RowKit Go.Proofs.YtcpmmkennnjalaaW.PrintWords Go.Proofs.YtcpmmkennnjalaaW.PrintLast Go.Proofs.YtcpmmkennnjalaaW.PrintMore
theorem awake6 : Ev (fun k => mizmazelaw06_awake.f k) true := Ev.of (k := 300) (fun k => mizmazelaw06_awake.mono k) (by kernel_rfl)
end Go.Proofs.Ytcpmmkennnjalaa.Q
end
