/- In an Eulerian automaton of at most MaxSmall states that has a reset word, Extend of each set that is neither empty nor contains all states is a word of at most n - 1 letters whose preimage has more states. (text 41 of 44) -/
import Derived.Test.YtcpmmkennnjalaaZEulerKaril
import Derived.Test.YtcpmmkennnjalaaZEulerKarizn
import Derived.Laws.EntriesVeiled
section
namespace Go.Proofs.Ytcpmmkennnjalaa.Q
open Go.RowKit Go.Proofs.YtcpmmkennnjalaaW.PrintWords Go.Proofs.YtcpmmkennnjalaaW.PrintLast Go.Proofs.YtcpmmkennnjalaaW.PrintMore
set_option linter.unusedVariables false
set_option linter.unusedSimpArgs false
def boundsObj : Obj := .cells #[.func (.func 32) #[] #[], .func (.func 67) #[] #[], .func (.func 68) #[] #[], .func (.func 69) #[] #[], .func (.func 70) #[] #[], .func (.func 71) #[] #[]] 52
set_option maxHeartbeats 1000000 in
theorem bounds_calls (w : World) : Calls Try.prog 34 #[] w fun e w' => e = .returned (.slice (some ⟨w.heap.size, 0, none⟩) 3 3) ∧ w' = w.alloc boundsObj := by
  go_enter Try.func34, Try.ntmps34
  go_wp2
  go_ret
  exact ⟨rfl, rfl⟩
theorem bounds1_calls (n : Int) (w : World) : Calls Try.prog 67 #[.int .i64 n] w fun e w' => e = .returned (.int .i64 (wrap64 (wrap64 (wrap64 (n * n) - wrap64 (3 * n)) + 3))) ∧ w' = w := by
  go_enter Try.func67, Try.ntmps67
  go_wp2
  go_ret
  exact ⟨rfl, rfl⟩
theorem bounds3_calls (n : Int) (w : World) : Calls Try.prog 69 #[.int .i64 n] w fun e w' => e = .returned (.int .i64 (wrap64 (wrap64 (n - 1) * wrap64 (n - 1)))) ∧ w' = w := by
  go_enter Try.func69, Try.ntmps69
  go_wp2
  go_ret
  exact ⟨rfl, rfl⟩
theorem bounds5_calls (n : Int) (w : World) : Calls Try.prog 71 #[.int .i64 n] w fun e w' => e = .returned (.int .i64 (wrap64 (Int.tdiv (wrap64 (wrap64 (wrap64 (n * n) * n) - n)) 6))) ∧ w' = w := by
  go_enter Try.func71, Try.ntmps71
  go_wp2
  go_ret
  exact ⟨rfl, rfl⟩
theorem bounds4_calls (v : Value) (w : World) : Calls Try.prog 70 #[.agg #[v]] w fun e w' => e = .returned (.bool true) ∧ Below w.heap.size w w' := by
  have HB0 := Below.refl w.heap.size w
  go_enter Try.func70, Try.ntmps70
  go_wp2_with ((with_reducible refine gate_dst (N := 1) rfl ?_); refine box_event ?hg (N := 1) ?hd (cs := #[v]) (t := 24) ?hr ?_; (case hd => rfl); (case hg => rfl); (case hr => first | (go_simp; done) | (go_simp; rfl)); intro B hBe w1 hbox hb1;  have HB1 := Aside0.mk (below_step HB0 hb1); clear hbox hb1 hBe)
  go_ret
  exact ⟨rfl, HB1.out⟩
set_option maxHeartbeats 1000000 in
theorem bounds2_calls (k : Nat) (A0_0 : Option Addr) (c0_0 : Nat) (l0_0 : List (List Int)) (r1 : Int) (r2 : Bool) (w : World) (hr0_0 : Kd.C (Kd.slice 3 (Kd.int .i64)) w A0_0 l0_0.length l0_0) (hc0_0 : l0_0.length ≤ c0_0) (h : euler_circular.f k l0_0 = some (r1, r2)) :
    Calls Try.prog 68 #[.agg #[.slice A0_0 l0_0.length c0_0]] w fun e w' => e = .returned (.bool r2) ∧ Below w.heap.size w w' := by
  have HR := Aside0.mk hr0_0
  have HC := Aside0.mk hc0_0
  have HB0 := Below.refl w.heap.size w
  have H := Aside0.mk h
  clear hr0_0 hc0_0 h
  go_enter Try.func68, Try.ntmps68
  go_wp2_with ((with_reducible refine gate_dst (N := 1) rfl ?_); refine box_event ?hg (N := 1) ?hd (cs := #[.slice A0_0 l0_0.length c0_0]) (t := 24) ?hr ?_; (case hd => rfl); (case hg => rfl); (case hr => first | (go_simp; done) | (go_simp; rfl)); intro B hBe w1 hbox hb1;  have hcb : w1.cell? ⟨B, 0, none⟩ = some (.slice A0_0 l0_0.length c0_0) := (blk_cell hbox 0).trans rfl;  have HB1 := Aside0.mk (below_step HB0 hb1); clear hbox hb1 hBe)
  refine (euler_circular.calls k _ _ l0_0 r1 r2 _ (Kd.C_below HR.out HB1.out) HC.out H.out).mono ?_
  rintro e w2 ⟨rfl, hb2⟩
  have HB2 := Aside0.mk (below_step HB1.out hb2)
  clear hb2 hcb
  go_wp2
  go_ret
  exact ⟨rfl, HB2.out⟩
def euler_Bound.f (k : Nat) (l0_0 : List (List Int)) : Option (Int × Int) := (reset_Reset.f k l0_0).bind fun t => if t.2 = 0 then ((euler_eulerian.f l0_0).bind fun is => if is = true then some (wrap64 (wrap64 (wrap64 ((l0_0.length : Int) * (l0_0.length : Int)) - wrap64 (3 * (l0_0.length : Int))) + 3), 0) else ((euler_circular.f k l0_0).bind fun bt => if bt.2 = true then some (wrap64 (wrap64 ((l0_0.length : Int) - 1) * wrap64 ((l0_0.length : Int) - 1)), 0) else some (wrap64 (Int.tdiv (wrap64 (wrap64 (wrap64 ((l0_0.length : Int) * (l0_0.length : Int)) * (l0_0.length : Int)) - (l0_0.length : Int))) 6), 0))) else some (0, t.2)
theorem euler_Bound.mono : ∀ a0 k, LeO (euler_Bound.f k a0) (euler_Bound.f (k + 1) a0) := by
  intro a0 k
  unfold euler_Bound.f
  repeat' first
      | (with_reducible exact reset_Reset.mono _ _)
      | (with_reducible exact euler_circular.mono _ _)
      | (with_reducible exact LeO.refl _)
      | (with_reducible exact LeO.none _)
      | (with_reducible refine LeO.ite ?_ ?_)
      | (with_reducible refine LeO.bind ?_ (fun _ => ?_))
structure BoI (k : Nat) (l : List (List Int)) (w W : World) (g B : Nat) (A : Option Addr) (c : Nat) (i : Int) : Prop where
  below : Below w.heap.size w W
  box : W.heap[B]? = some (.cells #[.slice A l.length c] 24 (0, 0))
  fs : W.heap[g]? = some (.cells #[.func (.func 32) #[] #[], .func (.func 67) #[] #[], .func (.func 68) #[] #[], .func (.func 69) #[] #[], .func (.func 70) #[] #[], .func (.func 71) #[] #[]] 52 (0, 0))
  at_ : i = 0 ∨ (i = 1 ∧ euler_eulerian.f l = some false) ∨ (i = 2 ∧ euler_eulerian.f l = some false ∧ ∃ x, euler_circular.f k l = some (x, false))
set_option maxHeartbeats 1000000 in
theorem euler_Bound.calls (k : Nat) (A0_0 : Option Addr) (c0_0 : Nat) (l0_0 : List (List Int)) (r1 r2 : Int) (w : World) (hr0_0 : Kd.C (Kd.slice 3 (Kd.int .i64)) w A0_0 l0_0.length l0_0) (hc0_0 : l0_0.length ≤ c0_0) (h : euler_Bound.f k l0_0 = some (r1, r2)) :
    Calls Try.prog 11 #[.agg #[.slice A0_0 l0_0.length c0_0]] w fun e w' => e = .returned (.tuple #[.int .i64 r1, .int .i64 r2]) ∧ Below w.heap.size w w' := by
  have HR := Aside0.mk hr0_0
  have HC := Aside0.mk hc0_0
  have HB0 := Below.refl w.heap.size w
  have H := h
  clear hr0_0 hc0_0 h
  unfold euler_Bound.f at H
  obtain ⟨⟨t1, t2⟩, ht, H⟩ := Option.bind_eq_some_iff.mp H
  have HT := Aside0.mk ht
  clear ht
  by_cases d0 : t2 = 0
  · subst d0
    rw [if_pos rfl] at H
    have H' := Aside0.mk H
    clear H
    go_enter Try.func11, Try.ntmps11
    go_wp2_with ((with_reducible refine gate_dst (N := 1) rfl ?_); refine box_event ?hg (N := 1) ?hd (cs := #[.slice A0_0 l0_0.length c0_0]) (t := 24) ?hr ?_; (case hd => rfl); (case hg => rfl); (case hr => first | (go_simp; done) | (go_simp; rfl)); intro B hBe w1 hbox hb1;  have hcb : w1.cell? ⟨B, 0, none⟩ = some (.slice A0_0 l0_0.length c0_0) := (blk_cell hbox 0).trans rfl;  have HBox := Aside0.mk hbox; have HB1 := Aside0.mk (below_step HB0 hb1); clear hbox hb1 hBe)
    refine (reset_Reset.calls k _ _ l0_0 t1 0 _ (Kd.C_below HR.out HB1.out) HC.out HT.out).mono ?_
    rintro e w2 ⟨v0, rfl, _, hb2⟩
    have HB2 := Aside0.mk (below_step HB1.out hb2)
    have HBox2 := Aside0.mk (blk_below HBox.out hb2)
    have hcb2 : w2.cell? ⟨B, 0, none⟩ = some (.slice A0_0 l0_0.length c0_0) := (blk_cell HBox2.out 0).trans rfl
    clear hb2 hcb
    go_wp2_with fail
    refine (bounds_calls _).mono ?_
    rintro e w3 ⟨rfl, rfl⟩
    have HS : Aside0 (BoI k l0_0 w (w2.alloc boundsObj) w2.heap.size B A0_0 c0_0 0) := ⟨⟨below_alloc HB2.out _, blk_alloc HBox2.out _, blk_new w2 _, .inl rfl⟩⟩
    generalize w2.heap.size = g at HS ⊢
    generalize w2.alloc boundsObj = w3 at HS ⊢
    have HA := Aside0.mk hcb2
    clear hcb2
    go_wp2_with fail
    go_loopg [18] 3 (fun kq v18 w' => ∃ (x : Int), v18 = .int .i64 x ∧ Aside0 (x + (kq : Int) = 3) ∧ Aside0 (BoI k l0_0 w w' g B A0_0 c0_0 x))
    case atStart => exact ⟨0, rfl, ⟨by omega⟩, HS⟩
    case round =>
      obtain ⟨x, rfl, HK, HX⟩ := hrel
      have HA := HX.out.at_
      rcases HA with rfl | ⟨rfl, hn⟩ | ⟨rfl, hn, y, hy⟩
      · have H := H'.out
        obtain ⟨is, his, H⟩ := Option.bind_eq_some_iff.mp H
        have HI := Aside0.mk his
        clear his
        have HN := Aside0.mk (blk_new wr (.cells #[.func (.func 32) #[] #[], .func (.func 67) #[] #[]] 52))
        have HBx := Aside0.mk (blk_alloc HX.out.box (.cells #[.func (.func 32) #[] #[], .func (.func 67) #[] #[]] 52))
        have HBw := Aside0.mk (below_alloc HX.out.below (.cells #[.func (.func 32) #[] #[], .func (.func 67) #[] #[]] 52))
        have HFs := Aside0.mk (blk_alloc HX.out.fs (.cells #[.func (.func 32) #[] #[], .func (.func 67) #[] #[]] 52))
        have e0 : wr.cell? ⟨g, 0, none⟩ = some (.func (.func 32) #[] #[]) := (blk_cell HX.out.fs 0).trans rfl
        have e1 : wr.cell? ⟨g, 1, none⟩ = some (.func (.func 67) #[] #[]) := (blk_cell HX.out.fs 1).trans rfl
        have hcb : (wr.alloc (.cells #[.func (.func 32) #[] #[], .func (.func 67) #[] #[]] 52)).cell? ⟨B, 0, none⟩ = some (.slice A0_0 l0_0.length c0_0) := (blk_cell HBx.out 0).trans rfl
        go_wp2_with fail
        refine (euler_eulerian.calls _ _ l0_0 is _ (Kd.C_below HR.out HBw.out) HC.out HI.out).mono ?_
        rintro e w4 ⟨rfl, hb4⟩
        have HB4 := Aside0.mk (below_step HBw.out hb4)
        have HN4 := Aside0.mk (blk_below HN.out hb4)
        have HBx4 := Aside0.mk (blk_below HBx.out hb4)
        have HFs4 := Aside0.mk (blk_below HFs.out hb4)
        cases is with
        | true =>
          rw [if_pos rfl] at H
          simp only [Option.some.injEq, Prod.mk.injEq] at H
          obtain ⟨rfl, rfl⟩ := H
          have h1 : w4.cell? ⟨wr.heap.size, 1, none⟩ = some (.func (.func 67) #[] #[]) := (blk_cell HN4.out 1).trans rfl
          have h2 : w4.cell? ⟨B, 0, none⟩ = some (.slice A0_0 l0_0.length c0_0) := (blk_cell HBx4.out 0).trans rfl
          clear hb4 hcb e0 e1
          go_wp2_with fail
          refine (bounds1_calls _ _).mono ?_
          rintro e w5 ⟨rfl, rfl⟩
          go_wp2
          go_ret2
          exact ⟨rfl, HB4.out⟩
        | false =>
          have HI2 := HI.out
          clear hb4 hcb e0 e1
          go_wp2_with fail
          go_roundg (gk - 1)
          case measure => have := HK.out; omega
          case rel => exact ⟨_, rfl, ⟨by have := HK.out; omega⟩, ⟨⟨HB4.out, HBx4.out, HFs4.out, .inr (.inl ⟨rfl, HI2⟩)⟩⟩⟩
      · have H := H'.out
        rw [hn, Option.bind_some, if_neg (by decide)] at H
        obtain ⟨⟨y, is⟩, his, H⟩ := Option.bind_eq_some_iff.mp H
        have HI := Aside0.mk his
        clear his
        have HN := Aside0.mk (blk_new wr (.cells #[.func (.func 68) #[] #[], .func (.func 69) #[] #[]] 52))
        have HBx := Aside0.mk (blk_alloc HX.out.box (.cells #[.func (.func 68) #[] #[], .func (.func 69) #[] #[]] 52))
        have HBw := Aside0.mk (below_alloc HX.out.below (.cells #[.func (.func 68) #[] #[], .func (.func 69) #[] #[]] 52))
        have HFs := Aside0.mk (blk_alloc HX.out.fs (.cells #[.func (.func 68) #[] #[], .func (.func 69) #[] #[]] 52))
        have e0 : wr.cell? ⟨g, 2, none⟩ = some (.func (.func 68) #[] #[]) := (blk_cell HX.out.fs 2).trans rfl
        have e1 : wr.cell? ⟨g, 3, none⟩ = some (.func (.func 69) #[] #[]) := (blk_cell HX.out.fs 3).trans rfl
        have hcb : (wr.alloc (.cells #[.func (.func 68) #[] #[], .func (.func 69) #[] #[]] 52)).cell? ⟨B, 0, none⟩ = some (.slice A0_0 l0_0.length c0_0) := (blk_cell HBx.out 0).trans rfl
        go_wp2_with fail
        refine (bounds2_calls k _ _ l0_0 y is _ (Kd.C_below HR.out HBw.out) HC.out HI.out).mono ?_
        rintro e w4 ⟨rfl, hb4⟩
        have HB4 := Aside0.mk (below_step HBw.out hb4)
        have HN4 := Aside0.mk (blk_below HN.out hb4)
        have HBx4 := Aside0.mk (blk_below HBx.out hb4)
        have HFs4 := Aside0.mk (blk_below HFs.out hb4)
        cases is with
        | true =>
          rw [if_pos rfl] at H
          simp only [Option.some.injEq, Prod.mk.injEq] at H
          obtain ⟨rfl, rfl⟩ := H
          have h1 : w4.cell? ⟨wr.heap.size, 1, none⟩ = some (.func (.func 69) #[] #[]) := (blk_cell HN4.out 1).trans rfl
          have h2 : w4.cell? ⟨B, 0, none⟩ = some (.slice A0_0 l0_0.length c0_0) := (blk_cell HBx4.out 0).trans rfl
          clear hb4 hcb e0 e1
          go_wp2_with fail
          refine (bounds3_calls _ _).mono ?_
          rintro e w5 ⟨rfl, rfl⟩
          go_wp2
          go_ret2
          exact ⟨rfl, HB4.out⟩
        | false =>
          have HI2 := HI.out
          clear hb4 hcb e0 e1
          go_wp2_with fail
          go_roundg (gk - 1)
          case measure => have := HK.out; omega
          case rel => exact ⟨_, rfl, ⟨by have := HK.out; omega⟩, ⟨⟨HB4.out, HBx4.out, HFs4.out, .inr (.inr ⟨rfl, hn, y, HI2⟩)⟩⟩⟩
      · have H := H'.out
        rw [hn, Option.bind_some, if_neg (by decide), hy, Option.bind_some, if_neg Bool.false_ne_true] at H
        simp only [Option.some.injEq, Prod.mk.injEq] at H
        obtain ⟨rfl, rfl⟩ := H
        have HN := Aside0.mk (blk_new wr (.cells #[.func (.func 70) #[] #[], .func (.func 71) #[] #[]] 52))
        have HBx := Aside0.mk (blk_alloc HX.out.box (.cells #[.func (.func 70) #[] #[], .func (.func 71) #[] #[]] 52))
        have HBw := Aside0.mk (below_alloc HX.out.below (.cells #[.func (.func 70) #[] #[], .func (.func 71) #[] #[]] 52))
        have HFs := Aside0.mk (blk_alloc HX.out.fs (.cells #[.func (.func 70) #[] #[], .func (.func 71) #[] #[]] 52))
        have e0 : wr.cell? ⟨g, 4, none⟩ = some (.func (.func 70) #[] #[]) := (blk_cell HX.out.fs 4).trans rfl
        have e1 : wr.cell? ⟨g, 5, none⟩ = some (.func (.func 71) #[] #[]) := (blk_cell HX.out.fs 5).trans rfl
        have hcb : (wr.alloc (.cells #[.func (.func 70) #[] #[], .func (.func 71) #[] #[]] 52)).cell? ⟨B, 0, none⟩ = some (.slice A0_0 l0_0.length c0_0) := (blk_cell HBx.out 0).trans rfl
        go_wp2_with fail
        refine (bounds4_calls _ _).mono ?_
        rintro e w4 ⟨rfl, hb4⟩
        have HB4 := Aside0.mk (below_step HBw.out hb4)
        have HN4 := Aside0.mk (blk_below HN.out hb4)
        have HBx4 := Aside0.mk (blk_below HBx.out hb4)
        have HFs4 := Aside0.mk (blk_below HFs.out hb4)
        have h1 : w4.cell? ⟨wr.heap.size, 1, none⟩ = some (.func (.func 71) #[] #[]) := (blk_cell HN4.out 1).trans rfl
        have h2 : w4.cell? ⟨B, 0, none⟩ = some (.slice A0_0 l0_0.length c0_0) := (blk_cell HBx4.out 0).trans rfl
        clear hb4 hcb e0 e1
        go_wp2_with fail
        refine (bounds5_calls _ _).mono ?_
        rintro e w5 ⟨rfl, rfl⟩
        go_wp2
        go_ret2
        exact ⟨rfl, HB4.out⟩
  · rw [if_neg d0] at H
    simp only [Option.some.injEq, Prod.mk.injEq] at H
    obtain ⟨rfl, rfl⟩ := H
    have q0 := eq_false d0
    have q1 := beq_false_of_ne d0
    have q2 := bne_iff_ne.mpr d0
    have D0 := Aside0.mk d0
    clear d0
    go_enter Try.func11, Try.ntmps11
    go_wp2_with ((with_reducible refine gate_dst (N := 1) rfl ?_); refine box_event ?hg (N := 1) ?hd (cs := #[.slice A0_0 l0_0.length c0_0]) (t := 24) ?hr ?_; (case hd => rfl); (case hg => rfl); (case hr => first | (go_simp; done) | (go_simp; rfl)); intro B hBe w1 hbox hb1;  have hcb : w1.cell? ⟨B, 0, none⟩ = some (.slice A0_0 l0_0.length c0_0) := (blk_cell hbox 0).trans rfl;  have HBox := Aside0.mk hbox; have HB1 := Aside0.mk (below_step HB0 hb1); clear hbox hb1 hBe)
    refine (reset_Reset.calls k _ _ l0_0 t1 t2 _ (Kd.C_below HR.out HB1.out) HC.out HT.out).mono ?_
    rintro e w2 ⟨v0, rfl, _, hb2⟩
    have HB2 := Aside0.mk (below_step HB1.out hb2)
    clear hb2 hcb
    go_wp2
    go_ret2
    exact ⟨rfl, HB2.out⟩
end Go.Proofs.Ytcpmmkennnjalaa.Q
end
