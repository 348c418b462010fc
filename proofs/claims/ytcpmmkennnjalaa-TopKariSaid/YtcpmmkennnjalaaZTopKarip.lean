/- In any Eulerian automaton that has a reset word, whatever set of states, neither empty nor all, is led into by more states with a word of at most n - 1 letters, and its shortest reset word has at most n^2 - 3n + 3 letters; in any circular one at most (n - 1)^2. (At most 9 states) (text 16 of 42) -/
import Derived.Test.YtcpmmkennnjalaaZTopKario
import Derived.DeepKeys3
import Derived.Test.YtcpmmkennnjalaaZTopKarij
section
namespace Go.Proofs.Ytcpmmkennnjalaa.Q
open Go.RowKit Go.Proofs.YtcpmmkennnjalaaW.PrintWords Go.Proofs.YtcpmmkennnjalaaW.PrintLast Go.Proofs.YtcpmmkennnjalaaW.PrintMore
set_option linter.unusedVariables false
/-! ### maps whose keys are pairs -/
def encP (p : Int × Int) : Value := .agg #[.int .i64 p.1, .int .i64 p.2]
theorem encP_inj (a b : Int × Int) (h : encP a = encP b) : a = b := by
  obtain ⟨a1, a2⟩ := a; obtain ⟨b1, b2⟩ := b
  simp only [encP, Value.agg.injEq] at h
  have h2 := congrArg Array.toList h
  simp at h2
  rw [h2.1, h2.2]
def PairG (v : Value) : Prop := ∃ l, keyOf Try.prog 74 v = some l
theorem pair_wide : (match Try.prog.underlying 74 with | some (.array _ _) | some (.struct _) => true | _ => false) = true := by rw [Try.underlying74]
set_option maxRecDepth 100000 in
theorem pair_law : WideMaps.KeyLaw Try.prog 74 := deep_law (m := 2) (by omega) (by kernel_rfl) (by kernel_rfl) pair_wide
theorem pair_keyOk : KeyOk Try.prog 74 PairG := by
  have L := pair_law
  exact ⟨fun w em v ⟨l, h⟩ => L.check w em h, fun w x ⟨l, h⟩ es hes => L.find w h es hes, fun w v ⟨l, h⟩ => L.stays w h⟩
set_option maxRecDepth 100000 in
theorem pairG {p q : Int} (h0 : -9223372036854775808 ≤ p) (h1 : p ≤ 9223372036854775807) (h2 : -9223372036854775808 ≤ q) (h3 : q ≤ 9223372036854775807) : PairG (encP (p, q)) := by
  have wp : (Lit.int .i64 p).wf = true := by
    have hmin : IntKind.i64.min = -9223372036854775808 := rfl
    have hmax : IntKind.i64.max = 9223372036854775807 := rfl
    simp only [Lit.wf, Bool.and_eq_true, decide_eq_true_eq]; omega
  have wq : (Lit.int .i64 q).wf = true := by
    have hmin : IntKind.i64.min = -9223372036854775808 := rfl
    have hmax : IntKind.i64.max = 9223372036854775807 := rfl
    simp only [Lit.wf, Bool.and_eq_true, decide_eq_true_eq]; omega
  have c1 : Try.prog.cellsOf 74 = 2 := by kernel_rfl
  have c2 : Try.prog.cellsOf 3 = 1 := by kernel_rfl
  have kt : Try.prog.keyType 74 = true := by kernel_rfl
  have fm : (encP (p, q)).formed Try.prog 74 = true := by unfold encP; kernel_rfl
  have one : ∀ (d : Nat) (z : Int), (Lit.int .i64 z).wf = true → Try.prog.keyLits (d + 1) 3 [.int .i64 z] = some [.int .i64 z] := by
    intro d z hz
    unfold Program.keyLits
    rw [Try.underlying3]
    simp [hz]
  have two : ∀ (d : Nat), Try.prog.keyLits (d + 2) 74 [.int .i64 p, .int .i64 q] = some [.int .i64 p, .int .i64 q] := by
    intro d
    unfold Program.keyLits
    rw [Try.underlying74]
    simp only [c1, c2]
    rw [if_pos (by rfl)]
    have hr : List.range 2 = [0, 1] := rfl
    rw [hr]
    simp [one d p wp, one d q wq]
  unfold PairG keyOf
  rw [Try.underlying74]
  simp only [kt, fm, Bool.and_self, if_true]
  have hd0 : decide (0 < Try.prog.types.size) = true := by kernel_rfl
  have hd1 := of_decide_eq_true hd0
  have hsz : ∃ d, Try.prog.types.size + 1 = d + 2 := ⟨Try.prog.types.size - 1, by omega⟩
  obtain ⟨d, hd⟩ := hsz
  rw [hd]
  have hc : (encP (p, q)).cells.toList = [.int .i64 p, .int .i64 q] := rfl
  rw [hc, two d]
  exact ⟨_, rfl⟩
end Go.Proofs.Ytcpmmkennnjalaa.Q
end
section
namespace Go.Proofs.Ytcpmmkennnjalaa.Q
open Go.RowKit Go.Proofs.YtcpmmkennnjalaaW.PrintWords Go.Proofs.YtcpmmkennnjalaaW.PrintLast Go.Proofs.YtcpmmkennnjalaaW.PrintMore
def xstp0 : Array Bool := #[true, false, false, false, false, false, false, false, false, false, false, false, false, false, false, false, false, false, false, false, false, false, false, false, false, false]
def xstp1 : Array Bool := #[true, true, false, false, false, false, false, false, false, false, false, false, false, false, false, false, false, false, false, false, false, false, false, false, false, false]
def xstp2 : Array Bool := #[true, true, true, false, false, false, false, false, false, false, false, false, false, false, false, false, false, false, false, false, false, false, false, false, false, false]
def xstp3 : Array Bool := #[true, true, true, true, false, false, false, false, false, false, false, false, false, false, false, false, false, false, false, false, false, false, false, false, false, false]
def xstp4 : Array Bool := #[true, true, true, true, false, true, false, false, false, false, false, false, false, false, false, false, false, false, false, false, false, false, false, false, false, false]
def xstp5 : Array Bool := #[true, true, true, true, false, true, false, false, false, true, false, false, false, false, false, false, false, false, false, false, false, false, false, false, false, false]
def xstp6 : Array Bool := #[true, true, true, true, false, true, false, false, false, true, false, false, true, false, false, false, false, false, false, false, false, false, false, false, false, false]
def xstp7 : Array Bool := #[true, true, true, true, false, true, false, false, false, true, false, false, true, true, false, false, false, false, false, false, false, false, false, false, false, false]
def xstp8 : Array Bool := #[true, true, true, true, false, true, false, false, false, true, false, false, true, true, true, false, false, false, false, false, false, false, false, false, false, false]
def xstp9 : Array Bool := #[true, true, true, true, false, true, false, false, false, true, false, false, true, true, true, true, false, false, false, false, false, false, false, false, false, false]
def xstp10 : Array Bool := #[true, true, true, true, false, true, false, false, false, true, false, false, true, true, true, true, false, true, false, false, false, false, false, false, false, false]
def xstp11 : Array Bool := #[true, true, true, true, false, true, false, false, false, true, false, false, true, true, true, true, false, true, false, false, false, true, false, false, false, false]
def xstp12 : Array Bool := #[true, true, true, true, true, true, false, false, false, true, false, false, true, true, true, true, false, true, false, false, false, true, false, false, false, false]
def xstp13 : Array Bool := #[true, true, true, true, true, true, true, false, false, true, false, false, true, true, true, true, false, true, false, false, false, true, false, false, false, false]
def xstp14 : Array Bool := #[true, true, true, true, true, true, true, true, false, true, false, false, true, true, true, true, false, true, false, false, false, true, false, false, false, false]
def xstp15 : Array Bool := #[true, true, true, true, true, true, true, true, true, true, false, false, true, true, true, true, false, true, false, false, false, true, false, false, false, false]
def xstp16 : Array Bool := #[true, true, true, true, true, true, true, true, true, true, true, false, true, true, true, true, false, true, false, false, false, true, false, false, false, false]
def xstp17 : Array Bool := #[true, true, true, true, true, true, true, true, true, true, true, true, true, true, true, true, false, true, false, false, false, true, false, false, false, false]
def xstp18 : Array Bool := #[true, true, true, true, true, true, true, true, true, true, true, true, true, true, true, true, true, true, false, false, false, true, false, false, false, false]
def xstp19 : Array Bool := #[true, true, true, true, true, true, true, true, true, true, true, true, true, true, true, true, true, true, true, false, false, true, false, false, false, false]
def xstp20 : Array Bool := #[true, true, true, true, true, true, true, true, true, true, true, true, true, true, true, true, true, true, true, true, false, true, false, false, false, false]
def xstp21 : Array Bool := #[true, true, true, true, true, true, true, true, true, true, true, true, true, true, true, true, true, true, true, true, true, true, false, false, false, false]
def xstp22 : Array Bool := #[true, true, true, true, true, true, true, true, true, true, true, true, true, true, true, true, true, true, true, true, true, true, true, false, false, false]
def xstp23 : Array Bool := #[true, true, true, true, true, true, true, true, true, true, true, true, true, true, true, true, true, true, true, true, true, true, true, true, false, false]
def xstp24 : Array Bool := #[true, true, true, true, true, true, true, true, true, true, true, true, true, true, true, true, true, true, true, true, true, true, true, true, true, false]
def xstp25 : Array Bool := #[true, true, true, true, true, true, true, true, true, true, true, true, true, true, true, true, true, true, true, true, true, true, true, true, true, true]
set_option linter.unusedVariables false
set_option linter.unusedSimpArgs false
def step.T1 : Bool × List (List Nat × List Nat) := (true, [([], []), ([0], [0]), ([1], [1]), ([2], [2]), ([3], [3]), ([], []), ([5], [5]), ([4, 6], [4, 6]), ([7], [7]), ([], []), ([8, 9], [8, 9]), ([10], [10]), ([], []), ([12], [12]), ([13], [13]), ([14], [14]), ([15], [15]), ([], []), ([17], [17]), ([16, 18], [16, 18]), ([19], [19]), ([], []), ([20, 21], [20, 21]), ([22], [22]), ([11, 23], [11, 23]), ([24, 24, 0, 1, 2, 3, 4, 5, 6, 7, 8, 9, 10, 11, 12, 13, 14, 15, 16, 17, 18, 19, 20, 21, 22, 23, 24], [24])])
def step.B1 : List Nat := [0, 1, 3, 7, 15, 0, 32, 127, 255, 0, 1023, 2047, 0, 4096, 12288, 28672, 61440, 0, 131072, 520192, 1044480, 0, 4190208, 8384512, 16777215, 33554431]
theorem step.tab1 : rtab .any (opsOf Try.f78 1) = step.T1 := by kernel_rfl
theorem step.bits1 : waitsOk step.T1.2 step.B1 = true := by kernel_rfl
set_option maxHeartbeats 2000000 in
set_option maxRecDepth 100000 in
/-- (*merger).step: the pair to which a letter leads. -/
theorem step_calls (A0_0 : Option Addr) (c0_0 : Nat) (l0_0 : List (List Int)) (M : Nat) (mv : Value) (p q x r1 r2 : Int) (w : World) (hR : Kd.C (Kd.slice 3 (Kd.int .i64)) w A0_0 l0_0.length l0_0)
    (hM : w.heap[M]? = some (.cells #[.slice A0_0 l0_0.length c0_0, mv] 100 (0, 0))) (hp0 : 0 ≤ p) (hp1 : p < l0_0.length) (hq0 : 0 ≤ q) (hq1 : q < l0_0.length) (hx0 : 0 ≤ x) (hxp : x < (rd_L1 l0_0 p).length) (hxq : x < (rd_L1 l0_0 q).length)
    (h : reset_of.f (rd (rd_L1 l0_0 p) x) (rd (rd_L1 l0_0 q) x) = some (r1, r2)) :
    Calls Try.prog 78 #[.pointer (some ⟨M, 0, none⟩), .agg #[.int .i64 p, .int .i64 q], .int .i64 x] w fun e w' => e = .returned (.agg #[.int .i64 r1, .int .i64 r2]) ∧ Below w.heap.size w w' := by
  have HB := Aside0.mk (Below.refl w.heap.size w)
  obtain ⟨ad, A1, c1, e1, hx1, hl1, hg1⟩ := at_L1 hR p hp0 hp1
  obtain ⟨ad', A2, c2, e2, hx2, hl2, hg2⟩ := at_L1 hR q hq0 hq1
  subst e1
  cases e2
  obtain ⟨d1, f1, hy1⟩ := Kd.at_int hg1 x hx0 hxp
  obtain ⟨d2, f2, hy2⟩ := Kd.at_int hg2 x hx0 hxq
  subst f1
  subst f2
  have HM := Aside0.mk hM
  have HX1 := Aside0.mk hx1
  have HX2 := Aside0.mk hx2
  have HY1 := Aside0.mk hy1
  have HY2 := Aside0.mk hy2
  have H' := Aside0.mk h
  clear hx1 hx2 hy1 hy2 h hM hR hg1 hg2 hl1 hl2
  have p1 := eq_true hp0
  have p2 := eq_true hp1
  have p3 := eq_true hq0
  have p4 := eq_true hq1
  have p5 := eq_true hx0
  have p6 := eq_true hxp
  have p7 := eq_true hxq
  clear hp0 hp1 hq0 hq1 hx0 hxp hxq
  go_enter Try.func78, Try.ntmps78
  go_wp2_with (first | ((with_reducible refine gate_dst (N := 4) rfl ?_); refine box_event ?hg (N := 4) ?hd (cs := #[.int .i64 p, .int .i64 q]) (t := 74) ?hr ?_; (case hd => rfl); (case hg => rfl); (case hr => first | (go_simp; done) | (go_simp; rfl)); intro B hBe w1 hbox hb1;  have HBx := Aside0.mk hbox; have HB1 := Aside0.mk (below_step HB.out hb1); clear hbox hb1 hBe)  | ((with_reducible refine gate_dst (N := 6) rfl ?_); refine box_event ?hg (N := 6) ?hd (cs := #[.int .i64 0, .int .i64 0]) (t := 74) ?hr ?_; (case hd => rfl); (case hg => rfl); (case hr => first | (go_simp; done) | (go_simp; rfl)); intro O hOe w2 hbox hb2;  have HO := Aside0.mk hbox; have HBx2 := Aside0.mk (blk_below HBx.out hb2); have HB2 := Aside0.mk (below_step HB1.out hb2); have HOE := Aside0.mk (show w.heap.size ≤ O by have := HB1.out.size; omega); clear hbox hb2 hOe))
  have hS : w2.drew.cell? ⟨M, 0, none⟩ = some (.slice (some ad) l0_0.length c0_0) ∧ w2.drew.cell? ⟨B, 0, none⟩ = some (.int .i64 p) ∧ w2.drew.cell? ⟨B, 1, none⟩ = some (.int .i64 q) ∧ w2.drew.cell? (ad.add p.toNat) = some (.slice (some d1) (rd_L1 l0_0 p).length c1) ∧ w2.drew.cell? (ad.add q.toNat) = some (.slice (some d2) (rd_L1 l0_0 q).length c2) ∧ w2.drew.cell? (d1.add x.toNat) = some (.int .i64 (rd (rd_L1 l0_0 p) x)) ∧ w2.drew.cell? (d2.add x.toNat) = some (.int .i64 (rd (rd_L1 l0_0 q) x)) :=
    ⟨(blk_cell (blk_below HM.out HB2.out) 0).trans rfl, (blk_cell HBx2.out 0).trans rfl, (blk_cell HBx2.out 1).trans rfl, pw_cell_below HB2.out HX1.out, pw_cell_below HB2.out HX2.out, pw_cell_below HB2.out HY1.out, pw_cell_below HB2.out HY2.out⟩
  refine start_ (n := 26) (S := fun w' => w'.cell? ⟨M, 0, none⟩ = some (.slice (some ad) l0_0.length c0_0) ∧ w'.cell? ⟨B, 0, none⟩ = some (.int .i64 p) ∧ w'.cell? ⟨B, 1, none⟩ = some (.int .i64 q) ∧ w'.cell? (ad.add p.toNat) = some (.slice (some d1) (rd_L1 l0_0 p).length c1) ∧ w'.cell? (ad.add q.toNat) = some (.slice (some d2) (rd_L1 l0_0 q).length c2) ∧ w'.cell? (d1.add x.toNat) = some (.int .i64 (rd (rd_L1 l0_0 p) x)) ∧ w'.cell? (d2.add x.toNat) = some (.int .i64 (rd (rd_L1 l0_0 q) x))) (ds := [25]) #[false, false, false, false, false, false, false, false, false, false, false, false, false, false, false, false, false, false, false, false, false, false, false, false, false, false] (by kernel_rfl) rfl rfl hS (fun hHeld => ?_); refine with_tabW step.tab1 step.bits1 (fun HT_ HW_ => ?_)
  refine pv_ 0 7 xstp0 HT_ ?_
  refine pv_ 1 8 xstp1 HT_ ?_
  refine pv_ 2 9 xstp2 HT_ ?_
  refine pv_ 3 10 xstp3 HT_ ?_
  refine pv_ 5 12 xstp4 HT_ ?_
  refine pv_ 9 16 xstp5 HT_ ?_
  refine pv_ 12 19 xstp6 HT_ ?_
  refine pv_ 13 20 xstp7 HT_ ?_
  refine pv_ 14 21 xstp8 HT_ ?_
  refine pv_ 15 22 xstp9 HT_ ?_
  refine pv_ 17 24 xstp10 HT_ ?_
  refine pv_ 21 28 xstp11 HT_ ?_
  refine tv_ 4 11 xstp12 HT_ HW_ hHeld ?_
  refine tv_ 6 13 xstp13 HT_ HW_ hHeld ?_
  refine pv_ 7 14 xstp14 HT_ ?_
  refine tv_ 8 15 xstp15 HT_ HW_ hHeld ?_
  refine pv_ 10 17 xstp16 HT_ ?_
  refine tv_ 11 18 xstp17 HT_ HW_ hHeld ?_
  refine tv_ 16 23 xstp18 HT_ HW_ hHeld ?_
  refine tv_ 18 25 xstp19 HT_ HW_ hHeld ?_
  refine pv_ 19 26 xstp20 HT_ ?_
  refine tv_ 20 27 xstp21 HT_ HW_ hHeld ?_
  refine pv_ 22 29 xstp22 HT_ ?_
  refine tv_ 23 30 xstp23 HT_ HW_ hHeld ?_
  refine one_ (i := 24) (N := some 31) xstp24 rfl rfl (one_of HT_.out (by kernel_rfl)) (by decide) (fun K hK => ?_)
  refine goes_ Try.func94 (by kernel_rfl) rfl #[.int .i64 (rd (rd_L1 l0_0 p) x), .int .i64 (rd (rd_L1 l0_0 q) x)] (by rfl) rfl rfl (by (try simp only [List.map_toArray, List.map_cons, List.map_nil]); first | done | rfl | (simp only [List.length_drop, List.length_take]; rfl)) ?_
  with_reducible refine (reset_of.calls _ _ r1 r2 _ H'.out).mono ?_
  rintro e w3 ⟨rfl, hb3⟩
  refine ⟨_, rfl, ?_⟩
  have HB3 := Aside0.mk (below_step (pw_below_drewN HB2.out 1) hb3)
  have HO3 := Aside0.mk (blk_below (w := w2.drew) HO.out hb3)
  refine hK.out _ _ ⟨pw_cell_below hb3 hHeld.1, pw_cell_below hb3 hHeld.2.1, pw_cell_below hb3 hHeld.2.2.1, pw_cell_below hb3 hHeld.2.2.2.1, pw_cell_below hb3 hHeld.2.2.2.2.1, pw_cell_below hb3 hHeld.2.2.2.2.2.1, pw_cell_below hb3 hHeld.2.2.2.2.2.2⟩ (fun hHeld => ?_)
  clear hK K
  refine nm_ 31 ?_
  refine last_ (i := 25) (N := none) xstp25 rfl rfl (one_of HT_.out (by kernel_rfl)) (by decide) (fun K hK => ?_)
  have hs0 : w3.cell? ⟨O, 0, none⟩ = some (.int .i64 0) := (blk_cell HO3.out 0).trans rfl
  have hs1 : w3.cell? ⟨O, 1, none⟩ = some (.int .i64 0) := (blk_cell HO3.out 1).trans rfl
  have hf0 := blk_frozen HO3.out 0
  have hf1 := blk_frozen HO3.out 1
  refine skip_ (w1 := ?_) (by rfl) rfl ?_ ?_
  rotate_left
  · go_simp
    rfl
  refine hK.out _ _ ?_
  clear hK K
  refine done_ (done_of HT_.out (by kernel_rfl)) ?_
  try go_wp2
  refine bodyPost_ret (results_cell_row rfl _ _ O 74 #[.int .i64 r1, .int .i64 r2] (0, 0) _ rfl (by refine blk_put (cs := #[.int .i64 r1, .int .i64 0]) ?_ 1 _ rfl; refine blk_put (cs := #[.int .i64 0, .int .i64 0]) ?_ 0 _ rfl; exact HO3.out) Try.underlying74 rfl (by kernel_rfl)) rfl ?_
  exact ⟨rfl, below_set (below_set HB3.out HOE.out) HOE.out⟩
end Go.Proofs.Ytcpmmkennnjalaa.Q
end
section
namespace Go.Proofs.Ytcpmmkennnjalaa.Q
open Go.RowKit Go.Proofs.YtcpmmkennnjalaaW.PrintWords Go.Proofs.YtcpmmkennnjalaaW.PrintLast Go.Proofs.YtcpmmkennnjalaaW.PrintMore
set_option linter.unusedVariables false
set_option linter.unusedSimpArgs false
/-- A pair's number. -/
def lkP (x : Int × Int) (left : List ((Int × Int) × Int)) : Option Int := @List.lookup (Int × Int) Int instBEqOfDecidableEq x left
/-- The map of a merger, as its entries' values. -/
def lv (left : List ((Int × Int) × Int)) : List ((Int × Int) × Value) := left.map fun e => (e.1, Value.int .i64 e.2)
theorem lv_lookup (x : Int × Int) : ∀ left : List ((Int × Int) × Int), @List.lookup (Int × Int) Value instBEqOfDecidableEq x (lv left) = (lkP x left).map fun n => Value.int .i64 n
  | [] => rfl
  | (k, n) :: l => by
    show (match @BEq.beq (Int × Int) instBEqOfDecidableEq x k with | true => some (Value.int .i64 n) | false => @List.lookup (Int × Int) Value instBEqOfDecidableEq x (lv l)) = Option.map (fun n => Value.int .i64 n) (match @BEq.beq (Int × Int) instBEqOfDecidableEq x k with | true => some n | false => lkP x l)
    cases @BEq.beq _ instBEqOfDecidableEq x k with
    | true => rfl
    | false => exact lv_lookup x l
theorem zero_int (w : World) : (zeroValue 3).run Try.prog w = .ok (.int .i64 0) w := by kernel_rfl
theorem look_left {W : World} {b : Nat} {left : List ((Int × Int) × Int)} (h : MapIs PairG encP W b (lv left)) {p q : Int} (hG : PairG (encP (p, q))) (c : Bool) :
    (Instr.lookup 98 (.map (some b)) (.agg #[.int .i64 p, .int .i64 q]) c).run Try.prog W = .ok (if c then .tuple #[.int .i64 ((lkP (p, q) left).getD 0), .bool (lkP (p, q) left).isSome] else .int .i64 ((lkP (p, q) left).getD 0)) W := by
  have := MapIs.lookup h pair_keyOk encP_inj Try.underlying98 (zero_int W) (p, q) hG c
  rw [lv_lookup] at this
  show (Instr.lookup 98 (.map (some b)) (encP (p, q)) c).run Try.prog W = _
  rw [this]
  cases lkP (p, q) left <;> rfl
theorem look_leftN {W : World} {b : Nat} {left : List ((Int × Int) × Int)} (h : MapIs PairG encP W b (lv left)) {p q : Int} (hG : PairG (encP (p, q))) (c : Bool) (n : Nat) :
    (Instr.lookup 98 (.map (some b)) (.agg #[.int .i64 p, .int .i64 q]) c).run Try.prog (W.drewN n) = .ok (if c then .tuple #[.int .i64 ((lkP (p, q) left).getD 0), .bool (lkP (p, q) left).isSome] else .int .i64 ((lkP (p, q) left).getD 0)) (W.drewN n) :=
  look_left (MapIs.below h (pw_below_drewN (Below.refl _ _) n)) hG c
def inP (n : Nat) (p q : Int) : Bool := decide (0 ≤ p ∧ p < n ∧ 0 ≤ q ∧ q < n)
mutual
def merger_word.l0 : Nat → List (List Int) → List ((Int × Int) × Int) → Int → Int → List Int → Option (List Int × Bool)
  | 0, _, _, _, _, _ => none
  | k + 1, rows, left, p, q, out => if inP rows.length p q = true then (if (lkP (p, q) left).getD 0 > 0 then merger_word.l1 k rows left p q out 0 else some (out, true)) else none
def merger_word.l1 : Nat → List (List Int) → List ((Int × Int) × Int) → Int → Int → List Int → Int → Option (List Int × Bool)
  | 0, _, _, _, _, _, _ => none
  | k + 1, rows, left, p, q, out, x => if x < ((rd_L1 rows 0).length : Int) then (if 0 ≤ x then (if x < ((rd_L1 rows p).length : Int) then (if x < ((rd_L1 rows q).length : Int) then ((reset_of.f (rd (rd_L1 rows p) x) (rd (rd_L1 rows q) x)).bind fun c2 =>
      if inP rows.length c2.1 c2.2 = true then (if (lkP c2 left).isSome = true then (if (lkP c2 left).getD 0 = wrap64 ((lkP (p, q) left).getD 0 - 1) then (if out.length < 17592186044416 then merger_word.l0 k rows left c2.1 c2.2 (out ++ [x]) else none) else merger_word.l1 k rows left p q out (wrap64 (x + 1))) else merger_word.l1 k rows left p q out (wrap64 (x + 1))) else none) else none) else none) else none) else merger_word.l0 k rows left p q out
end
def merger_word.f (k : Nat) (rows : List (List Int)) (left : List ((Int × Int) × Int)) (p q : Int) : Option (List Int × Bool) := if inP rows.length p q = true then (if (lkP (p, q) left).isSome = true then merger_word.l0 k rows left p q [] else some ([], false)) else none
theorem inPG {n : Nat} {p q : Int} (hn : n ≤ 9223372036854775807) (h : inP n p q = true) : (0 ≤ p ∧ p < n ∧ 0 ≤ q ∧ q < n) ∧ PairG (encP (p, q)) := by
  have h1 : 0 ≤ p ∧ p < n ∧ 0 ≤ q ∧ q < n := of_decide_eq_true h
  exact ⟨h1, pairG (by omega) (by omega) (by omega) (by omega)⟩

set_option maxHeartbeats 4000000 in
set_option maxRecDepth 100000 in
theorem merger_word.calls (k : Nat) (A0_0 : Option Addr) (c0_0 : Nat) (l0_0 : List (List Int)) (left : List ((Int × Int) × Int)) (M b : Nat) (p q : Int) (r1 : List Int) (r2 : Bool) (w : World) (hR : Kd.C (Kd.slice 3 (Kd.int .i64)) w A0_0 l0_0.length l0_0) (hc0 : l0_0.length ≤ c0_0)
    (hM : w.heap[M]? = some (.cells #[.slice A0_0 l0_0.length c0_0, .map (some b)] 100 (0, 0))) (hL : MapIs PairG encP w b (lv left)) (h : merger_word.f k l0_0 left p q = some (r1, r2)) :
    Calls Try.prog 52 #[.pointer (some ⟨M, 0, none⟩), .agg #[.int .i64 p, .int .i64 q]] w fun e w' => ∃ v0_ : Value, e = .returned (.tuple #[v0_, .bool r2]) ∧ Kd.R (Kd.int .i64) 3 w' w.heap.size (fun _ => True) v0_ r1 ∧ Below w.heap.size w w' := by
  have hnm : l0_0.length ≤ 9223372036854775807 := hR.2.1
  have HNM := Aside0.mk hnm
  have HR := Aside0.mk hR
  have HC := Aside0.mk hc0
  have HM := Aside0.mk hM
  have HL := Aside0.mk hL
  have HB0 := Below.refl w.heap.size w
  clear hR hc0 hM hL
  have H := h
  clear h
  unfold merger_word.f at H
  by_cases e1 : inP l0_0.length p q = true
  · rw [if_pos e1] at H
    obtain ⟨hpq, hG⟩ := inPG hnm e1
    have HG := Aside0.mk hG
    clear hG hpq hnm
    by_cases e2 : (lkP (p, q) left).isSome = true
    · rw [if_pos e2] at H
      have H' := Aside0.mk H
      clear H e1
      go_enter Try.func52, Try.ntmps52
      go_wp2_with ((with_reducible refine gate_dst (N := 3) rfl ?_); refine box_event ?hg (N := 3) ?hd (cs := #[.int .i64 p, .int .i64 q]) (t := 74) ?hr ?_; (case hd => rfl); (case hg => rfl); (case hr => first | (go_simp; done) | (go_simp; rfl)); intro B hBe w1 hbox hb1;  have HBx := Aside0.mk hbox; have HB1 := Aside0.mk (below_step HB0 hb1); have HBE := Aside0.mk (show w.heap.size ≤ B by omega);  have hc0 : w1.cell? ⟨B, 0, none⟩ = some (.int .i64 p) := (blk_cell hbox 0).trans rfl; have hc1 : w1.cell? ⟨B, 1, none⟩ = some (.int .i64 q) := (blk_cell hbox 1).trans rfl;  have hm1 : w1.cell? ⟨M, 1, none⟩ = some (.map (some b)) := (blk_cell (blk_below HM.out HB1.out) 1).trans rfl;  have hlk := look_leftN (MapIs.below HL.out HB1.out) HG.out true; simp only [if_true, e2] at hlk; clear hbox hb1 hBe)
      go_quiet (fail)
      clear hc0 hc1 hm1 hlk
      go_wp2_with fail
      go_loopg [8] k (fun kq v8 w' => ∃ (p1 q1 : Int) (out : List Int), Aside0 (merger_word.l0 kq l0_0 left p1 q1 out = some (r1, r2)) ∧ Aside0 (kq ≤ k) ∧ Aside0 (w'.heap[B]? = some (.cells #[.int .i64 p1, .int .i64 q1] 74 (0, 0))) ∧ Aside0 (Kd.R (Kd.int .i64) 3 w' w.heap.size (fun _ => True) v8 out) ∧ Aside0 (Below w.heap.size w w'))
      case atStart => exact ⟨p, q, [], H', ⟨Nat.le_refl _⟩, ⟨blk_drewN HBx.out nq⟩, ⟨Kd.R_nil _ _ _ _ _⟩, ⟨pw_below_drewN HB1.out nq⟩⟩
      case round =>
        clear H'
        obtain ⟨p1, q1, out, HA, HK, HBr, HO, HBw⟩ := hrel
        cases gk with
        | zero => exact absurd HA.out (by simp [merger_word.l0])
        | succ k1 =>
          have H := HA.out
          clear HA
          simp only [merger_word.l0] at H
          by_cases d1 : inP l0_0.length p1 q1 = true
          · rw [if_pos d1] at H
            obtain ⟨hpq1, hG1⟩ := inPG HNM.out d1
            have HG1 := Aside0.mk hG1
            have hc0 : wr.cell? ⟨B, 0, none⟩ = some (.int .i64 p1) := (blk_cell HBr.out 0).trans rfl
            have hc1 : wr.cell? ⟨B, 1, none⟩ = some (.int .i64 q1) := (blk_cell HBr.out 1).trans rfl
            have hm1 : wr.cell? ⟨M, 1, none⟩ = some (.map (some b)) := (blk_cell (blk_below HM.out HBw.out) 1).trans rfl
            have hm0 : wr.cell? ⟨M, 0, none⟩ = some (.slice A0_0 l0_0.length c0_0) := (blk_cell (blk_below HM.out HBw.out) 0).trans rfl
            have hlk := look_leftN (MapIs.below HL.out HBw.out) hG1 false
            rw [if_neg (by decide)] at hlk
            clear hG1
            by_cases d2 : (lkP (p1, q1) left).getD 0 > 0
            · rw [if_pos d2] at H
              have d2b : decide (0 < (lkP (p1, q1) left).getD 0) = true := decide_eq_true d2
              have H' := Aside0.mk H
              have HPQ := Aside0.mk hpq1
              have hpos : 0 < l0_0.length := by omega
              have HLet : Aside0 (auto_Letters.f l0_0 = some ((rd_L1 l0_0 0).length : Int)) := ⟨by unfold auto_Letters.f; rw [if_pos (by omega)]⟩
              clear H d2 hpq1 hpos d1
              go_wp2_with fail
              go_quiet (fail)
              go_wp2_with fail
              refine (auto_Letters.calls _ _ l0_0 _ _ (Kd.C_below HR.out (pw_below_drewN HBw.out nq)) HC.out HLet.out).mono ?_
              rintro e w3 ⟨rfl, hb3⟩
              have HB3 := Aside0.mk (below_step (pw_below_drewN HBw.out nq) hb3)
              have HBr3 := Aside0.mk (blk_below (blk_drewN HBr.out nq) hb3)
              have HO3 := Aside0.mk (Kd.R_below (Kd.R_drewN HO.out nq) hb3)
              clear hb3 hc0 hc1 hm0 hm1 hlk
              go_wp2_with fail
              go_loopg [8, 36] k1 (fun kq v8 v36 w' => ∃ (x : Int), v36 = .int .i64 x ∧ Aside0 (merger_word.l1 kq l0_0 left p1 q1 out x = some (r1, r2)) ∧ Aside0 (kq ≤ k1) ∧ Aside0 (w'.heap[B]? = some (.cells #[.int .i64 p1, .int .i64 q1] 74 (0, 0))) ∧ Aside0 (Kd.R (Kd.int .i64) 3 w' w.heap.size (fun _ => True) v8 out) ∧ Aside0 (Below w.heap.size w w'))
              case atStart => exact ⟨0, rfl, H', ⟨Nat.le_refl _⟩, HBr3, HO3, HB3⟩
              case round =>
                clear H' HBr3 HO3 HB3 HBr HO HBw
                obtain ⟨x, rfl, HA, HKj, HBr, HO, HBw⟩ := hrel
                cases gk with
                | zero => exact absurd HA.out (by simp [merger_word.l1])
                | succ kj =>
                  have H := HA.out
                  clear HA
                  simp only [merger_word.l1] at H
                  by_cases f1 : x < ((rd_L1 l0_0 0).length : Int)
                  · rw [if_pos f1] at H
                    by_cases f2 : 0 ≤ x
                    · rw [if_pos f2] at H
                      by_cases f3 : x < ((rd_L1 l0_0 p1).length : Int)
                      · rw [if_pos f3] at H
                        by_cases f4 : x < ((rd_L1 l0_0 q1).length : Int)
                        · rw [if_pos f4] at H
                          obtain ⟨⟨t1, t2⟩, hof, H⟩ := Option.bind_eq_some_iff.mp H
                          simp only at H
                          by_cases f5 : inP l0_0.length t1 t2 = true
                          · rw [if_pos f5] at H
                            have hG2 := (inPG HNM.out f5).2
                            have HG2 := Aside0.mk hG2
                            have HSt := Aside0.mk (step_calls A0_0 c0_0 l0_0 M (.map (some b)) p1 q1 x t1 t2 wr (Kd.C_below HR.out HBw.out) (blk_below HM.out HBw.out) HPQ.out.1 HPQ.out.2.1 HPQ.out.2.2.1 HPQ.out.2.2.2 f2 f3 f4 hof)
                            have hc0 : wr.cell? ⟨B, 0, none⟩ = some (.int .i64 p1) := (blk_cell HBr.out 0).trans rfl
                            have hc1 : wr.cell? ⟨B, 1, none⟩ = some (.int .i64 q1) := (blk_cell HBr.out 1).trans rfl
                            have f1b := decide_eq_true f1
                            have H' := Aside0.mk H
                            clear H hof hG2 f1 f2 f3 f4 f5
                            go_wp2_with fail
                            refine HSt.out.mono ?_
                            rintro e w4 ⟨rfl, hb4⟩
                            have HB4 := Aside0.mk (below_step HBw.out hb4)
                            have HBr4 := Aside0.mk (blk_below HBr.out hb4)
                            have HO4 := Aside0.mk (Kd.R_below HO.out hb4)
                            clear hb4 hc0 hc1
                            go_wp2_with fail
                            obtain ⟨W5, hW5⟩ : ∃ W5, W5 = w4.alloc (.cells #[.int .i64 t1, .int .i64 t2] 74) := ⟨_, rfl⟩
                            have hb5 : Below w4.heap.size w4 W5 := by rw [hW5]; exact below_alloc (Below.refl _ _) _
                            have hT5 : W5.heap[w4.heap.size]? = some (.cells #[.int .i64 t1, .int .i64 t2] 74 (0, 0)) := by rw [hW5]; exact blk_new _ _
                            rw [← hW5]
                            have HT5 := Aside0.mk hT5
                            have HB5 := Aside0.mk (below_step HB4.out hb5)
                            have HBr5 := Aside0.mk (blk_below HBr4.out hb5)
                            have HO5 := Aside0.mk (Kd.R_below HO4.out hb5)
                            clear hb5 hT5 hW5
                            generalize w4.heap.size = T at HT5 ⊢
                            have ht0 : W5.cell? ⟨T, 0, none⟩ = some (.int .i64 t1) := (blk_cell HT5.out 0).trans rfl
                            have ht1 : W5.cell? ⟨T, 1, none⟩ = some (.int .i64 t2) := (blk_cell HT5.out 1).trans rfl
                            have hm1 : W5.cell? ⟨M, 1, none⟩ = some (.map (some b)) := (blk_cell (blk_below HM.out HB5.out) 1).trans rfl
                            have hlk := look_leftN (MapIs.below HL.out HB5.out) HG2.out true
                            cases hs : (lkP (t1, t2) left).isSome with
                            | false =>
                              have H := H'.out
                              rw [if_neg (by rw [hs]; decide)] at H
                              have H' := Aside0.mk H
                              clear H
                              simp only [if_true, hs] at hlk
                              go_quiet (fail)
                              clear ht0 ht1 hm1 hlk
                              go_wp2_with fail
                              repeat (go_quiet (fail); try go_wp2_with fail)
                              go_roundg kj
                              case measure => omega
                              case rel => exact ⟨_, rfl, H', ⟨by have := HKj.out; omega⟩, ⟨by (with_reducible repeat (first | refine blk_drewN ?_ _)); exact HBr5.out⟩, ⟨by (with_reducible repeat (first | apply Kd.R_drewN)); exact HO5.out⟩, ⟨by (with_reducible repeat (first | apply pw_below_drewN)); exact HB5.out⟩⟩
                            | true =>
                              have H := H'.out
                              rw [if_pos hs] at H
                              simp only [if_true, hs] at hlk
                              go_quiet (fail)
                              obtain ⟨W6, hW6⟩ : ∃ W6, W6 = W5.drewN nq := ⟨_, rfl⟩
                              rw [← hW6]
                              have HT6 := Aside0.mk (show W6.heap[T]? = some (.cells #[.int .i64 t1, .int .i64 t2] 74 (0, 0)) by rw [hW6]; exact blk_drewN HT5.out nq)
                              have HB6 := Aside0.mk (show Below w.heap.size w W6 by rw [hW6]; exact pw_below_drewN HB5.out nq)
                              have HBr6 := Aside0.mk (show W6.heap[B]? = some (.cells #[.int .i64 p1, .int .i64 q1] 74 (0, 0)) by rw [hW6]; exact blk_drewN HBr5.out nq)
                              have HO6 := Aside0.mk (show Kd.R (Kd.int .i64) 3 W6 w.heap.size (fun _ => True) _ out by rw [hW6]; exact Kd.R_drewN HO5.out nq)
                              clear ht0 ht1 hm1 hlk hW6 HB5 HBr5 HO5 HT5
                              have hb0 : W6.cell? ⟨B, 0, none⟩ = some (.int .i64 p1) := (blk_cell HBr6.out 0).trans rfl
                              have hb1 : W6.cell? ⟨B, 1, none⟩ = some (.int .i64 q1) := (blk_cell HBr6.out 1).trans rfl
                              have hm1 : W6.cell? ⟨M, 1, none⟩ = some (.map (some b)) := (blk_cell (blk_below HM.out HB6.out) 1).trans rfl
                              have hlk := look_leftN (MapIs.below HL.out HB6.out) (inPG HNM.out (decide_eq_true HPQ.out)).2 false
                              rw [if_neg (by decide)] at hlk
                              by_cases g1 : (lkP (t1, t2) left).getD 0 = wrap64 ((lkP (p1, q1) left).getD 0 - 1)
                              · rw [if_pos g1] at H
                                have g1b : ((lkP (t1, t2) left).getD 0 == wrap64 ((lkP (p1, q1) left).getD 0 - 1)) = true := beq_iff_eq.mpr g1
                                by_cases g2 : out.length < 17592186044416
                                · rw [if_pos g2] at H
                                  have G2 := Aside0.mk g2
                                  have H' := Aside0.mk H
                                  clear H g1 g2
                                  go_wp2_with fail
                                  go_quiet (fail)
                                  obtain ⟨W7, hW7⟩ : ∃ W7, W7 = W6.drewN nq := ⟨_, rfl⟩
                                  rw [← hW7]
                                  have HT7 := Aside0.mk (show W7.heap[T]? = some (.cells #[.int .i64 t1, .int .i64 t2] 74 (0, 0)) by rw [hW7]; exact blk_drewN HT6.out nq)
                                  have HB7 := Aside0.mk (show Below w.heap.size w W7 by rw [hW7]; exact pw_below_drewN HB6.out nq)
                                  have HBr7 := Aside0.mk (show W7.heap[B]? = some (.cells #[.int .i64 p1, .int .i64 q1] 74 (0, 0)) by rw [hW7]; exact blk_drewN HBr6.out nq)
                                  have HO7 := Aside0.mk (show Kd.R (Kd.int .i64) 3 W7 w.heap.size (fun _ => True) _ out by rw [hW7]; exact Kd.R_drewN HO6.out nq)
                                  clear hb0 hb1 hm1 hlk hW7 HB6 HBr6 HO6 HT6
                                  go_wp2_with ((with_reducible refine gate_builtin (b := .append) (xs := #[.tmp 64, .tmp 66]) rfl ?_); at_builtin; refine Kd.R_append (Kd.int .i64) (w0 := w) w.heap.size rfl (.tmp 64) (.tmp 66) 34 3 (.int .i64 0) 8 rfl Try.underlying34 info3 rfl (by decide) (by omega) u8 out x [.int .i64 x] (fun _ => True) (fun _ => False) rfl rfl ?aP (fun _ hk => hk.elim) ?aF ?aO ?aB ?aS ?aL ?_; (case aP => exact rfl); (case aB => exact (by repeat (first | (with_reducible first | exact HB7.out | apply below_alloc | apply pw_below_drewN | apply below_drew1) | exact HB7.out))); (case aF => exact (fun _ _ => trivial)); (case aO => exact (by (with_reducible repeat (first | apply Kd.R_alloc | apply Kd.R_drewN | apply Kd.R_drew)); exact HO7.out)); (case aS => exact (below_size (by repeat (first | (with_reducible first | exact HB7.out | apply below_alloc | apply pw_below_drewN | apply below_drew1) | exact HB7.out)))); (case aL => have := G2.out; omega); intro v8 w8 ho hb hg hat;  have HO8 := Aside0.mk ho; have HB8 := Aside0.mk hb;  have HBr8 := Aside0.mk (blk_grown HBr7.out hg (Kd.R_ne HO7.out HBr7.out (by decide)));  have HT8 := Aside0.mk (blk_grown HT7.out hg (Kd.R_ne HO7.out HT7.out (by decide)));  have ht0 : w8.cell? ⟨T, 0, none⟩ = some (.int .i64 t1) := (blk_cell HT8.out 0).trans rfl; have ht1 : w8.cell? ⟨T, 1, none⟩ = some (.int .i64 t2) := (blk_cell HT8.out 1).trans rfl;  have hb0 : w8.cell? ⟨B, 0, none⟩ = some (.int .i64 p1) := (blk_cell HBr8.out 0).trans rfl; have hb1 : w8.cell? ⟨B, 1, none⟩ = some (.int .i64 q1) := (blk_cell HBr8.out 1).trans rfl;  have hf0 := blk_frozen HBr8.out 0; have hf1 := blk_frozen HBr8.out 1; clear ho hb hg hat)
                                  go_roundg kj
                                  case measure => have := HK.out; have := HKj.out; omega
                                  case rel => exact ⟨t1, t2, out ++ [x], H', ⟨by have := HK.out; have := HKj.out; omega⟩, ⟨by refine blk_put (cs := #[.int .i64 t1, .int .i64 q1]) ?_ 1 _ rfl; refine blk_put (cs := #[.int .i64 p1, .int .i64 q1]) ?_ 0 _ rfl; exact HBr8.out⟩, ⟨by refine Kd.R_set ?_ (blk_put (cs := #[.int .i64 p1, .int .i64 q1]) HBr8.out 0 _ rfl) (by decide) 1 _; exact Kd.R_set HO8.out HBr8.out (by decide) 0 _⟩, ⟨below_set (below_set HB8.out HBE.out) HBE.out⟩⟩
                                · rw [if_neg g2] at H; exact absurd H (by simp)
                              · rw [if_neg g1] at H
                                have g1b : ((lkP (t1, t2) left).getD 0 == wrap64 ((lkP (p1, q1) left).getD 0 - 1)) = false := beq_eq_false_iff_ne.mpr g1
                                have H' := Aside0.mk H
                                clear H g1
                                go_wp2_with fail
                                repeat (go_quiet (fail); try go_wp2_with fail)
                                go_roundg kj
                                case measure => omega
                                case rel => exact ⟨_, rfl, H', ⟨by have := HKj.out; omega⟩, ⟨by (with_reducible repeat (first | refine blk_drewN ?_ _)); exact HBr6.out⟩, ⟨by (with_reducible repeat (first | apply Kd.R_drewN)); exact HO6.out⟩, ⟨by (with_reducible repeat (first | apply pw_below_drewN)); exact HB6.out⟩⟩
                          · rw [if_neg f5] at H; exact absurd H (by simp)
                        · rw [if_neg f4] at H; exact absurd H (by simp)
                      · rw [if_neg f3] at H; exact absurd H (by simp)
                    · rw [if_neg f2] at H; exact absurd H (by simp)
                  · rw [if_neg f1] at H
                    have H' := Aside0.mk H
                    have f1b := decide_eq_false f1
                    clear H f1
                    go_wp2_with fail
                    go_roundg kj
                    case measure => have := HK.out; have := HKj.out; omega
                    case rel => exact ⟨p1, q1, out, H', ⟨by have := HK.out; have := HKj.out; omega⟩, HBr, HO, HBw⟩
            · rw [if_neg d2] at H
              simp only [Option.some.injEq, Prod.mk.injEq] at H
              obtain ⟨rfl, rfl⟩ := H
              have d2b : decide (0 < (lkP (p1, q1) left).getD 0) = false := decide_eq_false d2
              clear d2 d1 hpq1
              go_wp2_with fail
              go_quiet (fail)
              go_wp2
              go_ret2
              exact ⟨_, rfl, Kd.R_drewN HO.out nq, pw_below_drewN HBw.out nq⟩
          · rw [if_neg d1] at H; exact absurd H (by simp)
    · rw [if_neg e2] at H
      simp only [Option.some.injEq, Prod.mk.injEq] at H
      obtain ⟨rfl, rfl⟩ := H
      have e2' : (lkP (p, q) left).isSome = false := Bool.eq_false_iff.mpr e2
      clear e2 e1
      go_enter Try.func52, Try.ntmps52
      go_wp2_with ((with_reducible refine gate_dst (N := 3) rfl ?_); refine box_event ?hg (N := 3) ?hd (cs := #[.int .i64 p, .int .i64 q]) (t := 74) ?hr ?_; (case hd => rfl); (case hg => rfl); (case hr => first | (go_simp; done) | (go_simp; rfl)); intro B hBe w1 hbox hb1;  have HBx := Aside0.mk hbox; have HB1 := Aside0.mk (below_step HB0 hb1);  have hc0 : w1.cell? ⟨B, 0, none⟩ = some (.int .i64 p) := (blk_cell hbox 0).trans rfl; have hc1 : w1.cell? ⟨B, 1, none⟩ = some (.int .i64 q) := (blk_cell hbox 1).trans rfl;  have hm1 : w1.cell? ⟨M, 1, none⟩ = some (.map (some b)) := (blk_cell (blk_below HM.out HB1.out) 1).trans rfl;  have hlk := look_leftN (MapIs.below HL.out HB1.out) HG.out true; simp only [if_true, e2'] at hlk; clear hbox hb1 hBe)
      go_quiet (fail)
      go_wp2
      go_ret2
      exact ⟨_, rfl, Kd.R_nil _ _ _ _ _, pw_below_drewN HB1.out nq⟩
  · rw [if_neg e1] at H; exact absurd H (by simp)
end Go.Proofs.Ytcpmmkennnjalaa.Q
end
section
namespace Go.Proofs.Ytcpmmkennnjalaa.Q
open Go.RowKit Go.Proofs.YtcpmmkennnjalaaW.PrintWords Go.Proofs.YtcpmmkennnjalaaW.PrintLast Go.Proofs.YtcpmmkennnjalaaW.PrintMore
set_option linter.unusedVariables false
set_option linter.unusedSimpArgs false
mutual
def merger_nearest.l0 : Nat → Nat → List ((Int × Int) × Int) → List Int → Int → Int → Bool → Int → Option (Int × Int × Bool)
  | 0, _, _, _, _, _, _, _ => none
  | k + 1, n, left, set, b1, b2, fd, i => if i < (set.length : Int) then (if 0 ≤ i then merger_nearest.l1 k n left set b1 b2 fd i (rd set i) (set.drop (i.toNat + 1)) 0 else none) else some (b1, b2, true)
def merger_nearest.l1 : Nat → Nat → List ((Int × Int) × Int) → List Int → Int → Int → Bool → Int → Int → List Int → Int → Option (Int × Int × Bool)
  | 0, _, _, _, _, _, _, _, _, _, _ => none
  | k + 1, n, left, set, b1, b2, fd, i, p, rest, j => if j < (rest.length : Int) then (if 0 ≤ j then (if inP n p (rd rest j) = true then (if (lkP (p, rd rest j) left).isSome = true then
      (if fd = true then (if inP n b1 b2 = true then (if (lkP (p, rd rest j) left).getD 0 < (lkP (b1, b2) left).getD 0 then merger_nearest.l1 k n left set p (rd rest j) true i p rest (wrap64 (j + 1)) else merger_nearest.l1 k n left set b1 b2 true i p rest (wrap64 (j + 1))) else none)
        else merger_nearest.l1 k n left set p (rd rest j) true i p rest (wrap64 (j + 1))) else some (0, 0, false)) else none) else none) else merger_nearest.l0 k n left set b1 b2 fd (wrap64 (i + 1))
end
def merger_nearest.f (k : Nat) (n : Nat) (left : List ((Int × Int) × Int)) (set : List Int) : Option (Int × Int × Bool) := if n ≤ 9223372036854775807 then merger_nearest.l0 k n left set 0 0 false 0 else none

set_option maxHeartbeats 4000000 in
set_option maxRecDepth 100000 in
theorem merger_nearest.calls (k n : Nat) (left : List ((Int × Int) × Int)) (M b : Nat) (v0 : Value) (A1 : Option Addr) (c1 : Nat) (set : List Int) (r1 r2 : Int) (r3 : Bool) (w : World)
    (hM : w.heap[M]? = some (.cells #[v0, .map (some b)] 100 (0, 0))) (hL : MapIs PairG encP w b (lv left)) (hS : Kd.C (Kd.int .i64) w A1 set.length set) (hc1 : set.length ≤ c1) (h : merger_nearest.f k n left set = some (r1, r2, r3)) :
    Calls Try.prog 51 #[.pointer (some ⟨M, 0, none⟩), .slice A1 set.length c1] w fun e w' => e = .returned (.tuple #[.agg #[.int .i64 r1, .int .i64 r2], .bool r3]) ∧ Below w.heap.size w w' := by
  have HM := Aside0.mk hM
  have HL := Aside0.mk hL
  have HS := Aside0.mk hS
  have HC1 := Aside0.mk hc1
  have HB0 := Below.refl w.heap.size w
  clear hM hL hS hc1
  unfold merger_nearest.f at h
  by_cases hn : n ≤ 9223372036854775807
  · rw [if_pos hn] at h
    have HN := Aside0.mk hn
    have H' := Aside0.mk h
    clear h hn
    go_enter Try.func51, Try.ntmps51
    go_wp2_with ((with_reducible refine gate_dst (N := 4) rfl ?_); refine box_event ?hg (N := 4) ?hd (cs := #[.int .i64 0, .int .i64 0]) (t := 74) ?hr ?_; (case hd => rfl); (case hg => rfl); (case hr => first | (go_simp; done) | (go_simp; rfl)); intro O hOe w1 hbox hb1;  have HOx := Aside0.mk hbox; have HB1 := Aside0.mk (below_step HB0 hb1); have HOE := Aside0.mk (show w.heap.size ≤ O by omega); clear hbox hb1 hOe)
    obtain ⟨W2, hW2⟩ : ∃ W2, W2 = w1.alloc (.cells #[.int .i64 0, .int .i64 0] 74) := ⟨_, rfl⟩
    have hb2 : Below w1.heap.size w1 W2 := by rw [hW2]; exact below_alloc (Below.refl _ _) _
    have hB2 : W2.heap[w1.heap.size]? = some (.cells #[.int .i64 0, .int .i64 0] 74 (0, 0)) := by rw [hW2]; exact blk_new _ _
    rw [← hW2]
    have HBx := Aside0.mk hB2
    have HO2 := Aside0.mk (blk_below HOx.out hb2)
    have HB2 := Aside0.mk (below_step HB1.out hb2)
    have HBE := Aside0.mk (show w.heap.size ≤ w1.heap.size from HB1.out.size)
    have HOB := Aside0.mk (show O ≠ w1.heap.size from fun e => by have := blk_lt HOx.out; omega)
    clear hb2 hB2 hW2
    generalize w1.heap.size = B at HBx HBE HOB ⊢
    go_loopg [5, 7, 17] k (fun kq v5 v7 v17 w' => ∃ (b1 b2 i : Int) (fd : Bool), v5 = .bool false ∧ v7 = .bool fd ∧ v17 = .int .i64 i ∧ Aside0 (merger_nearest.l0 kq n left set b1 b2 fd i = some (r1, r2, r3)) ∧ Aside0 (kq ≤ k) ∧ Aside0 (w'.heap[O]? = some (.cells #[.int .i64 0, .int .i64 0] 74 (0, 0))) ∧ Aside0 (w'.heap[B]? = some (.cells #[.int .i64 b1, .int .i64 b2] 74 (0, 0))) ∧ Aside0 (Below w.heap.size w w'))
    case atStart => exact ⟨0, 0, 0, false, rfl, rfl, rfl, H', ⟨Nat.le_refl _⟩, HO2, HBx, HB2⟩
    case round =>
      clear H' HO2 HBx HB2
      obtain ⟨b1, b2, i, fd, rfl, rfl, rfl, HA, HK, HOr, HBr, HBw⟩ := hrel
      cases gk with
      | zero => exact absurd HA.out (by simp [merger_nearest.l0])
      | succ k1 =>
        have H := HA.out
        clear HA
        simp only [merger_nearest.l0] at H
        by_cases d1 : i < (set.length : Int)
        · rw [if_pos d1] at H
          by_cases d2 : 0 ≤ i
          · rw [if_pos d2] at H
            obtain ⟨ad, e2, hxr⟩ := Kd.at_int (Kd.C_below HS.out HBw.out) i d2 d1
            subst e2
            have H' := Aside0.mk H
            have hw1 : wrap64 (i + 1) = i + 1 := by have := HS.out.2.1; unfold wrap64; omega
            have hs1 : (0 ≤ i + 1) = True := eq_true (by omega)
            have hs2 : (i + 1 ≤ (set.length : Int)) = True := eq_true (by omega)
            have hs3 : ((set.length : Int) ≤ (c1 : Int)) = True := eq_true (by have := HC1.out; omega)
            have d1b := decide_eq_true d1
            have q1 := eq_true d1
            have q2 := eq_true d2
            clear H
            have hrest : (set.drop (i.toNat + 1)).length = set.length - (i + 1).toNat := by rw [List.length_drop]; omega
            have hS1 := Kd.C_below HS.out HBw.out
            have HXi : Aside0 (∀ W : World, Below w.heap.size w W → ∀ j : Int, 0 ≤ j → j < ((set.drop (i.toNat + 1)).length : Int) → W.cell? ((ad.add (i + 1).toNat).add j.toNat) = some (.int .i64 (rd (set.drop (i.toNat + 1)) j))) := ⟨fun W hW j h0 h1 => by
              obtain ⟨ad', e', hx'⟩ := Kd.at_int (Kd.C_below HS.out hW) (i + 1 + j) (by omega) (by omega)
              cases e'
              have e1 : (ad.add (i + 1).toNat).add j.toNat = ad.add (i + 1 + j).toNat := by
                have h5 : (i + 1).toNat + j.toNat = (i + 1 + j).toNat := by omega
                have h7 : ¬ (i + 1).toNat = 0 := by omega
                have h8 : ¬ (i + 1 + j).toNat = 0 := by omega
                simp only [Addr.add, if_neg h7, if_neg h8]
                by_cases h9 : j.toNat = 0
                · rw [if_pos h9, ← h5, h9, Nat.add_zero]
                · rw [if_neg h9, ← h5, Nat.add_assoc]
              have e2 : rd (set.drop (i.toNat + 1)) j = rd set (i + 1 + j) := by
                show (set.drop (i.toNat + 1)).getD j.toNat 0 = set.getD (i + 1 + j).toNat 0
                rw [List.getD_eq_getElem?_getD, List.getD_eq_getElem?_getD, List.getElem?_drop]
                have h6 : i.toNat + 1 + j.toNat = (i + 1 + j).toNat := by omega
                rw [h6]
              rw [e1, e2]; exact hx'⟩
            have HXl : c1 = (i + 1).toNat → Aside0 (∀ W : World, Below w.heap.size w W → ∀ j : Int, 0 ≤ j → j < ((set.drop (i.toNat + 1)).length : Int) → W.cell? (ad.add j.toNat) = some (.int .i64 (rd (set.drop (i.toNat + 1)) j))) := fun hc => ⟨fun W hW j h0 h1 => by have := HC1.out; omega⟩
            clear d1 d2 hS1
            go_wp2_with fail
            case' inl => have HX := HXl h
            case' inr => have HX := HXi
            all_goals (clear HXl HXi; rw [← hrest])
            case' inl => rw [← h]
            case' inr => generalize ad.add (i + 1).toNat = X at HX ⊢
            all_goals (generalize set.drop (i.toNat + 1) = rest at HX H' ⊢; clear hrest)
            case' inr => generalize c1 - (i + 1).toNat = z2
            all_goals
              go_loopg [5, 7, 27] k1 (fun kq v5 v7 v27 w' => ∃ (b1 b2 j : Int) (fd : Bool), v5 = .bool false ∧ v7 = .bool fd ∧ v27 = .int .i64 j ∧ Aside0 (merger_nearest.l1 kq n left set b1 b2 fd i (rd set i) rest j = some (r1, r2, r3)) ∧ Aside0 (kq ≤ k1) ∧ Aside0 (w'.heap[O]? = some (.cells #[.int .i64 0, .int .i64 0] 74 (0, 0))) ∧ Aside0 (w'.heap[B]? = some (.cells #[.int .i64 b1, .int .i64 b2] 74 (0, 0))) ∧ Aside0 (Below w.heap.size w w'))
              case atStart => exact ⟨b1, b2, 0, fd, rfl, rfl, rfl, H', ⟨Nat.le_refl _⟩, HOr, HBr, HBw⟩
              case round =>
                clear H' HOr HBr HBw
                obtain ⟨b1, b2, j, fd, rfl, rfl, rfl, HA, HKj, HOr, HBr, HBw⟩ := hrel
                cases gk with
                | zero => exact absurd HA.out (by simp [merger_nearest.l1])
                | succ kj =>
                  have H := HA.out
                  clear HA
                  simp only [merger_nearest.l1] at H
                  by_cases f1 : j < (rest.length : Int)
                  · rw [if_pos f1] at H
                    by_cases f2 : 0 ≤ j
                    · rw [if_pos f2] at H
                      by_cases f3 : inP n (rd set i) (rd rest j) = true
                      · rw [if_pos f3] at H
                        have hG := (inPG HN.out f3).2
                        have hxj := HX.out wr HBw.out j f2 f1
                        have hm1 : wr.cell? ⟨M, 1, none⟩ = some (.map (some b)) := (blk_cell (blk_below HM.out HBw.out) 1).trans rfl
                        have hlk := look_left (MapIs.below HL.out HBw.out) hG true
                        have f1b := decide_eq_true f1
                        have g1' := eq_true f1
                        have g2' := eq_true f2
                        have HF := Aside0.mk f1
                        clear f1 f2 f3 hG
                        cases hs : (lkP (rd set i, rd rest j) left).isSome with
                        | false =>
                          rw [if_neg (by rw [hs]; decide)] at H
                          simp only [Option.some.injEq, Prod.mk.injEq] at H
                          obtain ⟨rfl, rfl, rfl⟩ := H
                          simp only [if_true, hs] at hlk
                          have ho0 : wr.cell? ⟨O, 0, none⟩ = some (.int .i64 0) := (blk_cell HOr.out 0).trans rfl
                          have ho1 : wr.cell? ⟨O, 1, none⟩ = some (.int .i64 0) := (blk_cell HOr.out 1).trans rfl
                          have hf0 := blk_frozen HOr.out 0
                          have hf1 := blk_frozen HOr.out 1
                          go_wp2
                          refine bodyPost_ret (results_ct rfl _ _ O 74 #[.int .i64 0, .int .i64 0] (0, 0) _ rfl (by refine blk_put (cs := #[.int .i64 0, .int .i64 0]) ?_ 1 _ rfl; refine blk_put (cs := #[.int .i64 0, .int .i64 0]) ?_ 0 _ rfl; exact HOr.out) Try.underlying74 rfl (by kernel_rfl)) rfl ?_
                          exact ⟨rfl, below_set (below_set HBw.out HOE.out) HOE.out⟩
                        | true =>
                          rw [if_pos hs] at H
                          simp only [if_true, hs] at hlk
                          have hb0 : wr.cell? ⟨B, 0, none⟩ = some (.int .i64 b1) := (blk_cell HBr.out 0).trans rfl
                          have hb1 : wr.cell? ⟨B, 1, none⟩ = some (.int .i64 b2) := (blk_cell HBr.out 1).trans rfl
                          have hf0 := blk_frozen HBr.out 0
                          have hf1 := blk_frozen HBr.out 1
                          cases fd with
                          | false =>
                            rw [if_neg (by decide)] at H
                            have H' := Aside0.mk H
                            clear H
                            go_wp2_with fail
                            go_quiet (fail)
                            go_wp2_with fail
                            go_roundg kj
                            case measure => omega
                            case rel => exact ⟨rd set i, rd rest j, _, true, rfl, rfl, rfl, H', ⟨by have := HKj.out; omega⟩, ⟨(Below.heap_setCell _ _ _ _ HOB.out).trans ((Below.heap_setCell _ _ _ _ HOB.out).trans HOr.out)⟩, ⟨by refine blk_put (cs := #[.int .i64 (rd set i), .int .i64 b2]) ?_ 1 _ rfl; refine blk_put (cs := #[.int .i64 b1, .int .i64 b2]) ?_ 0 _ rfl; exact HBr.out⟩, ⟨below_set (below_set (pw_below_drewN HBw.out _) HBE.out) HBE.out⟩⟩
                          | true =>
                            rw [if_pos rfl] at H
                            by_cases e3 : inP n b1 b2 = true
                            · rw [if_pos e3] at H
                              have hlk2 := look_leftN (MapIs.below HL.out HBw.out) (inPG HN.out e3).2 false
                              rw [if_neg (by decide)] at hlk2
                              by_cases e4 : (lkP (rd set i, rd rest j) left).getD 0 < (lkP (b1, b2) left).getD 0
                              · rw [if_pos e4] at H
                                have e4b := decide_eq_true e4
                                have H' := Aside0.mk H
                                clear H e4
                                go_wp2_with fail
                                go_quiet (fail)
                                go_wp2_with fail
                                go_roundg kj
                                case measure => omega
                                case rel => exact ⟨rd set i, rd rest j, _, true, rfl, rfl, rfl, H', ⟨by have := HKj.out; omega⟩, ⟨(Below.heap_setCell _ _ _ _ HOB.out).trans ((Below.heap_setCell _ _ _ _ HOB.out).trans HOr.out)⟩, ⟨by refine blk_put (cs := #[.int .i64 (rd set i), .int .i64 b2]) ?_ 1 _ rfl; refine blk_put (cs := #[.int .i64 b1, .int .i64 b2]) ?_ 0 _ rfl; exact HBr.out⟩, ⟨below_set (below_set (pw_below_drewN HBw.out _) HBE.out) HBE.out⟩⟩
                              · rw [if_neg e4] at H
                                have e4b := decide_eq_false e4
                                have H' := Aside0.mk H
                                clear H e4
                                go_wp2_with fail
                                go_quiet (fail)
                                go_wp2_with fail
                                go_roundg kj
                                case measure => omega
                                case rel => exact ⟨b1, b2, _, true, rfl, rfl, rfl, H', ⟨by have := HKj.out; omega⟩, ⟨blk_drewN HOr.out _⟩, ⟨blk_drewN HBr.out _⟩, ⟨pw_below_drewN HBw.out _⟩⟩
                            · rw [if_neg e3] at H; exact absurd H (by simp)
                      · rw [if_neg f3] at H; exact absurd H (by simp)
                    · rw [if_neg f2] at H; exact absurd H (by simp)
                  · rw [if_neg f1] at H
                    have H' := Aside0.mk H
                    have f1b := decide_eq_false f1
                    clear H f1
                    go_wp2_with fail
                    go_roundg kj
                    case measure => have := HK.out; have := HKj.out; omega
                    case rel => exact ⟨b1, b2, wrap64 (i + 1), fd, rfl, rfl, rfl, H', ⟨by have := HK.out; have := HKj.out; omega⟩, HOr, HBr, HBw⟩
          · rw [if_neg d2] at H; exact absurd H (by simp)
        · rw [if_neg d1] at H
          simp only [Option.some.injEq, Prod.mk.injEq] at H
          obtain ⟨rfl, rfl, rfl⟩ := H
          have d1b := decide_eq_false d1
          have hb0 : wr.cell? ⟨B, 0, none⟩ = some (.int .i64 b1) := (blk_cell HBr.out 0).trans rfl
          have hb1 : wr.cell? ⟨B, 1, none⟩ = some (.int .i64 b2) := (blk_cell HBr.out 1).trans rfl
          have ho0 : wr.cell? ⟨O, 0, none⟩ = some (.int .i64 0) := (blk_cell HOr.out 0).trans rfl
          have ho1 : wr.cell? ⟨O, 1, none⟩ = some (.int .i64 0) := (blk_cell HOr.out 1).trans rfl
          have hf0 := blk_frozen HOr.out 0
          have hf1 := blk_frozen HOr.out 1
          clear d1
          go_wp2
          refine bodyPost_ret (results_ct rfl _ _ O 74 #[.int .i64 b1, .int .i64 b2] (0, 0) _ rfl (by refine blk_put (cs := #[.int .i64 b1, .int .i64 0]) ?_ 1 _ rfl; refine blk_put (cs := #[.int .i64 0, .int .i64 0]) ?_ 0 _ rfl; exact HOr.out) Try.underlying74 rfl (by kernel_rfl)) rfl ?_
          exact ⟨rfl, below_set (below_set HBw.out HOE.out) HOE.out⟩
  · rw [if_neg hn] at h; exact absurd h (by simp)
end Go.Proofs.Ytcpmmkennnjalaa.Q
end
section
namespace Go.Proofs.Ytcpmmkennnjalaa.Q
open Go.RowKit Go.Proofs.YtcpmmkennnjalaaW.PrintWords Go.Proofs.YtcpmmkennnjalaaW.PrintLast Go.Proofs.YtcpmmkennnjalaaW.PrintMore
set_option linter.unusedVariables false
/-! ### newMerger, as a function -/
/-- m.left[c] = d. -/
def putL (c : Int × Int) (d : Int) (left : List ((Int × Int) × Int)) : List ((Int × Int) × Int) := if (lkP c left).isSome then left.map (fun e => if e.1 = c then (c, d) else e) else left ++ [(c, d)]
theorem lv_putL (c : Int × Int) (d : Int) (left : List ((Int × Int) × Int)) : putM c (Value.int .i64 d) (lv left) = lv (putL c d left) := by
  unfold putM putL
  rw [lv_lookup]
  cases h : lkP c left with
  | none => simp [lv]
  | some n =>
    simp only [Option.map_some, Option.isSome_some, if_true, lv, List.map_map]
    apply List.map_congr_left
    intro e _
    simp only [Function.comp]
    split <;> rfl
/-- The pairs that a letter leads to a pair. -/
def lkB (c : Int × Int) (before : List ((Int × Int) × List (Int × Int))) : Option (List (Int × Int)) := @List.lookup (Int × Int) (List (Int × Int)) instBEqOfDecidableEq c before
/-- before[c] = append(before[c], x). -/
def addB (c x : Int × Int) (before : List ((Int × Int) × List (Int × Int))) : List ((Int × Int) × List (Int × Int)) := if (lkB c before).isSome then before.map (fun e => if e.1 = c then (c, e.2 ++ [x]) else e) else before ++ [(c, [x])]
def rdP (l : List (Int × Int)) (i : Int) : Int × Int := l.getD i.toNat (0, 0)
mutual
def newMerger.b0 : Nat → List ((Int × Int) × Int) → List ((Int × Int) × List (Int × Int)) → List (Int × Int) → Int → Option (List ((Int × Int) × Int))
  | 0, _, _, _, _ => none
  | k + 1, left, before, list, i => if i < (list.length : Int) then (if 0 ≤ i then newMerger.b1 k left before list i ((lkB (rdP list i) before).getD []) 0 else none) else some left
def newMerger.b1 : Nat → List ((Int × Int) × Int) → List ((Int × Int) × List (Int × Int)) → List (Int × Int) → Int → List (Int × Int) → Int → Option (List ((Int × Int) × Int))
  | 0, _, _, _, _, _, _ => none
  | k + 1, left, before, list, i, cs, j => if j < (cs.length : Int) then (if 0 ≤ j then (if (lkP (rdP cs j) left).isSome = true then newMerger.b1 k left before list i cs (wrap64 (j + 1)) else (if i < (list.length : Int) then (if list.length < 8796093022208 then newMerger.b1 k (putL (rdP cs j) (wrap64 ((lkP (rdP list i) left).getD 0 + 1)) left) before (list ++ [rdP cs j]) i cs (wrap64 (j + 1)) else none) else none)) else none) else newMerger.b0 k left before list (wrap64 (i + 1))
end
mutual
def newMerger.l0 : Nat → List (List Int) → List ((Int × Int) × Int) → List ((Int × Int) × List (Int × Int)) → List (Int × Int) → Int → Option (List ((Int × Int) × Int))
  | 0, _, _, _, _, _ => none
  | k + 1, rows, left, before, list, p => if p < (rows.length : Int) then (if inP rows.length p p = true then (if list.length < 8796093022208 then newMerger.l1 k rows (putL (p, p) 0 left) before (list ++ [(p, p)]) p (wrap64 (p + 1)) else none) else none) else newMerger.b0 k left before list 0
def newMerger.l1 : Nat → List (List Int) → List ((Int × Int) × Int) → List ((Int × Int) × List (Int × Int)) → List (Int × Int) → Int → Int → Option (List ((Int × Int) × Int))
  | 0, _, _, _, _, _, _ => none
  | k + 1, rows, left, before, list, p, q => if q < (rows.length : Int) then newMerger.l2 k rows left before list p q 0 else newMerger.l0 k rows left before list (wrap64 (p + 1))
def newMerger.l2 : Nat → List (List Int) → List ((Int × Int) × Int) → List ((Int × Int) × List (Int × Int)) → List (Int × Int) → Int → Int → Int → Option (List ((Int × Int) × Int))
  | 0, _, _, _, _, _, _, _ => none
  | k + 1, rows, left, before, list, p, q, x => if x < ((rd_L1 rows 0).length : Int) then (if 0 ≤ x then (if inP rows.length p q = true then (if x < ((rd_L1 rows p).length : Int) then (if x < ((rd_L1 rows q).length : Int) then ((reset_of.f (rd (rd_L1 rows p) x) (rd (rd_L1 rows q) x)).bind fun c2 =>
      if inP rows.length c2.1 c2.2 = true then (if ((lkB c2 before).getD []).length < 8796093022208 then newMerger.l2 k rows left (addB c2 (p, q) before) list p q (wrap64 (x + 1)) else none) else none) else none) else none) else none) else none) else newMerger.l1 k rows left before list p (wrap64 (q + 1))
end
def newMerger.f (k : Nat) (rows : List (List Int)) : Option (List ((Int × Int) × Int)) := newMerger.l0 k rows [] [] [] 0
end Go.Proofs.Ytcpmmkennnjalaa.Q
end
section
namespace Go.Proofs.Ytcpmmkennnjalaa.Q
open Go.RowKit Go.Proofs.YtcpmmkennnjalaaW.PrintWords Go.Proofs.YtcpmmkennnjalaaW.PrintLast Go.Proofs.YtcpmmkennnjalaaW.PrintMore
set_option linter.unusedVariables false
set_option linter.unusedSectionVars false
set_option linter.unusedSimpArgs false
/-! ### newMerger's memory, event by event -/
/-- A list of pairs. -/
def kP : Kd (Int × Int) := Kd.pair (Kd.int .i64) (Kd.int .i64)
theorem kP_E : kP.E = [] := rfl
abbrev RowB := (Int × Int) × Value × List (Int × Int)
def esB (B : List RowB) : List ((Int × Int) × Value) := B.map fun e => (e.1, e.2.1)
def lsB (B : List RowB) : List ((Int × Int) × List (Int × Int)) := B.map fun e => (e.1, e.2.2)
structure MI (w W : World) (A0 : Option Addr) (n c0 D M b b2 : Nat) (left : List ((Int × Int) × Int)) (B : List RowB) (v : Value) (list : List (Int × Int)) : Prop where
  below : Below w.heap.size w W
  bD : W.heap[D]? = some (.cells #[.slice A0 n c0] 24 (0, 0))
  bM : W.heap[M]? = some (.cells #[.slice A0 n c0, .map (some b)] 100 (0, 0))
  left : MapIs PairG encP W b (lv left)
  bef : MapIs PairG encP W b2 (esB B)
  ne : b ≠ b2
  hD : w.heap.size ≤ D
  hM : w.heap.size ≤ M
  hb : w.heap.size ≤ b
  hb2 : w.heap.size ≤ b2
  rows : ∀ p ∈ B, Kd.R kP 74 W w.heap.size (fun _ => True) p.2.1 p.2.2
  lst : Kd.R kP 74 W w.heap.size (fun _ => True) v list
  apart : B.Pairwise fun x y => NeRow x.2.1 y.2.1
  aparL : ∀ p ∈ B, NeRow v p.2.1
theorem row_not_map {W : World} {base b : Nat} {v : Value} {l : List (Int × Int)} (h : Kd.R kP 74 W base (fun _ => True) v l) {es : List ((Int × Int) × Value)} (hm : MapIs PairG encP W b es) : some b ≠ v.ownBlock := by
  intro e
  obtain ⟨cells, hc⟩ := Kd.R_typed h b e.symm
  obtain ⟨arr, ck, h2, _⟩ := hm
  rw [hc] at h2; cases h2
section
variable {w W W1 W2 : World} {A0 : Option Addr} {n c0 D M b b2 : Nat} {left left' : List ((Int × Int) × Int)} {B B' : List RowB} {v v1 : Value} {list list1 : List (Int × Int)}
theorem MI.next (h : MI w W A0 n c0 D M b b2 left B v list) (hb : Below W.heap.size W W1) : MI w W1 A0 n c0 D M b b2 left B v list :=
  ⟨below_step h.below hb, blk_below h.bD hb, blk_below h.bM hb, h.left.below hb, h.bef.below hb, h.ne, h.hD, h.hM, h.hb, h.hb2, fun p hp => Kd.R_below (h.rows p hp) hb, Kd.R_below h.lst hb, h.apart, h.aparL⟩
theorem MI.neDb (h : MI w W A0 n c0 D M b b2 left B v list) : some D ≠ some b ∧ some M ≠ some b ∧ some D ≠ some b2 ∧ some M ≠ some b2 := by
  refine ⟨fun e => ?_, fun e => ?_, fun e => ?_, fun e => ?_⟩ <;> injection e with e
  · exact h.left.ne h.bD e.symm
  · exact h.left.ne h.bM e.symm
  · exact h.bef.ne h.bD e.symm
  · exact h.bef.ne h.bM e.symm
theorem MI.leftTo (h : MI w W A0 n c0 D M b b2 left B v list) (hg : W.grownBy W1 (some b)) (hm : MapIs PairG encP W1 b (lv left')) : MI w W1 A0 n c0 D M b b2 left' B v list :=
  ⟨pw_below_grown h.below (some b) h.below.size hg (fun k e => by cases e; exact h.hb), blk_grown h.bD hg h.neDb.1, blk_grown h.bM hg h.neDb.2.1, hm, h.bef.kept hg (fun e => h.ne (by injection e with e; exact e.symm)), h.ne, h.hD, h.hM, h.hb, h.hb2,
    fun p hp => Kd.R_grown1 (h.rows p hp) kP_E hg (row_not_map (h.rows p hp) h.left), Kd.R_grown1 h.lst kP_E hg (row_not_map h.lst h.left), h.apart, h.aparL⟩
theorem MI.befTo (h : MI w W A0 n c0 D M b b2 left B v list) (hg : W.grownBy W1 (some b2)) (hm : MapIs PairG encP W1 b2 (esB B')) (hr : ∀ p ∈ B', p ∈ B ∨ p.2.1 = .slice none 0 0 ∧ p.2.2 = []) (ha : B'.Pairwise fun x y => NeRow x.2.1 y.2.1) : MI w W1 A0 n c0 D M b b2 left B' v list :=
  ⟨pw_below_grown h.below (some b2) h.below.size hg (fun k e => by cases e; exact h.hb2), blk_grown h.bD hg h.neDb.2.2.1, blk_grown h.bM hg h.neDb.2.2.2, h.left.kept hg (fun e => h.ne (by injection e with e)), hm, h.ne, h.hD, h.hM, h.hb, h.hb2,
    fun p hp => by
      rcases hr p hp with h1 | ⟨h1, h2⟩
      · exact Kd.R_grown1 (h.rows p h1) kP_E hg (row_not_map (h.rows p h1) h.bef)
      · rw [h1, h2]; exact Kd.R_nil _ _ _ _ _,
    Kd.R_grown1 h.lst kP_E hg (row_not_map h.lst h.bef), ha, fun p hp => by
      rcases hr p hp with h1 | ⟨h1, h2⟩
      · exact h.aparL p h1
      · rw [h1]; exact ne_nil' _⟩
theorem ne_R {u v : Value} {W : World} {base : Nat} {l : List (Int × Int)} {ok : Nat → Prop} (h : NeRow v u) (hR : Kd.R kP 74 W base ok u l) (hat : v1.ownBlock = v.ownBlock ∨ ∃ k, v1.ownBlock = some k ∧ W.heap.size ≤ k) : NeRow v1 u := by
  intro k hk hk'
  rcases hat with hat | ⟨k', hk1, hle⟩
  · exact h k (hat ▸ hk) hk'
  · have := Kd.R_lt hR k hk'
    rw [hk1] at hk; injection hk with hk; omega
/-- Behind a write into v's own row. -/
theorem R_apartTo {u v : Value} {W W1 : World} {base : Nat} {l : List (Int × Int)} (hR : Kd.R kP 74 W base (fun _ => True) u l) (h : NeRow v u) (hg : W.grownBy W1 v.ownBlock) : Kd.R kP 74 W1 base (fun _ => True) u l :=
  Kd.R_grown2 hR kP_E hg fun k hk e => h k hk e.symm
theorem MI.listTo (h : MI w W A0 n c0 D M b b2 left B v list) (hg : W.grownBy W1 v.ownBlock) (hR : Kd.R kP 74 W1 w.heap.size (fun _ => True) v1 list1) (hat : v1.ownBlock = v.ownBlock ∨ ∃ k, v1.ownBlock = some k ∧ W.heap.size ≤ k) : MI w W1 A0 n c0 D M b b2 left B v1 list1 :=
  ⟨pw_below_grown h.below _ h.below.size hg (fun k e => Kd.R_base h.lst k e), blk_grown h.bD hg (Kd.R_ne h.lst h.bD (by decide)), blk_grown h.bM hg (Kd.R_ne h.lst h.bM (by decide)), h.left.kept hg (row_not_map h.lst h.left), h.bef.kept hg (row_not_map h.lst h.bef), h.ne, h.hD, h.hM, h.hb, h.hb2,
    fun p hp => R_apartTo (h.rows p hp) (h.aparL p hp) hg, hR, h.apart, fun p hp => ne_R (h.aparL p hp) (h.rows p hp) hat⟩
/-- before[c] = append(before[c], ..): behind the append, and behind the entry's store. -/
theorem MI.app {B1 B2 : List RowB} {c : Int × Int} {u u1 : Value} {l l1 : List (Int × Int)} (h : MI w W A0 n c0 D M b b2 left (B1 ++ (c, u, l) :: B2) v list) (hg : W.grownBy W1 u.ownBlock) (hR : Kd.R kP 74 W1 w.heap.size (fun _ => True) u1 l1)
    (hat : u1.ownBlock = u.ownBlock ∨ ∃ k, u1.ownBlock = some k ∧ W.heap.size ≤ k) (hg2 : W1.grownBy W2 (some b2)) (hm : MapIs PairG encP W2 b2 (esB (B1 ++ (c, u1, l1) :: B2))) : MI w W2 A0 n c0 D M b b2 left (B1 ++ (c, u1, l1) :: B2) v list := by
  have hmem : (c, u, l) ∈ B1 ++ (c, u, l) :: B2 := List.mem_append_right _ List.mem_cons_self
  have hu := h.rows _ hmem
  have hap := h.apart
  rw [List.pairwise_append] at hap
  obtain ⟨a1, a2, a3⟩ := hap
  obtain ⟨a4, a5⟩ := List.pairwise_cons.1 a2
  have hbe : MapIs PairG encP W1 b2 (esB (B1 ++ (c, u, l) :: B2)) := h.bef.kept hg (row_not_map hu h.bef)
  have hle : MapIs PairG encP W1 b (lv left) := h.left.kept hg (row_not_map hu h.left)
  have hbD := blk_grown h.bD hg (Kd.R_ne hu h.bD (by decide))
  have hbM := blk_grown h.bM hg (Kd.R_ne hu h.bM (by decide))
  have far : ∀ p ∈ B1 ++ B2, NeRow u p.2.1 := fun p hp => by
    rcases List.mem_append.1 hp with h1 | h1
    · exact ne_symm (a3 p h1 (c, u, l) List.mem_cons_self)
    · exact a4 p h1
  have hin : ∀ p ∈ B1 ++ B2, p ∈ B1 ++ (c, u, l) :: B2 := fun p hp => by
    rcases List.mem_append.1 hp with h1 | h1
    · exact List.mem_append_left _ h1
    · exact List.mem_append_right _ (List.mem_cons_of_mem _ h1)
  have hrow : ∀ p ∈ B1 ++ B2, Kd.R kP 74 W1 w.heap.size (fun _ => True) p.2.1 p.2.2 := fun p hp => R_apartTo (h.rows p (hin p hp)) (far p hp) hg
  have hl1 : Kd.R kP 74 W1 w.heap.size (fun _ => True) v list := R_apartTo h.lst (ne_symm (h.aparL _ hmem)) hg
  have hbw := pw_below_grown h.below _ h.below.size hg (fun k e => Kd.R_base hu k e)
  have neb : some D ≠ some b2 ∧ some M ≠ some b2 := ⟨h.neDb.2.2.1, h.neDb.2.2.2⟩
  have far1 : ∀ p ∈ B1 ++ B2, NeRow u1 p.2.1 := fun p hp => ne_R (far p hp) (h.rows p (hin p hp)) hat
  have cases3 : ∀ p ∈ B1 ++ (c, u1, l1) :: B2, p = (c, u1, l1) ∨ p ∈ B1 ++ B2 := fun p hp => by
    rcases List.mem_append.1 hp with h1 | h1
    · exact Or.inr (List.mem_append_left _ h1)
    · rcases List.mem_cons.1 h1 with h2 | h2
      · exact Or.inl h2
      · exact Or.inr (List.mem_append_right _ h2)
  refine ⟨pw_below_grown hbw (some b2) hbw.size hg2 (fun k e => by cases e; exact h.hb2), blk_grown hbD hg2 neb.1, blk_grown hbM hg2 neb.2, hle.kept hg2 (fun e => h.ne (by injection e with e)), hm, h.ne, h.hD, h.hM, h.hb, h.hb2, ?_, Kd.R_grown1 hl1 kP_E hg2 (row_not_map hl1 hbe), ?_, ?_⟩
  · intro p hp
    rcases cases3 p hp with rfl | h1
    · exact Kd.R_grown1 hR kP_E hg2 (row_not_map hR hbe)
    · exact Kd.R_grown1 (hrow p h1) kP_E hg2 (row_not_map (hrow p h1) hbe)
  · rw [List.pairwise_append]
    refine ⟨a1, List.pairwise_cons.2 ⟨fun p hp => far1 p (List.mem_append_right _ hp), a5⟩, fun p hp q hq => ?_⟩
    rcases List.mem_cons.1 hq with rfl | h2
    · exact ne_symm (far1 p (List.mem_append_left _ hp))
    · exact a3 p hp q (List.mem_cons_of_mem _ h2)
  · intro p hp
    rcases cases3 p hp with rfl | h1
    · exact ne_symm (ne_R (ne_symm (h.aparL _ hmem)) h.lst hat)
    · exact h.aparL p (hin p h1)
end
/-! the entries as lists -/
theorem lsB_look (c : Int × Int) : ∀ B : List RowB, @List.lookup (Int × Int) Value instBEqOfDecidableEq c (esB B) = none ∧ lkB c (lsB B) = none ∧ (∀ p ∈ B, p.1 ≠ c) ∨
    ∃ B1 u l B2, B = B1 ++ (c, u, l) :: B2 ∧ (∀ p ∈ B1, p.1 ≠ c) ∧ @List.lookup (Int × Int) Value instBEqOfDecidableEq c (esB B) = some u ∧ lkB c (lsB B) = some l
  | [] => Or.inl ⟨rfl, rfl, fun p hp => nomatch hp⟩
  | (k, u, l) :: B => by
    by_cases h : c = k
    · subst h
      have hb : @BEq.beq (Int × Int) instBEqOfDecidableEq c c = true := decide_eq_true rfl
      refine Or.inr ⟨[], u, l, B, rfl, (fun p hp => nomatch hp), ?_, ?_⟩
      · show (match @BEq.beq (Int × Int) instBEqOfDecidableEq c c with | true => some u | false => @List.lookup (Int × Int) Value instBEqOfDecidableEq c (esB B)) = some u
        rw [hb]
      · show (match @BEq.beq (Int × Int) instBEqOfDecidableEq c c with | true => some l | false => lkB c (lsB B)) = some l
        rw [hb]
    · have hb : @BEq.beq (Int × Int) instBEqOfDecidableEq c k = false := decide_eq_false h
      have e1 : @List.lookup (Int × Int) Value instBEqOfDecidableEq c (esB ((k, u, l) :: B)) = @List.lookup (Int × Int) Value instBEqOfDecidableEq c (esB B) := by
        show (match @BEq.beq (Int × Int) instBEqOfDecidableEq c k with | true => some u | false => @List.lookup (Int × Int) Value instBEqOfDecidableEq c (esB B)) = _
        rw [hb]
      have e2 : lkB c (lsB ((k, u, l) :: B)) = lkB c (lsB B) := by
        show (match @BEq.beq (Int × Int) instBEqOfDecidableEq c k with | true => some l | false => lkB c (lsB B)) = _
        rw [hb]
      rw [e1, e2]
      rcases lsB_look c B with ⟨h1, h2, h3⟩ | ⟨B1, u', l', B2, h1, h2, h3, h4⟩
      · refine Or.inl ⟨h1, h2, fun p hp => ?_⟩
        rcases List.mem_cons.1 hp with rfl | hp
        · exact fun e => h e.symm
        · exact h3 p hp
      · refine Or.inr ⟨(k, u, l) :: B1, u', l', B2, by rw [h1]; rfl, fun p hp => ?_, h3, h4⟩
        rcases List.mem_cons.1 hp with rfl | hp
        · exact fun e => h e.symm
        · exact h2 p hp
theorem putE_at {B1 B2 : List RowB} {c : Int × Int} {u u1 : Value} {l l1 : List (Int × Int)} (h1 : ∀ p ∈ B1, p.1 ≠ c) (h2 : ∀ p ∈ B2, p.1 ≠ c) : (esB (B1 ++ (c, u, l) :: B2)).map (fun p => if p.1 = c then (c, u1) else p) = esB (B1 ++ (c, u1, l1) :: B2) := by
  have e : ∀ B : List RowB, (∀ p ∈ B, p.1 ≠ c) → (esB B).map (fun p => if p.1 = c then (c, u1) else p) = esB B := fun B hB => by
    unfold esB
    rw [List.map_map]
    exact List.map_congr_left fun p hp => by simp [hB p hp]
  have e2 := e B1 h1
  have e3 := e B2 h2
  simp only [esB, List.map_append, List.map_cons] at e2 e3 ⊢
  rw [e2, e3]; simp
theorem addB_at {B1 B2 : List RowB} {c x : Int × Int} {u u1 : Value} {l : List (Int × Int)} (h1 : ∀ p ∈ B1, p.1 ≠ c) (h2 : ∀ p ∈ B2, p.1 ≠ c) (hl : lkB c (lsB (B1 ++ (c, u, l) :: B2)) = some l) : addB c x (lsB (B1 ++ (c, u, l) :: B2)) = lsB (B1 ++ (c, u1, l ++ [x]) :: B2) := by
  have e : ∀ B : List RowB, (∀ p ∈ B, p.1 ≠ c) → (lsB B).map (fun e => if e.1 = c then (c, e.2 ++ [x]) else e) = lsB B := fun B hB => by
    unfold lsB
    rw [List.map_map]
    exact List.map_congr_left fun p hp => by simp [hB p hp]
  have e2 := e B1 h1
  have e3 := e B2 h2
  unfold addB
  rw [hl, if_pos (by rfl)]
  simp only [lsB, List.map_append, List.map_cons] at e2 e3 ⊢
  rw [e2, e3]; simp
theorem addB_new {B : List RowB} {c x : Int × Int} {u1 : Value} (h : lkB c (lsB B) = none) : addB c x (lsB B) = lsB (B ++ [(c, u1, [x])]) := by
  unfold addB; rw [h]; simp [lsB]
theorem zero_pairs (w : World) : (zeroValue 102).run Try.prog w = .ok (.slice none 0 0) w := by kernel_rfl
section
variable {w W W1 : World} {A0 : Option Addr} {n c0 D M b b2 : Nat} {left : List ((Int × Int) × Int)} {B : List RowB} {v : Value} {list : List (Int × Int)}
theorem MI.keys (h : MI w W A0 n c0 D M b b2 left B v list) : (B.map (·.1)).Nodup := by
  obtain ⟨_, _, _, _, _, hn, _⟩ := h.bef
  have e : (esB B).map (·.1) = B.map (·.1) := by unfold esB; rw [List.map_map]; rfl
  rwa [e] at hn
theorem keys_apart {B1 B2 : List RowB} {c : Int × Int} {u : Value} {l : List (Int × Int)} (h : ((B1 ++ (c, u, l) :: B2).map (·.1)).Nodup) : (∀ p ∈ B1, p.1 ≠ c) ∧ ∀ p ∈ B2, p.1 ≠ c := by
  rw [List.map_append, List.map_cons, List.nodup_append] at h
  obtain ⟨h1, h2, h3⟩ := h
  exact ⟨fun p hp => h3 p.1 (List.mem_map.2 ⟨p, hp, rfl⟩) c List.mem_cons_self, fun p hp e => (List.nodup_cons.1 h2).1 (List.mem_map.2 ⟨p, hp, e⟩)⟩
theorem MI.setLeft (h : MI w W A0 n c0 D M b b2 left B v list) {p q : Int} (hG : PairG (encP (p, q))) (d : Int) :
    ∃ W1, (Instr.mapUpdate 98 (.map (some b)) (.agg #[.int .i64 p, .int .i64 q]) (.int .i64 d)).run Try.prog W = .ok () W1 ∧ MI w W1 A0 n c0 D M b b2 (putL (p, q) d left) B v list ∧ W.grownBy W1 (some b) := by
  obtain ⟨W1, h1, h2, h3⟩ := MapIs.update (t := 98) h.left pair_keyOk encP_inj Try.underlying98 (p, q) hG (.int .i64 d)
  rw [lv_putL] at h2
  exact ⟨W1, h1, h.leftTo h3 h2, h3⟩
theorem MI.ask (h : MI w W A0 n c0 D M b b2 left B v list) {p q : Int} (hG : PairG (encP (p, q))) :
    ∃ (W1 : World) (born : Nat) (B1 B2 : List RowB) (u : Value) (l : List (Int × Int)), (Instr.mapEntry 101 (.map (some b2)) (.agg #[.int .i64 p, .int .i64 q])).run Try.prog W = .ok (.tuple #[u, .int .i64 (born : Int)]) W1 ∧ MI w W1 A0 n c0 D M b b2 left (B1 ++ ((p, q), u, l) :: B2) v list ∧
      BornAt W1 b2 (encP (p, q)) born ∧ W.grownBy W1 (some b2) ∧ l = (lkB (p, q) (lsB B)).getD [] ∧ ∀ u1 x, addB (p, q) x (lsB B) = lsB (B1 ++ ((p, q), u1, l ++ [x]) :: B2) := by
  obtain ⟨W1, born, h1, h2, h3, h4⟩ := MapIs.entry (t := 101) h.bef pair_keyOk encP_inj Try.underlying101 (zero_pairs W) (p, q) hG
  rcases lsB_look (p, q) B with ⟨g1, g2, g3⟩ | ⟨B1, u, l, B2, g1, g2, g3, g4⟩
  · rw [g1] at h1
    have ea : askM (p, q) (.slice none 0 0) (esB B) = esB (B ++ [((p, q), .slice none 0 0, [])]) := by
      unfold askM; rw [g1]; simp [esB]
    rw [ea] at h2
    refine ⟨W1, born, B, [], _, [], h1, h.befTo h4 h2 (fun r hr => ?_) ?_, h3, h4, by rw [g2]; rfl, fun u1 x => addB_new g2⟩
    · rcases List.mem_append.1 hr with hr | hr
      · exact Or.inl hr
      · rw [List.mem_singleton.1 hr]; exact Or.inr ⟨rfl, rfl⟩
    · rw [List.pairwise_append]
      exact ⟨h.apart, List.pairwise_singleton _ _, fun r _ s hs => by rw [List.mem_singleton.1 hs]; exact ne_nil' _⟩
  · rw [g3] at h1
    have ea : askM (p, q) (.slice none 0 0) (esB B) = esB B := by unfold askM; rw [g3]; rfl
    rw [ea] at h2
    have hk := h.keys
    subst g1
    have hk2 := keys_apart hk
    refine ⟨W1, born, B1, B2, u, l, h1, h.befTo h4 h2 (fun r hr => Or.inl hr) h.apart, h3, h4, by rw [g4]; rfl, fun u1 x => addB_at hk2.1 hk2.2 g4⟩
theorem MI.estore {B1 B2 : List RowB} {p q : Int} {u u1 : Value} {l l1 : List (Int × Int)} {born : Nat} (h : MI w W A0 n c0 D M b b2 left (B1 ++ ((p, q), u, l) :: B2) v list) (hB : BornAt W b2 (encP (p, q)) born) (hg : W.grownBy W1 u.ownBlock) (hR : Kd.R kP 74 W1 w.heap.size (fun _ => True) u1 l1)
    (hat : u1.ownBlock = u.ownBlock ∨ ∃ k, u1.ownBlock = some k ∧ W.heap.size ≤ k) :
    ∃ W2, (Instr.entryStore 101 (.map (some b2)) (.int .i64 (born : Int)) u1).run Try.prog W1 = .ok () W2 ∧ MI w W2 A0 n c0 D M b b2 left (B1 ++ ((p, q), u1, l1) :: B2) v list := by
  have hmem : ((p, q), u, l) ∈ B1 ++ ((p, q), u, l) :: B2 := List.mem_append_right _ List.mem_cons_self
  have hne := row_not_map (h.rows _ hmem) h.bef
  obtain ⟨W2, h1, h2, h3⟩ := MapIs.estore (P := Try.prog) (t := 101) (h.bef.kept hg hne) encP_inj (p, q) (hB.kept hg hne) u1
  have hk := keys_apart h.keys
  rw [putE_at (u1 := u1) (l1 := l1) hk.1 hk.2] at h2
  exact ⟨W2, h1, h.app hg hR hat h3 h2⟩
end
theorem R_at_P {W : World} {base : Nat} {ok : Nat → Prop} {v : Value} {l : List (Int × Int)} (h : Kd.R kP 74 W base ok v l) (i : Int) (h0 : 0 ≤ i) (h1 : i < (l.length : Int)) :
    ∃ ad c, v = .slice (some ad) l.length c ∧ W.cell? (ad.add (i.toNat * 2)) = some (.int .i64 (rdP l i).1) ∧ W.cell? ⟨(ad.add (i.toNat * 2)).block, (ad.add (i.toNat * 2)).off + 1, none⟩ = some (.int .i64 (rdP l i).2) := by
  obtain ⟨A, c, e, _, hC⟩ := Kd.R_reads h
  obtain ⟨ad, cs, e2, _, hK, hc0⟩ := Kd.C_get hC (0, 0) i h0 h1
  subst e2
  have hc : ∀ j u, cs[j]? = some u → W.cell? (ad.add (i.toNat * 2 + j)) = some u := hc0
  obtain ⟨a0, a1, rfl, k0, k1⟩ := hK
  have e0 : a0 = [.int .i64 (rdP l i).1] := k0
  have e1 : a1 = [.int .i64 (rdP l i).2] := k1
  subst e0; subst e1
  exact ⟨ad, c, e, hc 0 _ rfl, by rw [← add_field _ _ 1 (by omega)]; exact hc 1 _ rfl⟩
/-- A literal of one pair, read as a row. -/
theorem lit_P {W : World} {L : Nat} {p q : Int} (h : W.heap[L]? = some (.cells #[.int .i64 p, .int .i64 q] 74 (0, 0))) : ReadsRow (fun (x : Int × Int) cs => cs = [.int .i64 x.1, .int .i64 x.2]) 2 W (some ⟨L, 0, none⟩) 1 [(p, q)] := by
  refine ⟨rfl, by omega, fun _ => ⟨⟨L, 0, none⟩, rfl, fun j x hj => ?_⟩⟩
  cases j with
  | zero =>
    obtain rfl := Option.some.inj hj
    refine ⟨_, rfl, rfl, fun i u hu => ?_⟩
    match i with
    | 0 => obtain rfl := Option.some.inj hu; exact (blk_cell h 0).trans rfl
    | 1 => obtain rfl := Option.some.inj hu; exact (blk_cell h 1).trans rfl
    | i + 2 => simp at hu
  | succ j => simp at hj
/-- The numbers in the rows are ints. -/
def GL (l : List (Int × Int)) : Prop := ∀ x ∈ l, PairG (encP x)
def GB (bf : List ((Int × Int) × List (Int × Int))) : Prop := ∀ e ∈ bf, GL e.2
theorem GL.snoc {l : List (Int × Int)} {x : Int × Int} (h : GL l) (hx : PairG (encP x)) : GL (l ++ [x]) := fun y hy => by
  rcases List.mem_append.1 hy with h1 | h1
  · exact h y h1
  · rw [List.mem_singleton.1 h1]; exact hx
theorem GB.add {bf : List ((Int × Int) × List (Int × Int))} {c x : Int × Int} (h : GB bf) (hx : PairG (encP x)) : GB (addB c x bf) := by
  intro e he
  unfold addB at he
  split at he
  · obtain ⟨e0, h0, rfl⟩ := List.mem_map.1 he
    split
    · exact (h e0 h0).snoc hx
    · exact h e0 h0
  · rcases List.mem_append.1 he with h1 | h1
    · exact h e h1
    · rw [List.mem_singleton.1 h1]
      intro y hy; rw [List.mem_singleton.1 hy]; exact hx
theorem rdP_mem {l : List (Int × Int)} {i : Int} (h0 : 0 ≤ i) (h1 : i < (l.length : Int)) : rdP l i ∈ l := by
  unfold rdP
  rw [List.getD_eq_getElem?_getD, List.getElem?_eq_getElem (by omega)]
  exact List.getElem_mem _
theorem GL.rd {l : List (Int × Int)} (h : GL l) {i : Int} (h0 : 0 ≤ i) (h1 : i < (l.length : Int)) : PairG (encP ((rdP l i).1, (rdP l i).2)) := h _ (rdP_mem h0 h1)
def EntryOf (B : List RowB) (u : Value) (cs : List (Int × Int)) : Prop := u = .slice none 0 0 ∧ cs = [] ∨ ∃ c, (c, u, cs) ∈ B
theorem EntryOf.G {B : List RowB} {u : Value} {cs : List (Int × Int)} (h : EntryOf B u cs) (hB : GB (lsB B)) : GL cs := by
  rcases h with ⟨_, rfl⟩ | ⟨c, hc⟩
  · exact fun x hx => nomatch hx
  · exact hB (c, cs) (List.mem_map.2 ⟨_, hc, rfl⟩)
section
variable {w W W1 : World} {A0 : Option Addr} {n c0 D M b b2 : Nat} {left : List ((Int × Int) × Int)} {B : List RowB} {v : Value} {list : List (Int × Int)}
theorem MI.row (h : MI w W A0 n c0 D M b b2 left B v list) {u : Value} {cs : List (Int × Int)} (he : EntryOf B u cs) : Kd.R kP 74 W w.heap.size (fun _ => True) u cs := by
  rcases he with ⟨rfl, rfl⟩ | ⟨c, hc⟩
  · exact Kd.R_nil _ _ _ _ _
  · exact h.rows _ hc
theorem MI.look (h : MI w W A0 n c0 D M b b2 left B v list) {p q : Int} (hG : PairG (encP (p, q))) :
    ∃ A c, (Instr.lookup 101 (.map (some b2)) (.agg #[.int .i64 p, .int .i64 q]) false).run Try.prog W = .ok (.slice A ((lkB (p, q) (lsB B)).getD []).length c) W ∧ EntryOf B (.slice A ((lkB (p, q) (lsB B)).getD []).length c) ((lkB (p, q) (lsB B)).getD []) := by
  have hl := MapIs.lookup h.bef pair_keyOk encP_inj Try.underlying101 (zero_pairs W) (p, q) hG false
  simp only [Bool.false_eq_true, if_false] at hl
  rcases lsB_look (p, q) B with ⟨h1, h2, _⟩ | ⟨B1, u, l, B2, h1, _, h3, h4⟩
  · rw [h1] at hl
    rw [h2]
    exact ⟨none, 0, hl, Or.inl ⟨rfl, rfl⟩⟩
  · have hm : ((p, q), u, l) ∈ B := by rw [h1]; exact List.mem_append_right _ List.mem_cons_self
    rw [h3] at hl
    rw [h4]
    obtain ⟨A, c, e⟩ := Kd.R_slice (h.rows _ hm)
    have e' : u = .slice A l.length c := e
    subst e'
    exact ⟨A, c, hl, Or.inr ⟨_, hm⟩⟩
end
end Go.Proofs.Ytcpmmkennnjalaa.Q
end
