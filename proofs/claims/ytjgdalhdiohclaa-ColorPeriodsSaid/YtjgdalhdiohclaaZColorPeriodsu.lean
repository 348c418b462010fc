/- In any colouring of a strongly connected automaton of period d, any word leads from all states to at least d states; if d is greater than 1 there is no reset word, and Road returns ErrNone. (text 21 of 31) -/
import Derived.Test.YtjgdalhdiohclaaZColorPeriodst
import Derived.Test.YtjgdalhdiohclaaZColorPeriodsr
import Derived.Test.YtjgdalhdiohclaaZColorPeriodsh
import Derived.Test.YtjgdalhdiohclaaZColorPeriodsi
import Derived.Laws.EntriesVeiled
open Go.RowKit Go.Proofs.YtjgdalhdiohclaaW.PrintWords Go.Proofs.YtjgdalhdiohclaaW.PrintLast Go.Proofs.YtjgdalhdiohclaaW.PrintMore
/-! Part XImagea -/
section
namespace Go.Proofs.Ytjgdalhdiohclaa.Q
set_option linter.unusedVariables false
set_option linter.unusedSimpArgs false
def auto_Image.l0 : Nat → List Int → List (List Int) → List Int → List Int → Int → Option (List Int)
 | 0, _, _, _, _, _ => none
 | k + 1, out, rows, set, word, i => if i < (set.length : Int) then (if 0 ≤ i then ((auto_Lead.f k rows (rd set i) word).bind fun t => if out.length < 17592186044416 then auto_Image.l0 k (out ++ [t]) rows set word (wrap64 (i + 1)) else none) else none) else (if out.length < 4611686018427387904 then (if (tidy out).length ≤ out.length then some (tidy out) else none) else none)
theorem auto_Image.mono_l : ∀ k, (∀ y0 y1 y2 y3 y4, LeO (auto_Image.l0 k y0 y1 y2 y3 y4) (auto_Image.l0 (k + 1) y0 y1 y2 y3 y4))
 | 0 => fun _ _ _ _ _ r h => by simp [auto_Image.l0] at h
 | k + 1 => by
  have ih0 := auto_Image.mono_l k
  intro y0 y1 y2 y3 y4
  unfold auto_Image.l0
  repeat' first
   | (with_reducible exact ih0 _ _ _ _ _)
   | (with_reducible exact auto_Lead.mono _ _ _ _)
   | (with_reducible exact LeO.refl _)
   | (with_reducible exact LeO.none _)
   | (with_reducible refine LeO.ite ?_ ?_)
   | (with_reducible refine LeO.bind ?_ (fun _ => ?_))
def auto_Image.f (k : Nat) (l0_0 : List (List Int)) (l1 : List Int) (l2 : List Int) : Option (List Int × Int) := (auto_Valid.f l0_0).bind fun v => if v = true then ((auto_Set.f k l0_0 l1).bind fun s => if s = true then ((auto_Word.f l0_0 l2).bind fun wd => if wd = true then (if inB l0_0.length l1 = true then (if 0 < l0_0.length then (if l0_0.length ≤ 281474976710656 then ((auto_Image.l0 k [] l0_0 l1 l2 0).bind fun o => some (o, 0)) else none) else none) else none) else some ([], 2)) else some ([], 2)) else some ([], 1)
theorem auto_Image.mono : ∀ a0 a1 a2 k, LeO (auto_Image.f k a0 a1 a2) (auto_Image.f (k + 1) a0 a1 a2) := by
 intro a0 a1 a2 k
 have ih0 := auto_Image.mono_l k
 unfold auto_Image.f
 repeat' first
   | (with_reducible exact ih0 _ _ _ _ _)
   | (with_reducible exact auto_Set.mono _ _ _)
   | (with_reducible exact LeO.refl _)
   | (with_reducible exact LeO.none _)
   | (with_reducible refine LeO.ite ?_ ?_)
   | (with_reducible refine LeO.bind ?_ (fun _ => ?_))
set_option maxHeartbeats 1000000 in
set_option maxRecDepth 100000 in
theorem image1_calls (k : Nat) (l0_0 : List (List Int)) (l1 l2 : List Int) (A0_0 A1 A2 : Option Addr) (c0_0 c1 c2 BS BA BW : Nat) (mv : Value) (r : List Int) (w : World)
  (hR : Kd.C (Kd.slice 3 (Kd.int .i64)) w A0_0 l0_0.length l0_0) (hc0 : l0_0.length ≤ c0_0) (hS : Kd.C (Kd.int .i64) w A1 l1.length l1) (hW : Kd.C (Kd.int .i64) w A2 l2.length l2) (hc2 : l2.length ≤ c2)
  (xS : w.cell? ⟨BS, 0, none⟩ = some (.slice A1 l1.length c1)) (xA : w.cell? ⟨BA, 0, none⟩ = some (.slice A0_0 l0_0.length c0_0)) (xW : w.cell? ⟨BW, 0, none⟩ = some (.slice A2 l2.length c2))
  (h : auto_Image.l0 k [] l0_0 l1 l2 0 = some r) :
  Calls Try.prog 75 #[mv, .pointer (some ⟨BS, 0, none⟩), .pointer (some ⟨BA, 0, none⟩), .pointer (some ⟨BW, 0, none⟩)] w fun e w' => ∃ v0_ : Value, e = .returned v0_ ∧ Kd.R (Kd.int .i64) 3 w' w.heap.size (fun _ => True) v0_ r ∧ Below w.heap.size w w' := by
 have HR := am hR
 have HC := am hc0
 have HS := am hS
 have HW := am hW
 have HC2 := am hc2
 have XS := am xS
 have XA := am xA
 have XW := am xW
 have H' := am h
 clear h hR hc0 hS hW hc2 xA xW
 go_enter Try.func75, Try.ntmps75
 go_wp2_with ((with_reducible refine gate_dst (N := 9) rfl ?_); refine Kd.R_lit (Kd.int .i64) _ 3 ?hg (N := 9) ?hd (xs := ([] : List Int)) (inner := []) (ok := fun _ => True) (okp := fun _ => True) ?hr ?hp (fun _ hk => hk) trivial (Below.refl _ _) (Nat.le_refl _) (by simp) ?_; (case hd => rfl); (case hg => rfl); (case hr => first | (go_simp; done) | (go_simp; rfl)); (case hp => exact (Reps.none _ _));  intro v1 w1 hO hb _ _; have HO1 := am hO; have HB1 := am hb; have xS1 := pw_cell_below hb XS.out; clear hO hb xS)
 go_loopg [6, 12] k (fun kq v6 v12 w' => ∃ (x : Int) (out : List Int), v12 = .int .i64 x ∧ Aside0 (auto_Image.l0 kq out l0_0 l1 l2 x = some r) ∧ Aside0 (kq ≤ k) ∧ Aside0 (Kd.R (Kd.int .i64) 3 w' w.heap.size (fun _ => True) v6 out) ∧ Aside0 (Below w.heap.size w w'))
 case atStart => exact ⟨0, [], rfl, H', ⟨Nat.le_refl _⟩, HO1, HB1⟩
 case round =>
  clear H' xS1
  obtain ⟨x, out, rfl, HA, HK1, HO, HB⟩ := hrel
  cases gk with
  | zero => exact absurd HA.out (by simp [auto_Image.l0])
  | succ k1 =>
   have H := HA.out
   clear HA
   simp only [auto_Image.l0] at H
   by_cases d1 : x < (l1.length : Int)
   ·rw [if_pos d1] at H
    by_cases d2 : 0 ≤ x
    ·rw [if_pos d2] at H
     obtain ⟨t, ht, H⟩ := Option.bind_eq_some_iff.mp H
     by_cases d3 : out.length < 17592186044416
     ·rw [if_pos d3] at H
      obtain ⟨ad, e2, hxr⟩ := Kd.at_int (Kd.C_below HS.out HB.out) x d2 d1
      cases e2
      have HT := am ht
      have H' := am H
      have L3 := am d3
      clear H ht d3
      have xA := pw_cell_below HB.out XA.out
      have xW := pw_cell_below HB.out XW.out
      have d1b := decide_eq_true d1
      have q1 := eq_true d1
      have q2 := eq_true d2
      clear d1 d2
      go_wp2_with fail
      refine (auto_Lead.calls k1 _ _ l0_0 (rd l1 x) _ _ l2 t _ (Kd.C_below HR.out HB.out) HC.out (Kd.C_below HW.out HB.out) HC2.out HT.out).mono ?_
      rintro e w3 ⟨rfl, hb3⟩
      have HB3 := am (below_step HB.out hb3)
      have HO3 := am (Kd.R_below HO.out hb3)
      clear hb3 hxr xA xW
      go_wp2_with ((with_reducible refine gate_builtin (b := .append) (xs := #[.tmp 16, .tmp 21]) rfl ?_); at_builtin; refine Kd.R_append (Kd.int .i64) (w0 := w) w.heap.size rfl (.tmp 16) (.tmp 21) 28 3 (.int .i64 0) 8 rfl Try.underlying28 info3 rfl (by decide) (by omega) u6 out t [.int .i64 t] (fun _ => True) (fun _ => False) rfl rfl ?aP (fun _ hk => hk.elim) ?aF ?aO ?aB ?aS ?aL ?_; (case aP => exact rfl); (case aB => exact (bw HB3.out)); (case aF => exact (fun _ _ => trivial)); (case aO => exact (kR HO3.out)); (case aS => exact (below_size (bw HB3.out))); (case aL => have := L3.out; omega); intro v4 w4 ho hb hg hat; have HO4 := am ho; have HB4 := am hb; clear ho hb hg hat)
      go_roundg k1
      case measure => have := HK1.out; omega
      case rel => exact ⟨_, out ++ [t], rfl, H', ⟨by have := HK1.out; omega⟩, HO4, HB4⟩
     ·rw [if_neg d3] at H; exact absurd H (by simp)
    ·rw [if_neg d2] at H; exact absurd H (by simp)
   ·rw [if_neg d1] at H
    by_cases d4 : out.length < 4611686018427387904
    ·rw [if_pos d4] at H
     by_cases d5 : (tidy out).length ≤ out.length
     ·rw [if_pos d5] at H
      obtain rfl := Option.some.inj H
      have D4 := am d4
      have D5 := am d5
      have d1b := decide_eq_false d1
      clear H d4 d5 d1
      go_wp2_with fail
      refine (sort_R HO.out D4.out).mono ?_
      rintro e w3 ⟨rfl, hO3, hg3⟩
      have hbase : ∀ k, u6.ownBlock = some k → w.heap.size ≤ k := fun k hk => Kd.R_base HO.out k hk
      have HB3 := am (pw_below_grown HB.out u6.ownBlock HB.out.size hg3 hbase)
      have HO3 := am hO3
      have HBS := am hbase
      clear hO3 hg3 hbase
      go_wp2_with fail
      refine (compact_R HO3.out (by have := D5.out; rw [tidy_eq] at this; rw [List.length_mergeSort]; exact this)).mono ?_
      rintro e w4 ⟨v', rfl, hv', hO4, hg4⟩
      rw [← tidy_eq] at hO4
      have HB4 := am (pw_below_grown HB3.out u6.ownBlock HB3.out.size hg4 HBS.out)
      have HO4 := am hO4
      clear hO4 hg4 hv'
      go_wp2
      go_ret
      exact ⟨_, rfl, HO4.out, HB4.out⟩
     ·rw [if_neg d5] at H; exact absurd H (by simp)
    ·rw [if_neg d4] at H; exact absurd H (by simp)
end Go.Proofs.Ytjgdalhdiohclaa.Q
end
/-! Part XImageb -/
section
namespace Go.Proofs.Ytjgdalhdiohclaa.Q
set_option linter.unusedVariables false
set_option linter.unusedSimpArgs false
theorem inB_rd {n : Int} {l : List Int} (h : inB n l = true) {x : Int} (h0 : 0 ≤ x) (h1 : x < l.length) : 0 ≤ rd l x ∧ rd l x < n := by
 obtain ⟨i, rfl⟩ := Int.eq_ofNat_of_zero_le h0
 have hi : i < l.length := by omega
 have e : rd l (i : Int) = l[i] := by
  show l.getD i 0 = _
  rw [List.getD_eq_getElem?_getD, List.getElem?_eq_getElem hi]; rfl
 rw [e]
 unfold inB at h
 rw [List.all_eq_true] at h
 simpa using h _ (List.getElem_mem hi)
set_option maxHeartbeats 2000000 in
set_option maxRecDepth 100000 in
theorem sets_calls (k : Nat) (l0_0 : List (List Int)) (l1 l2 : List Int) (A0_0 A1 A2 : Option Addr) (c0_0 c1 c2 BS BA BW : Nat) (r1 : List Int) (r2 : Int) (w : World)
  (hR : Kd.C (Kd.slice 3 (Kd.int .i64)) w A0_0 l0_0.length l0_0) (hc0 : l0_0.length ≤ c0_0) (hS : Kd.C (Kd.int .i64) w A1 l1.length l1) (hc1 : l1.length ≤ c1) (hW : Kd.C (Kd.int .i64) w A2 l2.length l2) (hc2 : l2.length ≤ c2)
  (xS : w.cell? ⟨BS, 0, none⟩ = some (.slice A1 l1.length c1)) (xA : w.cell? ⟨BA, 0, none⟩ = some (.slice A0_0 l0_0.length c0_0)) (xW : w.cell? ⟨BW, 0, none⟩ = some (.slice A2 l2.length c2))
  (h : auto_Image.f k l0_0 l1 l2 = some (r1, r2)) :
  Calls Try.prog 78 #[.agg #[.slice A0_0 l0_0.length c0_0], .slice A1 l1.length c1, .slice A2 l2.length c2, .func (.func 75) #[] #[.pointer (some ⟨BS, 0, none⟩), .pointer (some ⟨BA, 0, none⟩), .pointer (some ⟨BW, 0, none⟩)]] w fun e w' => ∃ v0_ : Value, e = .returned (.tuple #[v0_, .int .i64 r2]) ∧ Kd.R (Kd.int .i64) 3 w' w.heap.size (fun _ => True) v0_ r1 ∧ Below w.heap.size w w' := by
 have HR := am hR
 have HC := am hc0
 have HS := am hS
 have HC1 := am hc1
 have HW := am hW
 have HC2 := am hc2
 have XS := am xS
 have XA := am xA
 have XW := am xW
 have HB0 := Below.refl w.heap.size w
 clear hR hc0 hS hc1 hW hc2 xS xA xW
 have H := h
 clear h
 unfold auto_Image.f at H
 replace H := Option.bind_eq_some_iff.mp H
 obtain ⟨v, hv, H⟩ := H
 have HV := am hv
 clear hv
 cases v with
 | false =>
  rw [if_neg (by decide)] at H
  simp only [Option.some.injEq, Prod.mk.injEq] at H
  obtain ⟨rfl, rfl⟩ := H
  go_enter Try.func78, Try.ntmps78
  go_wp2_with ((with_reducible refine gate_dst (N := 4) rfl ?_); refine box_event ?hg (N := 4) ?hd (cs := #[.slice A0_0 l0_0.length c0_0]) (t := 24) ?hr ?_; (case hd => rfl); (case hg => rfl); (case hr => first | (go_simp; done) | (go_simp; rfl)); intro B hBe w1 hbox hb1;  have hcb : w1.cell? ⟨B, 0, none⟩ = some (.slice A0_0 l0_0.length c0_0) := (blk_cell hbox 0).trans rfl;  have HBox := am hbox; have HB1 := am (below_step HB0 hb1); clear hbox hb1 hBe)
  refine (auto_Valid.calls _ _ l0_0 false _ (Kd.C_below HR.out HB1.out) HC.out HV.out).mono ?_
  rintro e w2 ⟨rfl, hb2⟩
  have HB2 := am (below_step HB1.out hb2)
  clear hb2
  go_wp2
  go_ret2
  exact ⟨_, rfl, Kd.R_nil _ _ _ _ _, HB2.out⟩
 | true =>
  rw [if_pos rfl] at H
  replace H := Option.bind_eq_some_iff.mp H
  obtain ⟨b1, hb1, H⟩ := H
  have HS1 := am hb1
  clear hb1
  cases b1 with
  | false =>
   rw [if_neg (by decide)] at H
   simp only [Option.some.injEq, Prod.mk.injEq] at H
   obtain ⟨rfl, rfl⟩ := H
   go_enter Try.func78, Try.ntmps78
   go_wp2_with ((with_reducible refine gate_dst (N := 4) rfl ?_); refine box_event ?hg (N := 4) ?hd (cs := #[.slice A0_0 l0_0.length c0_0]) (t := 24) ?hr ?_; (case hd => rfl); (case hg => rfl); (case hr => first | (go_simp; done) | (go_simp; rfl)); intro B hBe w1 hbox hb1;  have hcb : w1.cell? ⟨B, 0, none⟩ = some (.slice A0_0 l0_0.length c0_0) := (blk_cell hbox 0).trans rfl;  have HBox := am hbox; have HB1 := am (below_step HB0 hb1); clear hbox hb1 hBe)
   refine (auto_Valid.calls _ _ l0_0 true _ (Kd.C_below HR.out HB1.out) HC.out HV.out).mono ?_
   rintro e w2 ⟨rfl, hb2⟩
   have HB2 := am (below_step HB1.out hb2)
   have hcb2 : w2.cell? ⟨B, 0, none⟩ = some (.slice A0_0 l0_0.length c0_0) := (blk_cell (blk_below HBox.out hb2) 0).trans rfl
   clear hb2 hcb
   go_wp2_with fail
   refine (auto_Set.calls k _ _ l0_0 _ _ l1 false _ (Kd.C_below HR.out HB2.out) HC.out (Kd.C_below HS.out HB2.out) HC1.out HS1.out).mono ?_
   rintro e w3 ⟨rfl, hb3⟩
   have HB3 := am (below_step HB2.out hb3)
   clear hb3 hcb2
   go_wp2
   go_ret2
   exact ⟨_, rfl, Kd.R_nil _ _ _ _ _, HB3.out⟩
  | true =>
   rw [if_pos rfl] at H
   replace H := Option.bind_eq_some_iff.mp H
   obtain ⟨b2, hb2, H⟩ := H
   have HS2 := am hb2
   clear hb2
   cases b2 with
   | false =>
    rw [if_neg (by decide)] at H
    simp only [Option.some.injEq, Prod.mk.injEq] at H
    obtain ⟨rfl, rfl⟩ := H
    go_enter Try.func78, Try.ntmps78
    go_wp2_with ((with_reducible refine gate_dst (N := 4) rfl ?_); refine box_event ?hg (N := 4) ?hd (cs := #[.slice A0_0 l0_0.length c0_0]) (t := 24) ?hr ?_; (case hd => rfl); (case hg => rfl); (case hr => first | (go_simp; done) | (go_simp; rfl)); intro B hBe w1 hbox hb1;  have hcb : w1.cell? ⟨B, 0, none⟩ = some (.slice A0_0 l0_0.length c0_0) := (blk_cell hbox 0).trans rfl;  have HBox := am hbox; have HB1 := am (below_step HB0 hb1); clear hbox hb1 hBe)
    refine (auto_Valid.calls _ _ l0_0 true _ (Kd.C_below HR.out HB1.out) HC.out HV.out).mono ?_
    rintro e w2 ⟨rfl, hb2⟩
    have HB2 := am (below_step HB1.out hb2)
    have HBox2 := am (blk_below HBox.out hb2)
    have hcb2 : w2.cell? ⟨B, 0, none⟩ = some (.slice A0_0 l0_0.length c0_0) := (blk_cell HBox2.out 0).trans rfl
    clear hb2 hcb
    go_wp2_with fail
    refine (auto_Set.calls k _ _ l0_0 _ _ l1 true _ (Kd.C_below HR.out HB2.out) HC.out (Kd.C_below HS.out HB2.out) HC1.out HS1.out).mono ?_
    rintro e w3 ⟨rfl, hb3⟩
    have HB3 := am (below_step HB2.out hb3)
    have hcb3 : w3.cell? ⟨B, 0, none⟩ = some (.slice A0_0 l0_0.length c0_0) := (blk_cell (blk_below HBox2.out hb3) 0).trans rfl
    clear hb3 hcb2
    go_wp2_with fail
    refine (auto_Word.calls _ _ l0_0 _ _ l2 false _ (Kd.C_below HR.out HB3.out) HC.out (Kd.C_below HW.out HB3.out) HC2.out HS2.out).mono ?_
    rintro e w4 ⟨rfl, hb4⟩
    have HB4 := am (below_step HB3.out hb4)
    clear hb4 hcb3
    go_wp2
    go_ret2
    exact ⟨_, rfl, Kd.R_nil _ _ _ _ _, HB4.out⟩
   | true =>
    rw [if_pos rfl] at H
    by_cases e1 : inB l0_0.length l1 = true
    ·rw [if_pos e1] at H
     by_cases e2 : 0 < l0_0.length
     ·rw [if_pos e2] at H
      by_cases e3 : l0_0.length ≤ 281474976710656
      ·rw [if_pos e3] at H
       obtain ⟨o, hO, H⟩ := Option.bind_eq_some_iff.mp H
       simp only [Option.some.injEq, Prod.mk.injEq] at H
       obtain ⟨rfl, rfl⟩ := H
       have HI := am hO
       have E1 := am e1
       have E2 := am e2
       have E3 := am e3
       clear hO e1 e2 e3
       go_enter Try.func78, Try.ntmps78
       go_wp2_with ((with_reducible refine gate_dst (N := 4) rfl ?_); refine box_event ?hg (N := 4) ?hd (cs := #[.slice A0_0 l0_0.length c0_0]) (t := 24) ?hr ?_; (case hd => rfl); (case hg => rfl); (case hr => first | (go_simp; done) | (go_simp; rfl)); intro B hBe w1 hbox hb1;  have hcb : w1.cell? ⟨B, 0, none⟩ = some (.slice A0_0 l0_0.length c0_0) := (blk_cell hbox 0).trans rfl;  have HBox := am hbox; have HB1 := am (below_step HB0 hb1); clear hbox hb1 hBe)
       refine (auto_Valid.calls _ _ l0_0 true _ (Kd.C_below HR.out HB1.out) HC.out HV.out).mono ?_
       rintro e w2 ⟨rfl, hb2⟩
       have HB2 := am (below_step HB1.out hb2)
       have HBox2 := am (blk_below HBox.out hb2)
       have hcb2 : w2.cell? ⟨B, 0, none⟩ = some (.slice A0_0 l0_0.length c0_0) := (blk_cell HBox2.out 0).trans rfl
       clear hb2 hcb
       go_wp2_with fail
       refine (auto_Set.calls k _ _ l0_0 _ _ l1 true _ (Kd.C_below HR.out HB2.out) HC.out (Kd.C_below HS.out HB2.out) HC1.out HS1.out).mono ?_
       rintro e w3 ⟨rfl, hb3⟩
       have HB3 := am (below_step HB2.out hb3)
       have HBox3 := am (blk_below HBox2.out hb3)
       have hcb3 : w3.cell? ⟨B, 0, none⟩ = some (.slice A0_0 l0_0.length c0_0) := (blk_cell HBox3.out 0).trans rfl
       clear hb3 hcb2
       go_wp2_with fail
       refine (auto_Word.calls _ _ l0_0 _ _ l2 true _ (Kd.C_below HR.out HB3.out) HC.out (Kd.C_below HW.out HB3.out) HC2.out HS2.out).mono ?_
       rintro e w4 ⟨rfl, hb4⟩
       have HB4 := am (below_step HB3.out hb4)
       have hcb4 : w4.cell? ⟨B, 0, none⟩ = some (.slice A0_0 l0_0.length c0_0) := (blk_cell (blk_below HBox3.out hb4) 0).trans rfl
       clear hb4 hcb3
       go_wp2_with ((with_reducible refine gate_dst (N := 31) rfl ?_); refine Kd.R_make Kd.bool _ 4 rfl (N := 31) rfl 47 _ _ rfl (l0_0.length : Int) rfl rfl Try.underlying47 (.bool false) 1 info4 rfl (by decide) (by omega) false (ok := fun _ => True) (okp := fun _ => True) rfl (fun _ hk => hk) trivial (by omega) (by have := E3.out; omega) (Below.refl _ _) (Nat.le_refl _) ?_;  intro v1 w5 hO hb2 hg2 hnew;  have HO := am (Kd.R_lower hO (show w.heap.size ≤ w4.heap.size from HB4.out.size));  obtain ⟨R, c, hv, hRb, hRl, hcl, hRh⟩ := Kd.R_form HO.out (by have := E2.out; simp; omega);  subst hv;  have HB5 := am (below_step HB4.out hb2); clear hcb4 hO hb2 hg2 hnew hRh)
       have hO5 := HO.out
       simp only [Int.toNat_natCast, List.length_replicate] at hO5
       have HO5 := am hO5
       have HLen : Aside0 ((List.replicate l0_0.length false).length = l0_0.length) := ⟨List.length_replicate⟩
       clear hO5
       have hRb2 := hRb
       go_loopg [34] l1.length (fun kq v34 w' => ∃ (x : Int) (mm : List Bool), v34 = .int .i64 x ∧ Aside0 (0 ≤ x ∧ x + (kq : Int) = (l1.length : Int)) ∧ Aside0 (mm.length = l0_0.length) ∧ Aside0 (Kd.R Kd.bool 4 w' w.heap.size (fun _ => True) (.slice (some ⟨R, 0, none⟩) l0_0.length c) mm) ∧ Aside0 (Below w.heap.size w w'))
       case atStart => exact ⟨0, _, rfl, ⟨⟨by omega, by omega⟩⟩, HLen, HO5, HB5⟩
       case round =>
        obtain ⟨x, mm, rfl, HK, HL, HOr, HBr⟩ := hrel
        by_cases d1 : x < (l1.length : Int)
        ·have d2 : 0 ≤ x := HK.out.1
         obtain ⟨ad, e2, hxr⟩ := Kd.at_int (Kd.C_below HS.out HBr.out) x d2 d1
         cases e2
         obtain ⟨t1, t2⟩ := inB_rd E1.out d2 d1
         generalize rd l1 x = t at hxr t1 t2
         obtain ⟨hO1, hG1⟩ := Kd.R_putg HOr.out t true
         have HO1 := am hO1
         have HG1 := am hG1
         obtain ⟨hx0, hf0⟩ := Kd.R_celln false HOr.out t t1 t2
         clear hO1 hG1
         have d1b := decide_eq_true d1
         have q1 := eq_true d1
         have q2 := eq_true d2
         have q3 := eq_true t1
         have q4 := eq_true t2
         have HT1 := am t1
         have HD := am d1
         clear d1 d2 t1 t2
         go_wp2_with ((with_reducible refine gate_store (t := 4) (p := 40) rfl ?_); refine store_event (t := 4) (p := 40) (v := ?vo) (w1 := (wr.setCell ⟨R, t.toNat, none⟩ (.bool true))) ?hg ?ho ?hn ?hr ?_; (case ho => rfl); (case hg => rfl); (case hn => rfl); (case hr => first | (go_simp; done) | (go_simp; rfl)); intro w6 hw;  have HG6 : Aside0 (wr.grownBy w6 (some R)) := (by rw [hw]; exact HG1); have HO6 : Aside0 (Kd.R Kd.bool 4 w6 w.heap.size (fun _ => True) (.slice (some ⟨R, 0, none⟩) l0_0.length c) (mm.set t.toNat true)) := (by rw [hw]; exact HO1); clear hw hx0 hf0)
         obtain ⟨k1, rfl⟩ : ∃ k1, gk = k1 + 1 := ⟨gk - 1, by have := HK.out; have := HD.out; omega⟩
         go_roundg k1
         case measure => omega
         case rel => exact ⟨x + 1, mm.set t.toNat true, by have h1 := HD.out; have h2 := HS.out.2.1; have h3 := HK.out.1; rw [show wrap64 (x + 1) = x + 1 from by unfold wrap64; omega], ⟨⟨by have := HK.out.1; omega, by have := HK.out.2; omega⟩⟩, ⟨by rw [List.length_set]; exact HL.out⟩, HO6, ⟨pw_below_grown HBr.out (some R) HBr.out.size HG6.out (fun k e => by cases e; exact hRb2)⟩⟩
        ·have d1b := decide_eq_false d1
         clear d1
         have XS2 := pw_cell_below HBr.out XS.out
         have XA2 := pw_cell_below HBr.out XA.out
         have XW2 := pw_cell_below HBr.out XW.out
         have HX1 := am XS2
         have HX2 := am XA2
         have HX3 := am XW2
         clear XS2 XA2 XW2
         go_wp2_with fail
         refine (image1_calls k l0_0 l1 l2 A0_0 A1 A2 c0_0 c1 c2 BS BA BW _ _ _ (Kd.C_below HR.out HBr.out) HC.out (Kd.C_below HS.out HBr.out) (Kd.C_below HW.out HBr.out) HC2.out HX1.out HX2.out HX3.out HI.out).mono ?_
         rintro e w7 ⟨v0, rfl, hO7, hb7⟩
         have HO7 := am (Kd.R_lower hO7 (show w.heap.size ≤ wr.heap.size from HBr.out.size))
         have HB7 := am (below_step HBr.out hb7)
         clear hO7 hb7
         go_wp2
         go_ret2
         exact ⟨_, rfl, HO7.out, HB7.out⟩
      ·rw [if_neg e3] at H; exact absurd H (by simp)
     ·rw [if_neg e2] at H; exact absurd H (by simp)
    ·rw [if_neg e1] at H; exact absurd H (by simp)
end Go.Proofs.Ytjgdalhdiohclaa.Q
end
/-! Part XImage -/
section
namespace Go.Proofs.Ytjgdalhdiohclaa.Q
set_option linter.unusedVariables false
set_option linter.unusedSimpArgs false
set_option maxHeartbeats 2000000 in
set_option maxRecDepth 100000 in
theorem auto_Image.calls (k : Nat) (A0_0 : Option Addr) (c0_0 : Nat) (l0_0 : List (List Int)) (A1 : Option Addr) (c1 : Nat) (l1 : List Int) (A2 : Option Addr) (c2 : Nat) (l2 : List Int) (r1 : List Int) (r2 : Int) (w : World) (hr0_0 : Kd.C (Kd.slice 3 (Kd.int .i64)) w A0_0 l0_0.length l0_0) (hc0_0 : l0_0.length ≤ c0_0) (hr1 : Kd.C (Kd.int .i64) w A1 l1.length l1) (hc1 : l1.length ≤ c1) (hr2 : Kd.C (Kd.int .i64) w A2 l2.length l2) (hc2 : l2.length ≤ c2) (h : auto_Image.f k l0_0 l1 l2 = some (r1, r2)) :
  Calls Try.prog 39 #[.agg #[.slice A0_0 l0_0.length c0_0], .slice A1 l1.length c1, .slice A2 l2.length c2] w fun e w' => ∃ v0_ : Value, e = .returned (.tuple #[v0_, .int .i64 r2]) ∧ Kd.R (Kd.int .i64) 3 w' w.heap.size (fun _ => True) v0_ r1 ∧ Below w.heap.size w w' := by
 have HR := am hr0_0
 have HC := am hc0_0
 have HS := am hr1
 have HC1 := am hc1
 have HW := am hr2
 have HC2 := am hc2
 have HB0 := Below.refl w.heap.size w
 have H := am h
 clear hr0_0 hc0_0 hr1 hc1 hr2 hc2 h
 go_enter Try.func39, Try.ntmps39
 go_wp2_with (first | ((with_reducible refine gate_dst (N := 3) rfl ?_); refine box_event ?hg (N := 3) ?hd (cs := #[.slice A0_0 l0_0.length c0_0]) (t := 24) ?hr ?_; (case hd => rfl); (case hg => rfl); (case hr => first | (go_simp; done) | (go_simp; rfl)); intro BA hBAe w1 hbox hb1;  have HBA := am hbox; have HB1 := am (below_step HB0 hb1); clear hbox hb1 hBAe)  | ((with_reducible refine gate_dst (N := 4) rfl ?_); refine box_event ?hg (N := 4) ?hd (cs := #[.slice A1 l1.length c1]) (t := 28) ?hr ?_; (case hd => rfl); (case hg => rfl); (case hr => first | (go_simp; done) | (go_simp; rfl)); intro BS hBSe w2 hbox hb2;  have HBS := am hbox; have HBA2 := am (blk_below HBA.out hb2); have HB2 := am (below_step HB1.out hb2); clear hbox hb2 hBSe)  | ((with_reducible refine gate_dst (N := 5) rfl ?_); refine box_event ?hg (N := 5) ?hd (cs := #[.slice A2 l2.length c2]) (t := 28) ?hr ?_; (case hd => rfl); (case hg => rfl); (case hr => first | (go_simp; done) | (go_simp; rfl)); intro BW hBWe w3 hbox hb3;  have HBW := am hbox; have HBA3 := am (blk_below HBA2.out hb3); have HBS3 := am (blk_below HBS.out hb3); have HB3 := am (below_step HB2.out hb3);  have xA : w3.cell? ⟨BA, 0, none⟩ = some (.slice A0_0 l0_0.length c0_0) := (blk_cell HBA3.out 0).trans rfl;  have xS : w3.cell? ⟨BS, 0, none⟩ = some (.slice A1 l1.length c1) := (blk_cell HBS3.out 0).trans rfl;  have xW : w3.cell? ⟨BW, 0, none⟩ = some (.slice A2 l2.length c2) := (blk_cell HBW.out 0).trans rfl;  have XA := am xA; have XS := am xS; have XW := am xW; clear hbox hb3 hBWe))
 refine (sets_calls k l0_0 l1 l2 A0_0 A1 A2 c0_0 c1 c2 BS BA BW r1 r2 _ (Kd.C_below HR.out HB3.out) HC.out (Kd.C_below HS.out HB3.out) HC1.out (Kd.C_below HW.out HB3.out) HC2.out XS.out XA.out XW.out H.out).mono ?_
 rintro e w4 ⟨v0, rfl, hO, hb⟩
 have HO := am (Kd.R_lower hO (show w.heap.size ≤ w3.heap.size from HB3.out.size))
 have HB4 := am (below_step HB3.out hb)
 clear hO hb xA xS xW
 go_wp2
 go_ret2
 exact ⟨_, rfl, HO.out, HB4.out⟩
end Go.Proofs.Ytjgdalhdiohclaa.Q
end
