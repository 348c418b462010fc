/- Part of the proof of TopRoad (text 10 of 33) -/
import Derived.Test.YtjgdalhdiohclaaZTopRoadg
import Derived.Laws.EntriesVeiled
set_option linter.unusedVariables false
set_option linter.unusedSimpArgs false
set_option linter.unusedSectionVars false
set_option maxRecDepth 100000
set_option maxHeartbeats 8000000
open Go.RowKit Go.Proofs.YtjgdalhdiohclaaW.PrintWords Go.Proofs.YtjgdalhdiohclaaW.PrintLast Go.Proofs.YtjgdalhdiohclaaW.PrintMore
section
namespace Go.Proofs.Ytjgdalhdiohclaa.Q
mutual
def net_visit.f : Nat → List (List Int) → List Bool → Int → Option (List Bool)
 | 0, _, _, _ => none
 | k + 1, rows, met, s => if 0 ≤ s then (if s < (met.length : Int) then (if rdOf false met s = true then some met else (if s < (rows.length : Int) then net_visit.l0 k rows (met.set s.toNat true) (rd_L1 rows s) 0 else none)) else none) else none
def net_visit.l0 : Nat → List (List Int) → List Bool → List Int → Int → Option (List Bool)
 | 0, _, _, _, _ => none
 | k + 1, rows, met, row, x => if x < (row.length : Int) then (if 0 ≤ x then (net_visit.f k rows met (rd row x)).bind fun m => net_visit.l0 k rows m row (wrap64 (x + 1)) else none) else some met
end
def net_reach.f (k : Nat) (l0_0 : List (List Int)) (a1 : Int) : Option (List Bool) := if l0_0.length ≤ 281474976710656 then net_visit.f k l0_0 (List.replicate l0_0.length false) a1 else none
theorem net_visit.mono_l : ∀ k, (∀ y0 y1 y2, LeO (net_visit.f k y0 y1 y2) (net_visit.f (k + 1) y0 y1 y2)) ∧ (∀ y0 y1 y2 y3, LeO (net_visit.l0 k y0 y1 y2 y3) (net_visit.l0 (k + 1) y0 y1 y2 y3))
 | 0 => ⟨fun _ _ _ r h => by simp [net_visit.f] at h, fun _ _ _ _ r h => by simp [net_visit.l0] at h⟩
 | k + 1 => by
  obtain ⟨ih0, ih1⟩ := net_visit.mono_l k
  refine ⟨?_, ?_⟩
  ·intro y0 y1 y2
   unfold net_visit.f
   with_reducible repeat' first | exact ih1 _ _ _ _ | exact LeO.refl _ | exact LeO.none _ | refine LeO.ite ?_ ?_
  ·intro y0 y1 y2 y3
   unfold net_visit.l0
   with_reducible repeat' first | exact ih0 _ _ _ | exact ih1 _ _ _ _ | exact LeO.refl _ | exact LeO.none _ | refine LeO.ite ?_ ?_ | refine LeO.bind ?_ (fun _ => ?_)
theorem net_reach.mono : ∀ a0 a1 k, LeO (net_reach.f k a0 a1) (net_reach.f (k + 1) a0 a1) := fun _ _ k => LeO.ite ((net_visit.mono_l k).1 _ _ _) (LeO.none _)
def VisitOk (k : Nat) : Prop := ∀ (rows : List (List Int)) (met : List Bool) (s : Int) (r : List Bool) (A0 : Option Addr) (c0 R n c M B V : Nat) (w0 w : World)
  (hR : Kd.C (Kd.slice 3 (Kd.int .i64)) w0 A0 rows.length rows) (hB : Below w0.heap.size w0 w) (hn : met.length = n)
  (hO : Kd.R Kd.bool 4 w w0.heap.size (fun _ => True) (.slice (some ⟨R, 0, none⟩) n c) met)
  (hM : w.heap[M]? = some (.cells #[.slice (some ⟨R, 0, none⟩) n c] 47 (0, 0)))
  (hBx : w.heap[B]? = some (.cells #[.slice A0 rows.length c0] 24 (0, 0)))
  (hV : w.heap[V]? = some (.cells #[.func (.func 103) #[] #[.pointer (some ⟨M, 0, none⟩), .pointer (some ⟨B, 0, none⟩), .pointer (some ⟨V, 0, none⟩)]] 104 (0, 0)))
  (h : net_visit.f k rows met s = some r),
  Calls Try.prog 103 #[.int .i64 s, .pointer (some ⟨M, 0, none⟩), .pointer (some ⟨B, 0, none⟩), .pointer (some ⟨V, 0, none⟩)] w fun e w' =>
   e = .returned (.tuple #[]) ∧ Aside0 (r.length = n) ∧ Kd.R Kd.bool 4 w' w0.heap.size (fun _ => True) (.slice (some ⟨R, 0, none⟩) n c) r ∧ w.grownBy w' (some R)
theorem grown_trans' {w w1 w2 : World} {row : Option Nat} (h : w.grownBy w1 row) (h2 : w1.grownBy w2 row) : w.grownBy w2 row :=
 ⟨h2.os.trans h.os, h2.tape.trans h.tape, h2.output.trans h.output, Nat.le_trans h.size h2.size, fun i hi hne => (h2.block i (Nat.lt_of_lt_of_le hi h.size) hne).trans (h.block i hi hne)⟩
theorem visit_step (k : Nat) (ih : ∀ j, j ≤ k → VisitOk j) : VisitOk (k + 1) := by
 intro rows met s r A0 c0 R n c M B V w0 w hR hB hn hO hM hBx hV h
 have HR := am hR
 have HB := am hB
 have HO := am hO
 have HM := am hM
 have HBx := am hBx
 have HV := am hV
 have IH := am ih
 have HN := am hn
 have hRb : w0.heap.size ≤ R := Kd.R_base hO R rfl
 have H : (if 0 ≤ s then (if s < (met.length : Int) then (if rdOf false met s = true then some met else (if s < (rows.length : Int) then net_visit.l0 k rows (met.set s.toNat true) (rd_L1 rows s) 0 else none)) else none) else none) = some r := by simpa only [net_visit.f] using h
 rw [hn] at H
 clear h ih hR hB hO hM hBx hV hn
 by_cases c1 : 0 ≤ s
 ·rw [if_pos c1] at H
  by_cases c2 : s < (n : Int)
  ·rw [if_pos c2] at H
   have c2b := decide_eq_true c2
   have c1b := decide_eq_true c1
   have hcM : w.cell? ⟨M, 0, none⟩ = some (.slice (some ⟨R, 0, none⟩) n c) := (blk_cell HM.out 0).trans rfl
   obtain ⟨hx0, hf0⟩ := Kd.R_celln false HO.out s c1 c2
   by_cases c3 : rdOf false met s = true
   ·rw [if_pos c3] at H
    obtain rfl := Option.some.inj H
    have hx0' : w.cell? ⟨R, s.toNat, none⟩ = some (.bool true) := by rw [← c3]; exact hx0
    clear hx0 H
    have C3 := am c3
    clear c3
    have p1 := eq_true c1
    have p2 := eq_true c2
    clear c1 c2
    go_enter Try.func103, Try.ntmps103
    go_wp2
    refine bodyPost_ret (results_none rfl _ _ _) rfl ?_
    exact ⟨rfl, HN, HO.out, grown_of_below (Below.refl _ _) _⟩
   ·rw [if_neg c3] at H
    by_cases c4 : s < (rows.length : Int)
    ·rw [if_pos c4] at H
     have c3' : rdOf false met s = false := by simpa using c3
     have hx0' : w.cell? ⟨R, s.toNat, none⟩ = some (.bool false) := by rw [← c3']; exact hx0
     clear hx0 c3 c3'
     obtain ⟨hO1, hG1⟩ := Kd.R_putg HO.out s true
     have HO1 := am hO1
     have HG1 := am hG1
     clear hO1 hG1
     obtain ⟨ad, A1, c5, e, hx, hl, hg⟩ := at_L1 HR.out s c1 c4
     cases e
     have HX := am hx
     have HRow := am hg
     clear hx hg
     generalize hrow : rd_L1 rows s = row at H HX HRow hl
     have HRW := am hrow
     have hrm : row.length ≤ 9223372036854775807 := HRow.out.2.1
     have HLL := am hl
     clear hrow hl
     have H' := am H
     clear H
     have p1 := eq_true c1
     have p2 := eq_true c2
     have p4 := eq_true c4
     clear c1 c2 c4
     go_enter Try.func103, Try.ntmps103
     go_wp2_with (((with_reducible refine gate_store (t := 4) (p := 13) rfl ?_); refine store_event (t := 4) (p := 13) (v := ?vo) (w1 := (w.setCell ⟨R, s.toNat, none⟩ (.bool true))) zz5 zz5 zz5 zz6 ?_; intro w2 hw; have hG2 : w.grownBy w2 (some R) := (by rw [hw]; exact HG1.out); have HO2 : Aside0 (Kd.R Kd.bool 4 w2 w0.heap.size (fun _ => True) (.slice (some ⟨R, 0, none⟩) n c) (met.set s.toNat true)) := ⟨by rw [hw]; exact HO1.out⟩; have HM2 := am (blk_grown HM.out hG2 (Kd.R_ne HO.out HM.out (by decide))); have HBx2 := am (blk_grown HBx.out hG2 (Kd.R_ne HO.out HBx.out (by decide))); have HV2 := am (blk_grown HV.out hG2 (Kd.R_ne HO.out HV.out (by decide))); have HB2 := am (pw_below_grown HB.out (some R) HB.out.size hG2 (fun k e => by cases e; exact hRb)); have HG2 := am hG2; clear hG2 hw; have hcM2 : w2.cell? ⟨M, 0, none⟩ = some (.slice (some ⟨R, 0, none⟩) n c) := (blk_cell HM2.out 0).trans rfl; have hcB2 : w2.cell? ⟨B, 0, none⟩ = some (.slice (some ad) rows.length c0) := (blk_cell HBx2.out 0).trans rfl; have hx2 := pw_cell_below HB2.out HX.out))
     go_loopg [20] k (fun kq v20 w' => ∃ (x : Int) (m : List Bool), v20 = .int .i64 x ∧ Aside0 (net_visit.l0 kq rows m row x = some r) ∧ Aside0 (kq ≤ k) ∧ Aside0 (m.length = n) ∧ Aside0 (Kd.R Kd.bool 4 w' w0.heap.size (fun _ => True) (.slice (some ⟨R, 0, none⟩) n c) m) ∧ Aside0 (w2.grownBy w' (some R)))
     case atStart => exact ⟨0, _, rfl, H', ⟨Nat.le_refl _⟩, ⟨by simpa using HN.out⟩, HO2, ⟨grown_of_below (Below.refl _ _) _⟩⟩
     case round =>
      clear H' hcM2 hcB2 hx2 hx0' hf0 hcM
      obtain ⟨x, m, rfl, HA, HK1, HM1, HOr, HGr⟩ := hrel
      cases gk with
      | zero => exact absurd HA.out (by simp [net_visit.l0])
      | succ k1 =>
       have H := HA.out
       clear HA
       simp only [net_visit.l0] at H
       have HMr := am (blk_grown HM2.out HGr.out (Kd.R_ne HO2.out HM2.out (by decide)))
       have HBxr := am (blk_grown HBx2.out HGr.out (Kd.R_ne HO2.out HBx2.out (by decide)))
       have HVr := am (blk_grown HV2.out HGr.out (Kd.R_ne HO2.out HV2.out (by decide)))
       have HBr := am (pw_below_grown HB2.out (some R) HB2.out.size HGr.out (fun k e => by cases e; exact hRb))
       have hcV : wr.cell? ⟨V, 0, none⟩ = some (.func (.func 103) #[] #[.pointer (some ⟨M, 0, none⟩), .pointer (some ⟨B, 0, none⟩), .pointer (some ⟨V, 0, none⟩)]) := (blk_cell HVr.out 0).trans rfl
       by_cases d1 : x < (row.length : Int)
       ·rw [if_pos d1] at H
        by_cases d2 : 0 ≤ x
        ·rw [if_pos d2] at H
         obtain ⟨m', hm', H⟩ := Option.bind_eq_some_iff.mp H
         obtain ⟨ad2, e2, hxr⟩ := Kd.at_int (Kd.C_below HRow.out HBr.out) x d2 d1
         cases e2
         have HC := am (IH.out k1 (by have := HK1.out; omega) rows m (rd row x) m' (some ad) c0 R n c M B V w0 wr HR.out HBr.out HM1.out HOr.out HMr.out HBxr.out HVr.out hm')
         have H' := am H
         clear H hm'
         have d1b := decide_eq_true d1
         have q1 := eq_true d1
         have q2 := eq_true d2
         clear d1 d2
         go_wp2_with (refine (HC.out.mono ?_); rintro e w3 ⟨rfl, hl3, hO3, hG3⟩; have HO3 := am hO3; have HG3 := am (grown_trans' HGr.out hG3); clear hO3 hG3)
         go_roundg k1
         case measure => have := HK1.out; omega
         case rel => exact ⟨_, m', rfl, H', ⟨by have := HK1.out; omega⟩, hl3, HO3, HG3⟩
        ·rw [if_neg d2] at H; exact absurd H (by simp)
       ·rw [if_neg d1] at H
        obtain rfl := Option.some.inj H
        have d1b := decide_eq_false d1
        clear H
        go_wp2
        first | go_end0 | (refine bodyPost_ret (results_none rfl _ _ _) rfl ?_)
        first | exact ⟨rfl, HOr.out, grown_trans' HG2.out HGr.out⟩ | exact ⟨rfl, HM1, HOr.out, grown_trans' HG2.out HGr.out⟩
    ·rw [if_neg c4] at H; exact absurd H (by simp)
  ·rw [if_neg c2] at H; exact absurd H (by simp)
 ·rw [if_neg c1] at H; exact absurd H (by simp)
theorem visit_ok (k : Nat) : VisitOk k := by
 induction k using Nat.strongRecOn with
 | ind k ih =>
  cases k with
  | zero => intro _ _ _ _ _ _ _ _ _ _ _ _ _ _ _ _ _ _ _ _ _ h; simp [net_visit.f] at h
  | succ k => exact visit_step k (fun j hj => ih j (by omega))
theorem net_reach.calls (k : Nat) (A0_0 : Option Addr) (c0_0 : Nat) (l0_0 : List (List Int)) (a1 : Int) (r : List Bool) (w : World) (hr0_0 : Kd.C (Kd.slice 3 (Kd.int .i64)) w A0_0 l0_0.length l0_0) (hc0_0 : l0_0.length ≤ c0_0) (h : net_reach.f k l0_0 a1 = some r) :
  Calls Try.prog 69 #[.agg #[.slice A0_0 l0_0.length c0_0], .int .i64 a1] w fun e w' => ∃ v0_ : Value, e = .returned v0_ ∧ Kd.R Kd.bool 4 w' w.heap.size (fun _ => True) v0_ r ∧ Below w.heap.size w w' := by
 have HR := am hr0_0
 have HB0 := Below.refl w.heap.size w
 clear hr0_0 hc0_0
 have H : (if l0_0.length ≤ 281474976710656 then net_visit.f k l0_0 (List.replicate l0_0.length false) a1 else none) = some r := h
 clear h
 by_cases c1 : l0_0.length ≤ 281474976710656
 ·rw [if_pos c1] at H
  have hpos : 0 < l0_0.length := by
   cases k with
   | zero => simp [net_visit.f] at H
   | succ k =>
    simp only [net_visit.f, List.length_replicate] at H
    split at H
    ·split at H
     ·omega
     ·cases H
    ·cases H
  have HP := am hpos
  clear hpos
  have HV := am (visit_ok k l0_0 (List.replicate l0_0.length false) a1 r)
  have HH := am H
  clear H
  go_enter Try.func69, Try.ntmps69
  go_wp2_with (first | ((with_reducible refine gate_dst (N := 2) rfl ?_); refine box_event zz5 (N := 2) zz5 (cs := #[.slice A0_0 l0_0.length c0_0]) (t := 24) zz6 ?_; intro B hBe w1 hbox hb1; have hcb : w1.cell? ⟨B, 0, none⟩ = some (.slice A0_0 l0_0.length c0_0) := (blk_cell hbox 0).trans rfl; have HBox := am hbox; have HB1 := am (below_step HB0 hb1); have HBE := am (show w.heap.size ≤ B by omega); clear hbox hb1 hBe)  | ((with_reducible refine gate_dst (N := 10) rfl ?_); refine Kd.R_make Kd.bool _ 4 rfl (N := 10) rfl 47 _ _ rfl (l0_0.length : Int) rfl rfl Try.underlying47 (.bool false) 1 info4 rfl (by decide) (by omega) false (ok := fun _ => True) (okp := fun _ => True) rfl (fun _ hk => hk) trivial (by omega) (by omega) (Below.refl _ _) (Nat.le_refl _) ?_; intro v1 w2 hO hb2 hg2 hnew; have HO := am (Kd.R_lower hO (show w.heap.size ≤ w1.heap.size from HB1.out.size)); obtain ⟨R, c, hv, hRb, hRl, hcl, hRh⟩ := Kd.R_form HO.out (by have := HP.out; simp; omega); subst hv; have HBox2 := am (blk_below HBox.out hb2); have HB2 := am (below_step HB1.out hb2); clear hcb hO hb2 hg2 hnew hRh))
  obtain ⟨W, hW⟩ : ∃ W, W = (w2.alloc (.cells #[.slice (some ⟨R, 0, none⟩) l0_0.length c] 47)).alloc (.cells #[.func (.func 103) #[] #[.pointer (some ⟨w2.heap.size, 0, none⟩), .pointer (some ⟨B, 0, none⟩), .pointer (some ⟨w2.heap.size + 1, 0, none⟩)]] 104) := ⟨_, rfl⟩
  have hbW : Below w2.heap.size w2 W := by rw [hW]; exact ((Below.refl _ _).alloc (Nat.le_refl _) _).alloc (by simp) _
  have hM : W.heap[w2.heap.size]? = some (.cells #[.slice (some ⟨R, 0, none⟩) l0_0.length c] 47 (0, 0)) := by rw [hW]; exact blk_alloc (blk_new _ _) _
  have hV : W.heap[w2.heap.size + 1]? = some (.cells #[.func (.func 103) #[] #[.pointer (some ⟨w2.heap.size, 0, none⟩), .pointer (some ⟨B, 0, none⟩), .pointer (some ⟨w2.heap.size + 1, 0, none⟩)]] 104 (0, 0)) := by
   rw [hW]
   have := blk_new (w2.alloc (.cells #[.slice (some ⟨R, 0, none⟩) l0_0.length c] 47)) (.cells #[.func (.func 103) #[] #[.pointer (some ⟨w2.heap.size, 0, none⟩), .pointer (some ⟨B, 0, none⟩), .pointer (some ⟨w2.heap.size + 1, 0, none⟩)]] 104)
   rwa [World.size_alloc] at this
  rw [← hW]
  have hOW := Kd.R_below HO.out hbW
  simp only [Int.toNat_natCast, List.length_replicate] at hOW
  refine (HV.out A0_0 c0_0 R l0_0.length c w2.heap.size B (w2.heap.size + 1) w W HR.out (below_step HB2.out hbW) (by simp) hOW hM (blk_below HBox2.out hbW) hV HH.out).mono ?_
  rintro e w3 ⟨rfl, hl3, hO3, hG3⟩
  have hM3 := blk_grown hM hG3 (Kd.R_ne hOW hM (by decide))
  have hcM3 : w3.cell? ⟨w2.heap.size, 0, none⟩ = some (.slice (some ⟨R, 0, none⟩) l0_0.length c) := (blk_cell hM3 0).trans rfl
  have HF := am (pw_below_grown (below_step HB2.out hbW) (some R) (below_step HB2.out hbW).size hG3 (fun k e => by cases e; exact Kd.R_base hOW R rfl))
  have HO3 := am hO3
  clear hM3 hG3 hO3 hOW hbW hM hV hW
  go_wp2
  go_ret
  exact ⟨_, rfl, HO3.out, HF.out⟩
 ·rw [if_neg c1] at H; cases H
end Go.Proofs.Ytjgdalhdiohclaa.Q
end
section
namespace Go.Proofs.Ytjgdalhdiohclaa.Q
attribute [local go_sem] max2_int min2_int max_two min_two max_three min_three max_four min_four
def net_connected.l0 : Nat → Int → Int → List (List Int) → Option (Bool)
 | 0, _, _, _ => none
 | k + 1, x6, x7, x316000 => if x7 < x6 then ((net_reach.f k x316000 x7).bind fun t316 => ((slices_Contains_bool_bool.f k t316 false).bind fun t319 => (if t319 = true then (some false) else (net_connected.l0 k x6 (wrap64 (x7 + 1)) x316000)))) else (some true)
def net_connected.f (k : Nat) (l0_0 : List (List Int)) : Option (Bool) := net_connected.l0 k (l0_0.length : Int) 0 l0_0
theorem net_connected.mono_l : ∀ k, (∀ y0 y1 y2, LeO (net_connected.l0 k y0 y1 y2) (net_connected.l0 (k + 1) y0 y1 y2))
 | 0 => fun _ _ _ r h => by simp [net_connected.l0] at h
 | k + 1 => by
  have ih0 := net_connected.mono_l k
  ·intro y0 y1 y2
   unfold net_connected.l0
   with_reducible repeat' first | exact ih0 _ _ _ | exact net_reach.mono _ _ _ | exact slices_Contains_bool_bool.mono _ _ _ | exact LeO.refl _ | exact LeO.none _ | refine LeO.ite ?_ ?_ | refine LeO.bind ?_ (fun _ => ?_)
theorem net_connected.mono : ∀ a0 k, LeO (net_connected.f k a0) (net_connected.f (k + 1) a0) := by
 intro a0 k
 have ih0 := net_connected.mono_l k
 unfold net_connected.f
 with_reducible repeat' first | exact ih0 _ _ _ | exact net_reach.mono _ _ _ | exact slices_Contains_bool_bool.mono _ _ _ | exact LeO.refl _ | exact LeO.none _ | refine LeO.ite ?_ ?_ | refine LeO.bind ?_ (fun _ => ?_)
theorem net_connected.calls (k : Nat) (A0_0 : Option Addr) (c0_0 : Nat) (l0_0 : List (List Int)) (r : Bool) (w : World) (hr0_0 : Kd.C (Kd.slice 3 (Kd.int .i64)) w A0_0 l0_0.length l0_0) (hc0_0 : l0_0.length ≤ c0_0) (h : net_connected.f k l0_0 = some r) :
  Calls Try.prog 64 #[.agg #[.slice A0_0 l0_0.length c0_0]] w fun e w' => e = .returned (.bool r) ∧ Below w.heap.size w w' := by
 have hu24 := Try.underlying24
 have HR0_0 := am hr0_0
 have HC0_0 := am hc0_0
 clear hr0_0 hc0_0
 have HB := am (Below.refl w.heap.size w)
 have H : (net_connected.l0 k (l0_0.length : Int) 0 l0_0) = some r := h
 clear h
 have H' := am H
 clear H
 go_enter Try.func64, Try.ntmps64
 go_wp2_with (first | ((with_reducible refine gate_dst (N := 1) rfl ?_); refine box_event zz5 (N := 1) zz5 (cs := #[.slice A0_0 l0_0.length c0_0]) (t := 24) zz6 ?_; intro gb315 hg w2 hbox hb; have BK315 := am (hbox); have GW315 := am ((by rw [hg]; exact (below_size (bw HB.out)) : w.heap.size ≤ gb315)); have GE315 := am ((by rw [hg]; exact (below_size (bw HB.out)) : w.heap.size ≤ gb315)); replace HB := am (below_step (bw HB.out) hb); clear hb hbox hg; have hcz3_0 : w2.cell? ⟨gb315, 0, none⟩ = some (.slice A0_0 l0_0.length c0_0) := (blk_cell BK315.out 0).trans rfl; have hfz3_0 := blk_frozen BK315.out 0))
 go_loopg [7] k (fun kq v7 w' => ∃ (x7_1 : Int), v7 = .int .i64 x7_1 ∧ Aside0 (net_connected.l0 kq (l0_0.length : Int) x7_1 l0_0 = some r) ∧ Aside0 (kq ≤ k) ∧ Aside0 (w'.heap[gb315]? = some (.cells #[(.slice A0_0 l0_0.length c0_0)] 24 (0, 0))) ∧ Aside0 (Below w.heap.size w w'))
 case atStart => exact ⟨(0), zz3, H', ⟨Nat.le_refl _⟩, ⟨kb BK315.out⟩, ⟨bs HB.out⟩⟩
 case round =>
  clear H'
  (try clear p2); (try clear hcz3_0); (try clear hfz3_0)
  obtain ⟨x7_1, rfl, HA, HK1, BK315, HB⟩ := hrel
  cases gk with
  | zero => exact absurd HA.out (by simp [net_connected.l0])
  | succ k1 =>
   have H := HA.out
   clear HA
   simp only [net_connected.l0] at H
   by_cases c4 : x7_1 < (l0_0.length : Int)
   ·rw [if_pos c4] at H
    have c4b0 : decide (x7_1 < (l0_0.length : Int)) = true := decide_eq_true c4
    clear c4
    replace H := Option.bind_eq_some_iff.mp H
    obtain ⟨t316, A50, H⟩ := H
    replace H : ((slices_Contains_bool_bool.f k1 t316 false).bind fun t319 => (if t319 = true then (some false) else (net_connected.l0 k1 (l0_0.length : Int) (wrap64 (x7_1 + 1)) l0_0))) = some r := H
    have A5 := am A50
    clear A50
    replace H := Option.bind_eq_some_iff.mp H
    obtain ⟨t319, A60, H⟩ := H
    replace H : (if t319 = true then (some false) else (net_connected.l0 k1 (l0_0.length : Int) (wrap64 (x7_1 + 1)) l0_0)) = some r := H
    have A6 := am A60
    clear A60
    by_cases c7 : t319 = true
    ·subst c7
     have H1 : (some false) = some r := by rw [if_pos rfl] at H; exact H
     clear H
     have H := H1
     clear H1
     obtain rfl := Option.some.inj H
     have hcz8_0 : wr.cell? ⟨gb315, 0, none⟩ = some (.slice A0_0 l0_0.length c0_0) := (blk_cell BK315.out 0).trans rfl
     have hfz8_0 := blk_frozen BK315.out 0
     go_wp2_with (first | ((with_reducible refine gate_callee (f := 69) rfl ?_); refine goesL_ (some 12) rfl rfl Try.func69 (by kernel_rfl) rfl #[.agg #[.slice A0_0 l0_0.length c0_0], .int .i64 x7_1] rfl zz1 ?_; (with_reducible refine (net_reach.calls k1 _ _ l0_0 x7_1 t316 _ ?side1 ?side2 A5.out).mono ?_); (case side1 => exact kc (Kd.C_below HR0_0.out HB.out)); (case side2 => exact HC0_0.out); rintro e w9 ⟨v317, rfl, ho0, hb⟩; refine ⟨_, rfl, ?_⟩; have HO318 := am (Kd.R_lower ho0 (below_size (bs HB.out))); replace BK315 := am (blk_below (g := gb315) (o := .cells #[.slice A0_0 l0_0.length c0_0] 24 (0, 0)) (kb BK315.out) hb); replace HB := am (below_step (bs HB.out) hb); (try clear hb); (try clear hb2); (try clear hk); (try clear hi); (try clear ho0); obtain ⟨Ao10, co10, eo10⟩ := Kd.R_slice HO318.out; subst eo10) | ((with_reducible refine gate_callee (f := 102) rfl ?_); refine goesL_ (some 13) rfl rfl Try.func102 (by kernel_rfl) rfl #[.slice Ao10 t316.length co10, .bool false] rfl zz1 ?_; (with_reducible refine (slices_Contains_bool_bool.calls k1 _ _ t316 false true _ ?side1 ?side2 A6.out).mono ?_); (case side1 => repeat (first | exact (Kd.R_reads' HO318.out).2.2 | (with_reducible refine Kd.C_alloc ?_ _) | (with_reducible refine Kd.C_drewN ?_ _) | (with_reducible refine Kd.C_drew ?_))); (case side2 => exact (Kd.R_reads' HO318.out).2.1); rintro e w' ⟨rfl, ⟨nd, rfl⟩⟩; refine ⟨_, rfl, ?_⟩))
     go_ret
     exact ⟨by first | rfl | (simp [errW_none, errW_some] <;> rfl) | (simp [*, errW_none, errW_some] <;> rfl), bs HB.out⟩
    ·replace c7 := Bool.eq_false_iff.mpr c7
     subst c7
     have H1 : (net_connected.l0 k1 (l0_0.length : Int) (wrap64 (x7_1 + 1)) l0_0) = some r := by rw [if_neg (show ¬ (false = true) by decide)] at H; exact H
     clear H
     have H := H1
     clear H1
     have H' := am H
     clear H
     have hcz11_0 : wr.cell? ⟨gb315, 0, none⟩ = some (.slice A0_0 l0_0.length c0_0) := (blk_cell BK315.out 0).trans rfl
     have hfz11_0 := blk_frozen BK315.out 0
     go_wp2_with (first | ((with_reducible refine gate_callee (f := 69) rfl ?_); refine goesL_ (some 12) rfl rfl Try.func69 (by kernel_rfl) rfl #[.agg #[.slice A0_0 l0_0.length c0_0], .int .i64 x7_1] rfl zz1 ?_; (with_reducible refine (net_reach.calls k1 _ _ l0_0 x7_1 t316 _ ?side1 ?side2 A5.out).mono ?_); (case side1 => exact kc (Kd.C_below HR0_0.out HB.out)); (case side2 => exact HC0_0.out); rintro e w12 ⟨v317, rfl, ho0, hb⟩; refine ⟨_, rfl, ?_⟩; have HO318 := am (Kd.R_lower ho0 (below_size (bs HB.out))); replace BK315 := am (blk_below (g := gb315) (o := .cells #[.slice A0_0 l0_0.length c0_0] 24 (0, 0)) (kb BK315.out) hb); replace HB := am (below_step (bs HB.out) hb); (try clear hb); (try clear hb2); (try clear hk); (try clear hi); (try clear ho0); obtain ⟨Ao13, co13, eo13⟩ := Kd.R_slice HO318.out; subst eo13) | ((with_reducible refine gate_callee (f := 102) rfl ?_); refine goesL_ (some 13) rfl rfl Try.func102 (by kernel_rfl) rfl #[.slice Ao13 t316.length co13, .bool false] rfl zz1 ?_; (with_reducible refine (slices_Contains_bool_bool.calls k1 _ _ t316 false false _ ?side1 ?side2 A6.out).mono ?_); (case side1 => repeat (first | exact (Kd.R_reads' HO318.out).2.2 | (with_reducible refine Kd.C_alloc ?_ _) | (with_reducible refine Kd.C_drewN ?_ _) | (with_reducible refine Kd.C_drew ?_))); (case side2 => exact (Kd.R_reads' HO318.out).2.1); rintro e w' ⟨rfl, ⟨nd, rfl⟩⟩; refine ⟨_, rfl, ?_⟩))
     go_roundg k1
     case measure => have := HK1.out; omega
     case rel => exact ⟨(wrap64 (x7_1 + 1)), zz3, H', ⟨by have := HK1.out; omega⟩, ⟨kb BK315.out⟩, ⟨bs HB.out⟩⟩
   ·rw [if_neg c4] at H
    have c4b0 : decide (x7_1 < (l0_0.length : Int)) = false := decide_eq_false c4
    clear c4
    obtain rfl := Option.some.inj H
    go_wp2
    go_ret
    exact ⟨by first | rfl | (simp [errW_none, errW_some] <;> rfl) | (simp [*, errW_none, errW_some] <;> rfl), bs HB.out⟩
end Go.Proofs.Ytjgdalhdiohclaa.Q
end
section
namespace Go.Proofs.Ytjgdalhdiohclaa.Q
attribute [local go_sem] max2_int min2_int max_two min_two max_three min_three max_four min_four
def net_Period.f (k : Nat) (l0_0 : List (List Int)) : Option (Int × Int) := (auto_Valid.f l0_0).bind fun t352 => (if t352 = true then ((net_connected.f k l0_0).bind fun t353 => (if t353 = true then ((net_period.f k l0_0).bind fun t354 => (some (t354, 0))) else (some (0, 2)))) else (some (0, 1)))
theorem net_Period.mono : ∀ a0 k, LeO (net_Period.f k a0) (net_Period.f (k + 1) a0) := by
 intro a0 k
 unfold net_Period.f
 with_reducible repeat' first | exact net_connected.mono _ _ | exact net_period.mono _ _ | exact LeO.refl _ | exact LeO.none _ | refine LeO.ite ?_ ?_ | refine LeO.bind ?_ (fun _ => ?_)
theorem net_Period.calls (k : Nat) (A0_0 : Option Addr) (c0_0 : Nat) (l0_0 : List (List Int)) (r1 : Int) (r2 : Int) (w : World) (hr0_0 : Kd.C (Kd.slice 3 (Kd.int .i64)) w A0_0 l0_0.length l0_0) (hc0_0 : l0_0.length ≤ c0_0) (h : net_Period.f k l0_0 = some (r1, r2)) :
  Calls Try.prog 25 #[.agg #[.slice A0_0 l0_0.length c0_0]] w fun e w' => e = .returned (.tuple #[.int .i64 r1, .int .i64 r2]) ∧ Below w.heap.size w w' := by
 have hu24 := Try.underlying24
 have HR0_0 := am hr0_0
 have HC0_0 := am hc0_0
 clear hr0_0 hc0_0
 have HB := am (Below.refl w.heap.size w)
 have H : ((auto_Valid.f l0_0).bind fun t352 => (if t352 = true then ((net_connected.f k l0_0).bind fun t353 => (if t353 = true then ((net_period.f k l0_0).bind fun t354 => (some (t354, 0))) else (some (0, 2)))) else (some (0, 1)))) = some (r1, r2) := h
 clear h
 replace H := Option.bind_eq_some_iff.mp H
 obtain ⟨t352, A20, H⟩ := H
 replace H : (if t352 = true then ((net_connected.f k l0_0).bind fun t353 => (if t353 = true then ((net_period.f k l0_0).bind fun t354 => (some (t354, 0))) else (some (0, 2)))) else (some (0, 1))) = some (r1, r2) := H
 have A2 := am A20
 clear A20
 by_cases c3 : t352 = true
 ·subst c3
  have H1 : ((net_connected.f k l0_0).bind fun t353 => (if t353 = true then ((net_period.f k l0_0).bind fun t354 => (some (t354, 0))) else (some (0, 2)))) = some (r1, r2) := by rw [if_pos rfl] at H; exact H
  clear H
  have H := H1
  clear H1
  replace H := Option.bind_eq_some_iff.mp H
  obtain ⟨t353, A40, H⟩ := H
  replace H : (if t353 = true then ((net_period.f k l0_0).bind fun t354 => (some (t354, 0))) else (some (0, 2))) = some (r1, r2) := H
  have A4 := am A40
  clear A40
  by_cases c5 : t353 = true
  ·subst c5
   have H1 : ((net_period.f k l0_0).bind fun t354 => (some (t354, 0))) = some (r1, r2) := by rw [if_pos rfl] at H; exact H
   clear H
   have H := H1
   clear H1
   replace H := Option.bind_eq_some_iff.mp H
   obtain ⟨t354, A60, H⟩ := H
   replace H : (some (t354, 0)) = some (r1, r2) := H
   have A6 := am A60
   clear A60
   simp only [Option.some.injEq, Prod.mk.injEq] at H
   obtain ⟨rfl, rfl⟩ := H
   go_enter Try.func25, Try.ntmps25
   go_wp2_with (first | ((with_reducible refine gate_dst (N := 1) rfl ?_); refine box_event zz5 (N := 1) zz5 (cs := #[.slice A0_0 l0_0.length c0_0]) (t := 24) zz6 ?_; intro gb351 hg w7 hbox hb; have BK351 := am (hbox); have GW351 := am ((by rw [hg]; exact (below_size (bw HB.out)) : w.heap.size ≤ gb351)); have GE351 := am ((by rw [hg]; exact (below_size (bw HB.out)) : w.heap.size ≤ gb351)); replace HB := am (below_step (bw HB.out) hb); clear hb hbox hg; have hcz8_0 : w7.cell? ⟨gb351, 0, none⟩ = some (.slice A0_0 l0_0.length c0_0) := (blk_cell BK351.out 0).trans rfl; have hfz8_0 := blk_frozen BK351.out 0) | ((with_reducible refine gate_callee (f := 63) rfl ?_); refine goesL_ (some 6) rfl rfl Try.func63 (by kernel_rfl) rfl #[.agg #[.slice A0_0 l0_0.length c0_0]] rfl zz1 ?_; (with_reducible refine (auto_Valid.calls _ _ l0_0 true _ ?side1 ?side2 A2.out).mono ?_); (case side1 => exact kc (Kd.C_below HR0_0.out HB.out)); (case side2 => exact HC0_0.out); rintro e w9 ⟨rfl, hb⟩; refine ⟨_, rfl, ?_⟩; replace BK351 := am (blk_below (g := gb351) (o := .cells #[.slice A0_0 l0_0.length c0_0] 24 (0, 0)) (kb BK351.out) hb); replace HB := am (below_step (bs HB.out) hb); (try clear hb); (try clear hb2); (try clear hk); (try clear hi); have hcz10_0 : w9.cell? ⟨gb351, 0, none⟩ = some (.slice A0_0 l0_0.length c0_0) := (blk_cell BK351.out 0).trans rfl; have hfz10_0 := blk_frozen BK351.out 0) | ((with_reducible refine gate_callee (f := 64) rfl ?_); refine goesL_ (some 10) rfl rfl Try.func64 (by kernel_rfl) rfl #[.agg #[.slice A0_0 l0_0.length c0_0]] rfl zz1 ?_; (with_reducible refine (net_connected.calls k _ _ l0_0 true _ ?side1 ?side2 A4.out).mono ?_); (case side1 => exact kc (Kd.C_below HR0_0.out HB.out)); (case side2 => exact HC0_0.out); rintro e w11 ⟨rfl, hb⟩; refine ⟨_, rfl, ?_⟩; replace BK351 := am (blk_below (g := gb351) (o := .cells #[.slice A0_0 l0_0.length c0_0] 24 (0, 0)) (kb BK351.out) hb); replace HB := am (below_step (bs HB.out) hb); (try clear hb); (try clear hb2); (try clear hk); (try clear hi); have hcz12_0 : w11.cell? ⟨gb351, 0, none⟩ = some (.slice A0_0 l0_0.length c0_0) := (blk_cell BK351.out 0).trans rfl; have hfz12_0 := blk_frozen BK351.out 0) | ((with_reducible refine gate_callee (f := 70) rfl ?_); refine goesL_ (some 13) rfl rfl Try.func70 (by kernel_rfl) rfl #[.agg #[.slice A0_0 l0_0.length c0_0]] rfl zz1 ?_; (with_reducible refine (net_period.calls k _ _ l0_0 t354 _ ?side1 ?side2 A6.out).mono ?_); (case side1 => exact kc (Kd.C_below HR0_0.out HB.out)); (case side2 => exact HC0_0.out); rintro e w13 ⟨rfl, hb⟩; refine ⟨_, rfl, ?_⟩; replace BK351 := am (blk_below (g := gb351) (o := .cells #[.slice A0_0 l0_0.length c0_0] 24 (0, 0)) (kb BK351.out) hb); replace HB := am (below_step (bs HB.out) hb); (try clear hb); (try clear hb2); (try clear hk); (try clear hi)))
   go_ret2
   exact ⟨by first | rfl | (simp [errW_none, errW_some] <;> rfl) | (simp [*, errW_none, errW_some] <;> rfl), bs HB.out⟩
  ·replace c5 := Bool.eq_false_iff.mpr c5
   subst c5
   have H1 : (some (0, 2)) = some (r1, r2) := by rw [if_neg (show ¬ (false = true) by decide)] at H; exact H
   clear H
   have H := H1
   clear H1
   simp only [Option.some.injEq, Prod.mk.injEq] at H
   obtain ⟨rfl, rfl⟩ := H
   go_enter Try.func25, Try.ntmps25
   go_wp2_with (first | ((with_reducible refine gate_dst (N := 1) rfl ?_); refine box_event zz5 (N := 1) zz5 (cs := #[.slice A0_0 l0_0.length c0_0]) (t := 24) zz6 ?_; intro gb351 hg w14 hbox hb; have BK351 := am (hbox); have GW351 := am ((by rw [hg]; exact (below_size (bw HB.out)) : w.heap.size ≤ gb351)); have GE351 := am ((by rw [hg]; exact (below_size (bw HB.out)) : w.heap.size ≤ gb351)); replace HB := am (below_step (bw HB.out) hb); clear hb hbox hg; have hcz15_0 : w14.cell? ⟨gb351, 0, none⟩ = some (.slice A0_0 l0_0.length c0_0) := (blk_cell BK351.out 0).trans rfl; have hfz15_0 := blk_frozen BK351.out 0) | ((with_reducible refine gate_callee (f := 63) rfl ?_); refine goesL_ (some 6) rfl rfl Try.func63 (by kernel_rfl) rfl #[.agg #[.slice A0_0 l0_0.length c0_0]] rfl zz1 ?_; (with_reducible refine (auto_Valid.calls _ _ l0_0 true _ ?side1 ?side2 A2.out).mono ?_); (case side1 => exact kc (Kd.C_below HR0_0.out HB.out)); (case side2 => exact HC0_0.out); rintro e w16 ⟨rfl, hb⟩; refine ⟨_, rfl, ?_⟩; replace BK351 := am (blk_below (g := gb351) (o := .cells #[.slice A0_0 l0_0.length c0_0] 24 (0, 0)) (kb BK351.out) hb); replace HB := am (below_step (bs HB.out) hb); (try clear hb); (try clear hb2); (try clear hk); (try clear hi); have hcz17_0 : w16.cell? ⟨gb351, 0, none⟩ = some (.slice A0_0 l0_0.length c0_0) := (blk_cell BK351.out 0).trans rfl; have hfz17_0 := blk_frozen BK351.out 0) | ((with_reducible refine gate_callee (f := 64) rfl ?_); refine goesL_ (some 10) rfl rfl Try.func64 (by kernel_rfl) rfl #[.agg #[.slice A0_0 l0_0.length c0_0]] rfl zz1 ?_; (with_reducible refine (net_connected.calls k _ _ l0_0 false _ ?side1 ?side2 A4.out).mono ?_); (case side1 => exact kc (Kd.C_below HR0_0.out HB.out)); (case side2 => exact HC0_0.out); rintro e w18 ⟨rfl, hb⟩; refine ⟨_, rfl, ?_⟩; replace BK351 := am (blk_below (g := gb351) (o := .cells #[.slice A0_0 l0_0.length c0_0] 24 (0, 0)) (kb BK351.out) hb); replace HB := am (below_step (bs HB.out) hb); (try clear hb); (try clear hb2); (try clear hk); (try clear hi)))
   go_ret2
   exact ⟨by first | rfl | (simp [errW_none, errW_some] <;> rfl) | (simp [*, errW_none, errW_some] <;> rfl), bs HB.out⟩
 ·replace c3 := Bool.eq_false_iff.mpr c3
  subst c3
  have H1 : (some (0, 1)) = some (r1, r2) := by rw [if_neg (show ¬ (false = true) by decide)] at H; exact H
  clear H
  have H := H1
  clear H1
  simp only [Option.some.injEq, Prod.mk.injEq] at H
  obtain ⟨rfl, rfl⟩ := H
  go_enter Try.func25, Try.ntmps25
  go_wp2_with (first | ((with_reducible refine gate_dst (N := 1) rfl ?_); refine box_event zz5 (N := 1) zz5 (cs := #[.slice A0_0 l0_0.length c0_0]) (t := 24) zz6 ?_; intro gb351 hg w19 hbox hb; have BK351 := am (hbox); have GW351 := am ((by rw [hg]; exact (below_size (bw HB.out)) : w.heap.size ≤ gb351)); have GE351 := am ((by rw [hg]; exact (below_size (bw HB.out)) : w.heap.size ≤ gb351)); replace HB := am (below_step (bw HB.out) hb); clear hb hbox hg; have hcz20_0 : w19.cell? ⟨gb351, 0, none⟩ = some (.slice A0_0 l0_0.length c0_0) := (blk_cell BK351.out 0).trans rfl; have hfz20_0 := blk_frozen BK351.out 0) | ((with_reducible refine gate_callee (f := 63) rfl ?_); refine goesL_ (some 6) rfl rfl Try.func63 (by kernel_rfl) rfl #[.agg #[.slice A0_0 l0_0.length c0_0]] rfl zz1 ?_; (with_reducible refine (auto_Valid.calls _ _ l0_0 false _ ?side1 ?side2 A2.out).mono ?_); (case side1 => exact kc (Kd.C_below HR0_0.out HB.out)); (case side2 => exact HC0_0.out); rintro e w21 ⟨rfl, hb⟩; refine ⟨_, rfl, ?_⟩; replace BK351 := am (blk_below (g := gb351) (o := .cells #[.slice A0_0 l0_0.length c0_0] 24 (0, 0)) (kb BK351.out) hb); replace HB := am (below_step (bs HB.out) hb); (try clear hb); (try clear hb2); (try clear hk); (try clear hi)))
  go_ret2
  exact ⟨by first | rfl | (simp [errW_none, errW_some] <;> rfl) | (simp [*, errW_none, errW_some] <;> rfl), bs HB.out⟩
end Go.Proofs.Ytjgdalhdiohclaa.Q
end
section
namespace Go.Proofs.Ytjgdalhdiohclaa.Q
attribute [local go_sem] max2_int min2_int max_two min_two max_three min_three max_four min_four
def net_Connected.f (k : Nat) (l0_0 : List (List Int)) : Option (Bool × Int) := (auto_Valid.f l0_0).bind fun t654 => (if t654 = true then ((net_connected.f k l0_0).bind fun t655 => (some (t655, 0))) else (some (false, 1)))
theorem net_Connected.calls (k : Nat) (A0_0 : Option Addr) (c0_0 : Nat) (l0_0 : List (List Int)) (r1 : Bool) (r2 : Int) (w : World) (hr0_0 : Kd.C (Kd.slice 3 (Kd.int .i64)) w A0_0 l0_0.length l0_0) (hc0_0 : l0_0.length ≤ c0_0) (h : net_Connected.f k l0_0 = some (r1, r2)) :
  Calls Try.prog 16 #[.agg #[.slice A0_0 l0_0.length c0_0]] w fun e w' => e = .returned (.tuple #[.bool r1, .int .i64 r2]) ∧ Below w.heap.size w w' := by
 have hu24 := Try.underlying24
 have HR0_0 := am hr0_0
 have HC0_0 := am hc0_0
 clear hr0_0 hc0_0
 have HB := am (Below.refl w.heap.size w)
 have H : ((auto_Valid.f l0_0).bind fun t654 => (if t654 = true then ((net_connected.f k l0_0).bind fun t655 => (some (t655, 0))) else (some (false, 1)))) = some (r1, r2) := h
 clear h
 replace H := Option.bind_eq_some_iff.mp H
 obtain ⟨t654, A20, H⟩ := H
 replace H : (if t654 = true then ((net_connected.f k l0_0).bind fun t655 => (some (t655, 0))) else (some (false, 1))) = some (r1, r2) := H
 have A2 := am A20
 clear A20
 by_cases c3 : t654 = true
 ·subst c3
  have H1 : ((net_connected.f k l0_0).bind fun t655 => (some (t655, 0))) = some (r1, r2) := by rw [if_pos rfl] at H; exact H
  clear H
  have H := H1
  clear H1
  replace H := Option.bind_eq_some_iff.mp H
  obtain ⟨t655, A40, H⟩ := H
  replace H : (some (t655, 0)) = some (r1, r2) := H
  have A4 := am A40
  clear A40
  simp only [Option.some.injEq, Prod.mk.injEq] at H
  obtain ⟨rfl, rfl⟩ := H
  go_enter Try.func16, Try.ntmps16
  go_wp2_with (first | ((with_reducible refine gate_dst (N := 1) rfl ?_); refine box_event zz5 (N := 1) zz5 (cs := #[.slice A0_0 l0_0.length c0_0]) (t := 24) zz6 ?_; intro gb653 hg w5 hbox hb; have BK653 := am (hbox); have GW653 := am ((by rw [hg]; exact (below_size (bw HB.out)) : w.heap.size ≤ gb653)); have GE653 := am ((by rw [hg]; exact (below_size (bw HB.out)) : w.heap.size ≤ gb653)); replace HB := am (below_step (bw HB.out) hb); clear hb hbox hg; have hcz6_0 : w5.cell? ⟨gb653, 0, none⟩ = some (.slice A0_0 l0_0.length c0_0) := (blk_cell BK653.out 0).trans rfl; have hfz6_0 := blk_frozen BK653.out 0) | ((with_reducible refine gate_callee (f := 63) rfl ?_); refine goesL_ (some 5) rfl rfl Try.func63 (by kernel_rfl) rfl #[.agg #[.slice A0_0 l0_0.length c0_0]] rfl zz1 ?_; (with_reducible refine (auto_Valid.calls _ _ l0_0 true _ ?side1 ?side2 A2.out).mono ?_); (case side1 => exact kc (Kd.C_below HR0_0.out HB.out)); (case side2 => exact HC0_0.out); rintro e w7 ⟨rfl, hb⟩; refine ⟨_, rfl, ?_⟩; replace BK653 := am (blk_below (g := gb653) (o := .cells #[.slice A0_0 l0_0.length c0_0] 24 (0, 0)) (kb BK653.out) hb); replace HB := am (below_step (bs HB.out) hb); (try clear hb); (try clear hb2); (try clear hk); (try clear hi); have hcz8_0 : w7.cell? ⟨gb653, 0, none⟩ = some (.slice A0_0 l0_0.length c0_0) := (blk_cell BK653.out 0).trans rfl; have hfz8_0 := blk_frozen BK653.out 0) | ((with_reducible refine gate_callee (f := 64) rfl ?_); refine goesL_ (some 8) rfl rfl Try.func64 (by kernel_rfl) rfl #[.agg #[.slice A0_0 l0_0.length c0_0]] rfl zz1 ?_; (with_reducible refine (net_connected.calls k _ _ l0_0 t655 _ ?side1 ?side2 A4.out).mono ?_); (case side1 => exact kc (Kd.C_below HR0_0.out HB.out)); (case side2 => exact HC0_0.out); rintro e w9 ⟨rfl, hb⟩; refine ⟨_, rfl, ?_⟩; replace BK653 := am (blk_below (g := gb653) (o := .cells #[.slice A0_0 l0_0.length c0_0] 24 (0, 0)) (kb BK653.out) hb); replace HB := am (below_step (bs HB.out) hb); (try clear hb); (try clear hb2); (try clear hk); (try clear hi)))
  go_ret2
  exact ⟨by first | rfl | (simp [errW_none, errW_some] <;> rfl) | (simp [*, errW_none, errW_some] <;> rfl), bs HB.out⟩
 ·replace c3 := Bool.eq_false_iff.mpr c3
  subst c3
  have H1 : (some (false, 1)) = some (r1, r2) := by rw [if_neg (show ¬ (false = true) by decide)] at H; exact H
  clear H
  have H := H1
  clear H1
  simp only [Option.some.injEq, Prod.mk.injEq] at H
  obtain ⟨rfl, rfl⟩ := H
  go_enter Try.func16, Try.ntmps16
  go_wp2_with (first | ((with_reducible refine gate_dst (N := 1) rfl ?_); refine box_event zz5 (N := 1) zz5 (cs := #[.slice A0_0 l0_0.length c0_0]) (t := 24) zz6 ?_; intro gb653 hg w10 hbox hb; have BK653 := am (hbox); have GW653 := am ((by rw [hg]; exact (below_size (bw HB.out)) : w.heap.size ≤ gb653)); have GE653 := am ((by rw [hg]; exact (below_size (bw HB.out)) : w.heap.size ≤ gb653)); replace HB := am (below_step (bw HB.out) hb); clear hb hbox hg; have hcz11_0 : w10.cell? ⟨gb653, 0, none⟩ = some (.slice A0_0 l0_0.length c0_0) := (blk_cell BK653.out 0).trans rfl; have hfz11_0 := blk_frozen BK653.out 0) | ((with_reducible refine gate_callee (f := 63) rfl ?_); refine goesL_ (some 5) rfl rfl Try.func63 (by kernel_rfl) rfl #[.agg #[.slice A0_0 l0_0.length c0_0]] rfl zz1 ?_; (with_reducible refine (auto_Valid.calls _ _ l0_0 false _ ?side1 ?side2 A2.out).mono ?_); (case side1 => exact kc (Kd.C_below HR0_0.out HB.out)); (case side2 => exact HC0_0.out); rintro e w12 ⟨rfl, hb⟩; refine ⟨_, rfl, ?_⟩; replace BK653 := am (blk_below (g := gb653) (o := .cells #[.slice A0_0 l0_0.length c0_0] 24 (0, 0)) (kb BK653.out) hb); replace HB := am (below_step (bs HB.out) hb); (try clear hb); (try clear hb2); (try clear hk); (try clear hi)))
  go_ret2
  exact ⟨by first | rfl | (simp [errW_none, errW_some] <;> rfl) | (simp [*, errW_none, errW_some] <;> rfl), bs HB.out⟩
end Go.Proofs.Ytjgdalhdiohclaa.Q
end
section
namespace Go.Proofs.Ytjgdalhdiohclaa.Q
attribute [local go_sem] max2_int min2_int max_two min_two max_three min_three max_four min_four
end Go.Proofs.Ytjgdalhdiohclaa.Q
end
section
namespace Go.Proofs.Ytjgdalhdiohclaa.Q
attribute [local go_sem] max2_int min2_int max_two min_two max_three min_three max_four min_four
end Go.Proofs.Ytjgdalhdiohclaa.Q
end
