/- Part of the proof of TopColours (text 24 of 33) -/
import Derived.Test.YtjgdalhdiohclaaZTopColoursw
import Derived.Test.YtjgdalhdiohclaaZTopColourso
import Derived.Test.YtjgdalhdiohclaaZTopColoursh
set_option linter.unusedVariables false
set_option linter.unusedSimpArgs false
set_option linter.unusedSectionVars false
set_option maxRecDepth 100000
set_option maxHeartbeats 8000000
open Go.RowKit Go.Proofs.YtjgdalhdiohclaaW.PrintWords Go.Proofs.YtjgdalhdiohclaaW.PrintLast Go.Proofs.YtjgdalhdiohclaaW.PrintMore
section
namespace Go.Proofs.Ytjgdalhdiohclaa.Q
def insI (x : Int) : List Int → List Int
 | [] => [x]
 | y :: l => if x ≤ y then x :: y :: l else y :: insI x l
def isort : List Int → List Int
 | [] => []
 | x :: l => insI x (isort l)
theorem insI_perm (x : Int) : ∀ l, (insI x l).Perm (x :: l)
 | [] => List.Perm.refl _
 | y :: l => by
  unfold insI
  split
  ·exact List.Perm.refl _
  ·exact ((insI_perm x l).cons y).trans (List.Perm.swap x y l)
theorem isort_perm : ∀ l, (isort l).Perm l
 | [] => List.Perm.refl _
 | x :: l => (insI_perm x _).trans ((isort_perm l).cons x)
theorem insI_sorted (x : Int) : ∀ l, l.Pairwise (· ≤ ·) → (insI x l).Pairwise (· ≤ ·)
 | [], _ => by simp [insI]
 | y :: l, h => by
  obtain ⟨h1, h2⟩ := List.pairwise_cons.1 h
  unfold insI
  split
  ·next hxy => exact List.pairwise_cons.2 ⟨fun a ha => by rcases List.mem_cons.1 ha with rfl | ha; exact hxy; exact Int.le_trans hxy (h1 a ha), h⟩
  ·next hxy => exact List.pairwise_cons.2 ⟨fun a ha => by rcases List.mem_cons.1 ((insI_perm x l).mem_iff.1 ha) with rfl | ha; omega; exact h1 a ha, insI_sorted x l h2⟩
theorem isort_sorted : ∀ l, (isort l).Pairwise (· ≤ ·)
 | [] => List.Pairwise.nil
 | x :: l => insI_sorted x _ (isort_sorted l)
theorem isort_eq (l : List Int) : l.mergeSort (fun x y => decide (x ≤ y)) = isort l := by
 have h := List.pairwise_mergeSort (le := fun x y : Int => decide (x ≤ y)) (fun a b c h1 h2 => by simp at *; omega) (fun a b => by simp; omega) l
 refine List.Perm.eq_of_pairwise (le := (· ≤ ·)) (fun a b _ _ h1 h2 => Int.le_antisymm h1 h2) (h.imp fun h => by simpa using h) (isort_sorted l) ((List.mergeSort_perm l _).trans (isort_perm l).symm)
def color_sorted.f (l0 : List Int) : Option (List Int) := if l0.length < 17592186044416 then some (isort l0) else none
theorem color_sorted.calls (A0 : Option Addr) (c0 : Nat) (l0 : List Int) (r : List Int) (w : World) (hr0 : Kd.C (Kd.int .i64) w A0 l0.length l0) (hc0 : l0.length ≤ c0) (h : color_sorted.f l0 = some r) :
  Calls Try.prog 82 #[.slice A0 l0.length c0] w fun e w' => ∃ v0_ : Value, e = .returned v0_ ∧ Kd.R (Kd.int .i64) 3 w' w.heap.size (fun _ => True) v0_ r ∧ Below w.heap.size w w' := by
 unfold color_sorted.f at h
 by_cases d : l0.length < 17592186044416
 ·rw [if_pos d] at h
  obtain rfl := Option.some.inj h
  have D := am (show l0.length < 4611686018427387904 by omega)
  have HF := am (show slices_Clone_int_int.f l0 = some l0 by unfold slices_Clone_int_int.f; rw [if_pos d])
  have HI := isort_eq l0
  have HR := am hr0
  have HC := am hc0
  clear h d hr0 hc0
  go_enter Try.func82, Try.ntmps82
  go_wp2_with (first | (go_at_call 66; refine (slices_Clone_int_int.calls _ _ l0 l0 _ HR.out HC.out HF.out).mono ?_; rintro e w1 ⟨v1, rfl, hO, hb⟩; have HO := am hO; have HB := am hb; clear hO hb)  | (go_at_call 76; refine (sort_R HO.out D.out).mono ?_; rintro e w2 ⟨rfl, hO2, hg⟩; have HB2 := am (pw_below_grown HB.out v1.ownBlock HB.out.size hg (fun k hk => Kd.R_base HO.out k hk)); have HO2 := am hO2; clear hO2 hg))
  go_ret
  exact ⟨_, rfl, HI ▸ HO2.out, HB2.out⟩
 ·rw [if_neg d] at h; cases h
end Go.Proofs.Ytjgdalhdiohclaa.Q
end
section
namespace Go.Proofs.Ytjgdalhdiohclaa.Q
attribute [local go_sem] max2_int min2_int max_two min_two max_three min_three max_four min_four
mutual
def color_Same.j0 : Nat → Bool → List (List Int) → List (List Int) → Option (Bool × Int)
 | 0, _, _, _ => none
 | k + 1, x7, x263000, x264000 => if x7 = true then (some (false, 1)) else (if (x263000.length : Int) = (x264000.length : Int) then (color_Same.l0 k (x263000.length : Int) 0 x263000 x264000) else (some (false, 0)))
def color_Same.l0 : Nat → Int → Int → List (List Int) → List (List Int) → Option (Bool × Int)
 | 0, _, _, _, _ => none
 | k + 1, x26, x27, x263000, x264000 => if x27 < x26 then (if 0 ≤ x27 then (if x27 < (x263000.length : Int) then ((color_sorted.f (rd_L1 x263000 x27)).bind fun t267 => (if x27 < (x264000.length : Int) then ((color_sorted.f (rd_L1 x264000 x27)).bind fun t271 => ((slices_Equal_int_int.f k t267 t271).bind fun t274 => (if t274 = true then (color_Same.l0 k x26 (wrap64 (x27 + 1)) x263000 x264000) else (some (false, 0))))) else (none))) else (none)) else (none)) else (some (true, 0))
end
def color_Same.f (k : Nat) (l0_0 : List (List Int)) (l1_0 : List (List Int)) : Option (Bool × Int) := (auto_Valid.f l0_0).bind fun t264 => (if t264 = true then ((auto_Valid.f l1_0).bind fun t265 => (color_Same.j0 k (!t265) l0_0 l1_0)) else (color_Same.j0 k true l0_0 l1_0))
def color_Same.T8 : Bool × List (List Nat × List Nat) := (true, [([], []), ([0], [0]), ([], []), ([1, 2], [1, 2]), ([3], [3]), ([4], [4]), ([], []), ([6], [6]), ([], []), ([7, 8], [7, 8]), ([9], [9]), ([10, 5], [10]), ([5, 11, 11], [5, 11]), ([12], [12])])
def color_Same.B8 : List Nat := [0, 1, 0, 7, 15, 31, 0, 64, 0, 448, 960, 2047, 4095, 8191]
theorem color_Same.tab8 : rtab .any (opsOf Try.f42 8) = color_Same.T8 := by kernel_rfl
theorem color_Same.bits8 : waitsOk color_Same.T8.2 color_Same.B8 = true := by kernel_rfl
def cs0 : Array Bool := #[true, false, false, false, false, false, false, false, false, false, false, false, false, false]
def cs1 : Array Bool := #[true, false, true, false, false, false, false, false, false, false, false, false, false, false]
def cs2 : Array Bool := #[true, false, true, false, false, false, true, false, false, false, false, false, false, false]
def cs3 : Array Bool := #[true, false, true, false, false, false, true, false, true, false, false, false, false, false]
def cs4 : Array Bool := #[true, true, true, false, false, false, true, false, true, false, false, false, false, false]
def cs5 : Array Bool := #[true, true, true, true, false, false, true, false, true, false, false, false, false, false]
def cs6 : Array Bool := #[true, true, true, true, true, false, true, false, true, false, false, false, false, false]
def cs7 : Array Bool := #[true, true, true, true, true, false, true, true, true, false, false, false, false, false]
def cs8 : Array Bool := #[true, true, true, true, true, false, true, true, true, true, false, false, false, false]
def cs9 : Array Bool := #[true, true, true, true, true, false, true, true, true, true, true, false, false, false]
def cs10 : Array Bool := #[true, true, true, true, true, true, true, true, true, true, true, false, false, false]
def cs11 : Array Bool := #[true, true, true, true, true, true, true, true, true, true, true, true, false, false]
def cs12 : Array Bool := #[true, true, true, true, true, true, true, true, true, true, true, true, true, false]
def cs13 : Array Bool := #[true, true, true, true, true, true, true, true, true, true, true, true, true, true]
theorem color_Same.calls (k : Nat) (A0_0 : Option Addr) (c0_0 : Nat) (l0_0 : List (List Int)) (A1_0 : Option Addr) (c1_0 : Nat) (l1_0 : List (List Int)) (r1 : Bool) (r2 : Int) (w : World) (hr0_0 : Kd.C (Kd.slice 3 (Kd.int .i64)) w A0_0 l0_0.length l0_0) (hc0_0 : l0_0.length ≤ c0_0) (hr1_0 : Kd.C (Kd.slice 3 (Kd.int .i64)) w A1_0 l1_0.length l1_0) (hc1_0 : l1_0.length ≤ c1_0) (h : color_Same.f k l0_0 l1_0 = some (r1, r2)) :
    Calls Try.prog 42 #[.agg #[.slice A0_0 l0_0.length c0_0], .agg #[.slice A1_0 l1_0.length c1_0]] w fun e w' => e = .returned (.tuple #[.bool r1, .int .i64 r2]) ∧ Below w.heap.size w w' := by
 have hu24 := Try.underlying24
 have HR0_0 := am hr0_0
 have HC0_0 := am hc0_0
 clear hr0_0 hc0_0
 have HR1_0 := am hr1_0
 have HC1_0 := am hc1_0
 clear hr1_0 hc1_0
 have HB := am (Below.refl w.heap.size w)
 have H : ((auto_Valid.f l0_0).bind fun t264 => (if t264 = true then ((auto_Valid.f l1_0).bind fun t265 => (color_Same.j0 k (!t265) l0_0 l1_0)) else (color_Same.j0 k true l0_0 l1_0))) = some (r1, r2) := h
 clear h
 have HC3 := am H
 clear H
 go_enter Try.func42, Try.ntmps42
 go_upto_region 1 with (first | ((with_reducible refine gate_dst (N := 2) rfl ?_); refine box_event zz5 (N := 2) zz5 (cs := #[.slice A0_0 l0_0.length c0_0]) (t := 24) zz6 ?_; intro gb262 hg w4 hbox hb; have BK262 := am (hbox); have GW262 := am ((by rw [hg]; exact (below_size (bw HB.out)) : w.heap.size ≤ gb262)); have GE262 := am ((by rw [hg]; exact (below_size (bw HB.out)) : w.heap.size ≤ gb262)); replace HB := am (below_step (bw HB.out) hb); clear hb hbox hg) | ((with_reducible refine gate_dst (N := 3) rfl ?_); refine box_event zz5 (N := 3) zz5 (cs := #[.slice A1_0 l1_0.length c1_0]) (t := 24) zz6 ?_; intro gb263 hg w5 hbox hb; have BK263 := am (hbox); have GW263 := am ((by rw [hg]; exact (below_size (bs HB.out)) : w.heap.size ≤ gb263)); have GE263 := am ((by rw [hg]; exact (below_size (bs HB.out)) : w.heap.size ≤ gb263)); replace HB := am (below_step (bs HB.out) hb); have NB262_263 := am ((by rw [hg]; exact Nat.ne_of_lt (blk_lt (g := gb262) (o := .cells #[.slice A0_0 l0_0.length c0_0] 24 (0, 0)) (kb BK262.out)) : gb262 ≠ gb263)); have NB263_262 := am ((by rw [hg]; exact Nat.ne_of_gt (blk_lt (g := gb262) (o := .cells #[.slice A0_0 l0_0.length c0_0] 24 (0, 0)) (kb BK262.out)) : gb263 ≠ gb262)); replace BK262 := am (blk_below (g := gb262) (o := .cells #[.slice A0_0 l0_0.length c0_0] 24 (0, 0)) (kb BK262.out) hb); clear hb hbox hg))
 (try simp only [Act.put, List.setIfInBounds_toArray, List.set_cons_zero, List.set_cons_succ])
 go_cut [7] (fun v7 wc => ∃ (kq : Nat) (x7_2 : Bool), v7 = .bool x7_2 ∧ Aside0 (color_Same.j0 kq x7_2 l0_0 l1_0 = some (r1, r2)) ∧ Aside0 (kq ≤ k) ∧ Aside0 (wc.heap[gb262]? = some (.cells #[(.slice A0_0 l0_0.length c0_0)] 24 (0, 0))) ∧ Aside0 (wc.heap[gb263]? = some (.cells #[(.slice A1_0 l1_0.length c1_0)] 24 (0, 0))) ∧ Aside0 (Below w.heap.size w wc))
 case first =>
  have H := HC3.out
  clear HC3
  replace H := Option.bind_eq_some_iff.mp H
  obtain ⟨t264, A60, H⟩ := H
  replace H : (if t264 = true then ((auto_Valid.f l1_0).bind fun t265 => (color_Same.j0 k (!t265) l0_0 l1_0)) else (color_Same.j0 k true l0_0 l1_0)) = some (r1, r2) := H
  have A6 := am A60
  clear A60
  by_cases c7 : t264 = true
  rotate_left
  ·replace c7 := Bool.eq_false_iff.mpr c7
   subst c7
   have H1 : (color_Same.j0 k true l0_0 l1_0) = some (r1, r2) := by rw [if_neg (show ¬ (false = true) by decide)] at H; exact H
   clear H
   have H := H1
   clear H1
   have H' := am H
   clear H
   have hnb14 := NB262_263.out
   have hnc14 := NB263_262.out
   have hcz15_0 : w5.cell? ⟨gb262, 0, none⟩ = some (.slice A0_0 l0_0.length c0_0) := (blk_cell BK262.out 0).trans rfl
   have hfz15_0 := blk_frozen BK262.out 0
   go_wp2_with (first | ((with_reducible refine gate_callee (f := 63) rfl ?_); refine goesL_ (some 9) rfl rfl Try.func63 (by kernel_rfl) rfl #[.agg #[.slice A0_0 l0_0.length c0_0]] rfl zz1 ?_; (with_reducible refine (auto_Valid.calls _ _ l0_0 false _ ?side1 ?side2 A6.out).mono ?_); (case side1 => exact kc (Kd.C_below HR0_0.out HB.out)); (case side2 => exact HC0_0.out); rintro e w16 ⟨rfl, hb⟩; refine ⟨_, rfl, ?_⟩; replace BK262 := am (blk_below (g := gb262) (o := .cells #[.slice A0_0 l0_0.length c0_0] 24 (0, 0)) (kb BK262.out) hb); replace BK263 := am (blk_below (g := gb263) (o := .cells #[.slice A1_0 l1_0.length c1_0] 24 (0, 0)) (kb BK263.out) hb); replace HB := am (below_step (bs HB.out) hb); (try clear hb); (try clear hb2); (try clear hk); (try clear hi)))
   go_meet
   case rel => exact ⟨_, (true), zz3, H', ⟨by first | omega | exact Nat.le_refl _⟩, ⟨kb BK262.out⟩, ⟨kb BK263.out⟩, ⟨bs HB.out⟩⟩
  subst c7
  have H1 : ((auto_Valid.f l1_0).bind fun t265 => (color_Same.j0 k (!t265) l0_0 l1_0)) = some (r1, r2) := by rw [if_pos rfl] at H; exact H
  clear H
  have H := H1
  clear H1
  replace H := Option.bind_eq_some_iff.mp H
  obtain ⟨t265, A80, H⟩ := H
  replace H : (color_Same.j0 k (!t265) l0_0 l1_0) = some (r1, r2) := H
  have A8 := am A80
  clear A80
  have H' := am H
  clear H
  have hnb9 := NB262_263.out
  have hnc9 := NB263_262.out
  have hcz10_0 : w5.cell? ⟨gb262, 0, none⟩ = some (.slice A0_0 l0_0.length c0_0) := (blk_cell BK262.out 0).trans rfl
  have hfz10_0 := blk_frozen BK262.out 0
  go_wp2_with (first | ((with_reducible refine gate_callee (f := 63) rfl ?_); refine goesL_ (some 9) rfl rfl Try.func63 (by kernel_rfl) rfl #[.agg #[.slice A0_0 l0_0.length c0_0]] rfl zz1 ?_; (with_reducible refine (auto_Valid.calls _ _ l0_0 true _ ?side1 ?side2 A6.out).mono ?_); (case side1 => exact kc (Kd.C_below HR0_0.out HB.out)); (case side2 => exact HC0_0.out); rintro e w11 ⟨rfl, hb⟩; refine ⟨_, rfl, ?_⟩; replace BK262 := am (blk_below (g := gb262) (o := .cells #[.slice A0_0 l0_0.length c0_0] 24 (0, 0)) (kb BK262.out) hb); replace BK263 := am (blk_below (g := gb263) (o := .cells #[.slice A1_0 l1_0.length c1_0] 24 (0, 0)) (kb BK263.out) hb); replace HB := am (below_step (bs HB.out) hb); (try clear hb); (try clear hb2); (try clear hk); (try clear hi); have hcz12_0 : w11.cell? ⟨gb263, 0, none⟩ = some (.slice A1_0 l1_0.length c1_0) := (blk_cell BK263.out 0).trans rfl; have hfz12_0 := blk_frozen BK263.out 0) | (go_at_call 63; (with_reducible refine (auto_Valid.calls _ _ l1_0 t265 _ ?side1 ?side2 A8.out).mono ?_); (case side1 => exact kc (Kd.C_below HR1_0.out HB.out)); (case side2 => exact HC1_0.out); rintro e w13 ⟨rfl, hb⟩; replace BK262 := am (blk_below (g := gb262) (o := .cells #[.slice A0_0 l0_0.length c0_0] 24 (0, 0)) (kb BK262.out) hb); replace BK263 := am (blk_below (g := gb263) (o := .cells #[.slice A1_0 l1_0.length c1_0] 24 (0, 0)) (kb BK263.out) hb); replace HB := am (below_step (bs HB.out) hb); (try clear hb); (try clear hb2); (try clear hk); (try clear hi)))
  go_meet
  case rel => exact ⟨_, (!t265), zz3, H', ⟨by first | omega | exact Nat.le_refl _⟩, ⟨kb BK262.out⟩, ⟨kb BK263.out⟩, ⟨bs HB.out⟩⟩
 case rest =>
  clear HC3
  (try clear c1); (try clear p2); (try clear c4); (try clear c6); (try clear c7); (try clear c9); (try clear c14); (try clear hcz10_0); (try clear hcz12_0); (try clear hcz15_0); (try clear hfz10_0); (try clear hfz12_0); (try clear hfz15_0)
  obtain ⟨kq, x7_2, rfl, HA, HJ2, BK262, BK263, HB⟩ := hcut
  cases kq with
  | zero => exact absurd HA.out (by simp [color_Same.j0])
  | succ kj2 =>
   have H := HA.out
   clear HA
   simp only [color_Same.j0] at H
   by_cases c17 : x7_2 = true
   ·subst c17
    have H1 : (some (false, 1)) = some (r1, r2) := by rw [if_pos rfl] at H; exact H
    clear H
    have H := H1
    clear H1
    simp only [Option.some.injEq, Prod.mk.injEq] at H
    obtain ⟨rfl, rfl⟩ := H
    go_wp2
    go_ret2
    exact ⟨by first | rfl | (simp [errW_none, errW_some] <;> rfl) | (simp [*, errW_none, errW_some] <;> rfl), bs HB.out⟩
   replace c17 := Bool.eq_false_iff.mpr c17
   subst c17
   have H1 : (if (l0_0.length : Int) = (l1_0.length : Int) then (color_Same.l0 kj2 (l0_0.length : Int) 0 l0_0 l1_0) else (some (false, 0))) = some (r1, r2) := by rw [if_neg (show ¬ (false = true) by decide)] at H; exact H
   clear H
   have H := H1
   clear H1
   by_cases c18 : (l0_0.length : Int) = (l1_0.length : Int)
   rotate_left
   ·rw [if_neg c18] at H
    have c18b0 : ((l0_0.length : Int) == (l1_0.length : Int)) = false := beq_eq_false_iff_ne.mpr c18
    have c18b1 : ((l0_0.length : Int) != (l1_0.length : Int)) = true := bne_iff_ne.mpr c18
    have c18b2 : (l0_0.length == l1_0.length) = false := by first | simpa using c18 | (simp at c18 ⊢; omega)
    simp only [Option.some.injEq, Prod.mk.injEq] at H
    obtain ⟨rfl, rfl⟩ := H
    have hnb40 := NB262_263.out
    have hnc40 := NB263_262.out
    have hcz41_0 : wc.cell? ⟨gb262, 0, none⟩ = some (.slice A0_0 l0_0.length c0_0) := (blk_cell BK262.out 0).trans rfl
    have hfz41_0 := blk_frozen BK262.out 0
    have hcz42_0 : wc.cell? ⟨gb263, 0, none⟩ = some (.slice A1_0 l1_0.length c1_0) := (blk_cell BK263.out 0).trans rfl
    have hfz42_0 := blk_frozen BK263.out 0
    go_wp2
    go_ret2
    exact ⟨by first | rfl | (simp [errW_none, errW_some] <;> rfl) | (simp [*, errW_none, errW_some] <;> rfl), bs HB.out⟩
   rw [if_pos c18] at H
   have c18b0 : ((l0_0.length : Int) == (l1_0.length : Int)) = true := beq_iff_eq.mpr c18
   have c18b1 : ((l0_0.length : Int) != (l1_0.length : Int)) = false := bne_eq_false_iff_eq.mpr c18
   have c18b2 : (l0_0.length == l1_0.length) = true := by first | simpa using c18 | (simp at c18 ⊢; omega)
   clear c18
   have H' := am H
   clear H
   have hnb19 := NB262_263.out
   have hnc19 := NB263_262.out
   have hcz20_0 : wc.cell? ⟨gb262, 0, none⟩ = some (.slice A0_0 l0_0.length c0_0) := (blk_cell BK262.out 0).trans rfl
   have hfz20_0 := blk_frozen BK262.out 0
   have hcz21_0 : wc.cell? ⟨gb263, 0, none⟩ = some (.slice A1_0 l1_0.length c1_0) := (blk_cell BK263.out 0).trans rfl
   have hfz21_0 := blk_frozen BK263.out 0
   go_wp2
   go_loopg [27] kj2 (fun kq v27 w' => ∃ (x27_2 : Int), v27 = .int .i64 x27_2 ∧ Aside0 (color_Same.l0 kq (l0_0.length : Int) x27_2 l0_0 l1_0 = some (r1, r2)) ∧ Aside0 (kq ≤ kj2) ∧ Aside0 (w'.heap[gb262]? = some (.cells #[(.slice A0_0 l0_0.length c0_0)] 24 (0, 0))) ∧ Aside0 (w'.heap[gb263]? = some (.cells #[(.slice A1_0 l1_0.length c1_0)] 24 (0, 0))) ∧ Aside0 (Below w.heap.size w w'))
   case atStart => exact ⟨(0), zz3, H', ⟨Nat.le_refl _⟩, ⟨kb BK262.out⟩, ⟨kb BK263.out⟩, ⟨bs HB.out⟩⟩
   case round =>
    clear H'
    (try clear c1); (try clear p2); (try clear c4); (try clear c6); (try clear c7); (try clear c9); (try clear c14); (try clear c17); (try clear c18); (try clear c18b0); (try clear c18b1); (try clear c18b2); (try clear c19); (try clear hcz10_0); (try clear hcz12_0); (try clear hcz15_0); (try clear hcz20_0); (try clear hcz21_0); (try clear hfz10_0); (try clear hfz12_0); (try clear hfz15_0); (try clear hfz20_0); (try clear hfz21_0); (try clear p2)
    obtain ⟨x27_2, rfl, HA, HK2, BK262, BK263, HB⟩ := hrel
    cases gk with
    | zero => exact absurd HA.out (by simp [color_Same.l0])
    | succ k2 =>
     have H := HA.out
     clear HA
     simp only [color_Same.l0] at H
     by_cases c22 : x27_2 < (l0_0.length : Int)
     rotate_left
     ·rw [if_neg c22] at H
      have c22b0 : decide (x27_2 < (l0_0.length : Int)) = false := decide_eq_false c22
      clear c22
      simp only [Option.some.injEq, Prod.mk.injEq] at H
      obtain ⟨rfl, rfl⟩ := H
      go_wp2
      go_ret2
      exact ⟨by first | rfl | (simp [errW_none, errW_some] <;> rfl) | (simp [*, errW_none, errW_some] <;> rfl), bs HB.out⟩
     rw [if_pos c22] at H
     have c22b0 : decide (x27_2 < (l0_0.length : Int)) = true := decide_eq_true c22
     clear c22
     by_cases c23 : 0 ≤ x27_2
     rotate_left
     ·rw [if_neg c23] at H
      exact absurd H (by simp)
     rw [if_pos c23] at H
     have c23b0 : decide (0 ≤ x27_2) = true := decide_eq_true c23
     clear c23
     by_cases c24 : x27_2 < (l0_0.length : Int)
     rotate_left
     ·rw [if_neg c24] at H
      exact absurd H (by simp)
     rw [if_pos c24] at H
     have c24b0 : decide (x27_2 < (l0_0.length : Int)) = true := decide_eq_true c24
     clear c24
     replace H := Option.bind_eq_some_iff.mp H
     obtain ⟨t267, A250, H⟩ := H
     replace H : (if x27_2 < (l1_0.length : Int) then ((color_sorted.f (rd_L1 l1_0 x27_2)).bind fun t271 => ((slices_Equal_int_int.f k2 t267 t271).bind fun t274 => (if t274 = true then (color_Same.l0 k2 (l0_0.length : Int) (wrap64 (x27_2 + 1)) l0_0 l1_0) else (some (false, 0))))) else (none)) = some (r1, r2) := H
     have A25 := am A250
     clear A250
     by_cases c26 : x27_2 < (l1_0.length : Int)
     rotate_left
     ·rw [if_neg c26] at H
      exact absurd H (by simp)
     rw [if_pos c26] at H
     have c26b0 : decide (x27_2 < (l1_0.length : Int)) = true := decide_eq_true c26
     clear c26
     replace H := Option.bind_eq_some_iff.mp H
     obtain ⟨t271, A270, H⟩ := H
     replace H : ((slices_Equal_int_int.f k2 t267 t271).bind fun t274 => (if t274 = true then (color_Same.l0 k2 (l0_0.length : Int) (wrap64 (x27_2 + 1)) l0_0 l1_0) else (some (false, 0)))) = some (r1, r2) := H
     have A27 := am A270
     clear A270
     replace H := Option.bind_eq_some_iff.mp H
     obtain ⟨t274, A280, H⟩ := H
     replace H : (if t274 = true then (color_Same.l0 k2 (l0_0.length : Int) (wrap64 (x27_2 + 1)) l0_0 l1_0) else (some (false, 0))) = some (r1, r2) := H
     have A28 := am A280
     clear A280
     by_cases c29 : t274 = true
     ·subst c29
      have H1 : (color_Same.l0 k2 (l0_0.length : Int) (wrap64 (x27_2 + 1)) l0_0 l1_0) = some (r1, r2) := by rw [if_pos rfl] at H; exact H
      clear H
      have H := H1
      clear H1
      have H' := am H
      clear H
      try go_wp2
      replace BK262 := am (blk_drew BK262.out)
      replace BK263 := am (blk_drew BK263.out)
      replace HB := am (bd HB.out)
      have p266 : 0 ≤ (x27_2 : Int) := od zz2
      have q266 : x27_2 < (l0_0.length : Int) := od zz2
      obtain ⟨ad266, A266_0, c266_0, e266, hx266_0, hl266_0, hi266_0⟩ := at_L1 HR0_0.out x27_2 p266 q266
      have hw266_0 := hx266_0
      cases e266
      replace hx266_0 := (HB.out.cell (World.block_lt_of_cell? w _ hx266_0)).trans hx266_0
      have HR266_0 := am hi266_0
      have HC266_0 := am hl266_0
      clear hi266_0 hl266_0
      replace p266 := eq_true p266
      replace q266 := eq_true q266
      have p270 : 0 ≤ (x27_2 : Int) := od zz2
      have q270 : x27_2 < (l1_0.length : Int) := od zz2
      obtain ⟨ad270, A270_0, c270_0, e270, hx270_0, hl270_0, hi270_0⟩ := at_L1 HR1_0.out x27_2 p270 q270
      have hw270_0 := hx270_0
      cases e270
      replace hx270_0 := (HB.out.cell (World.block_lt_of_cell? w _ hx270_0)).trans hx270_0
      have HR270_0 := am hi270_0
      have HC270_0 := am hl270_0
      clear hi270_0 hl270_0
      replace p270 := eq_true p270
      replace q270 := eq_true q270
      refine start_ (n := 14) (S := fun w' => w'.cell? ⟨gb262, 0, none⟩ = some (.slice (some ad266) l0_0.length c0_0) ∧ w'.cell? ⟨gb263, 0, none⟩ = some (.slice (some ad270) l1_0.length c1_0) ∧ w'.cell? (ad266.add (x27_2).toNat) = some (.slice A266_0 (rd_L1 l0_0 x27_2).length c266_0) ∧ w'.cell? (ad270.add (x27_2).toNat) = some (.slice A270_0 (rd_L1 l1_0 x27_2).length c270_0)) (ds := []) #[false, false, false, false, false, false, false, false, false, false, false, false, false, false] (by kernel_rfl) rfl rfl ⟨(blk_cell BK262.out 0).trans rfl, (blk_cell BK263.out 0).trans rfl, ((HB.out.cell (World.block_lt_of_cell? w _ hw266_0)).trans hw266_0), ((HB.out.cell (World.block_lt_of_cell? w _ hw270_0)).trans hw270_0)⟩ (fun hHeld => ?_); refine with_tabW color_Same.tab8 color_Same.bits8 (fun HT_ HW_ => ?_)
      generalize wr.drew = w30 at BK262 BK263 HB HR266_0 HR270_0 hx266_0 hx270_0 hHeld ⊢
      refine pv_ 0 30 cs0 HT_ ?_
      refine pv_ 2 32 cs1 HT_ ?_
      refine pv_ 6 36 cs2 HT_ ?_
      refine pv_ 8 38 cs3 HT_ ?_
      refine tv_ 1 31 cs4 HT_ HW_ hHeld ?_
      refine pv_ 3 33 cs5 HT_ ?_
      refine tv_ 4 34 cs6 HT_ HW_ hHeld ?_
      refine tv_ 7 37 cs7 HT_ HW_ hHeld ?_
      refine pv_ 9 39 cs8 HT_ ?_
      refine tv_ 10 40 cs9 HT_ HW_ hHeld ?_
      refine one_ (i := 5) (N := some 35) cs10 rfl rfl (one_of HT_.out (by kernel_rfl)) (by decide) (fun K hK => ?_)
      refine goes_ Try.func82 (by kernel_rfl) rfl #[.slice A266_0 (rd_L1 l0_0 x27_2).length c266_0] (by rfl) rfl rfl zz1 ?_
      with_reducible refine (color_sorted.calls _ _ (rd_L1 l0_0 x27_2) t267 _ ?side1 ?side2 A25.out).mono ?_
      (case side1 => exact kc (Kd.C_below HR266_0.out HB.out))
      (case side2 => exact HC266_0.out)
      rintro e w31 ⟨v268, rfl, ho0, hb⟩
      refine ⟨_, rfl, ?_⟩
      have HO269 := am (Kd.R_lower ho0 (below_size (bs HB.out)))
      replace BK262 := am (blk_below (g := gb262) (o := .cells #[.slice (some ad266) l0_0.length c0_0] 24 (0, 0)) (kb BK262.out) hb)
      replace BK263 := am (blk_below (g := gb263) (o := .cells #[.slice (some ad270) l1_0.length c1_0] 24 (0, 0)) (kb BK263.out) hb)
      replace HB := am (below_step (bs HB.out) hb)
      (try clear hb)
      (try clear hb2)
      (try clear hk)
      (try clear hi)
      (try clear ho0)
      refine hK.out _ _ ⟨(blk_cell BK262.out 0).trans rfl, (blk_cell BK263.out 0).trans rfl, ((HB.out.cell (World.block_lt_of_cell? w _ hw266_0)).trans hw266_0), ((HB.out.cell (World.block_lt_of_cell? w _ hw270_0)).trans hw270_0)⟩ (fun hHeld => ?_)
      clear hK K
      refine nm_ 35 ?_
      refine one_ (i := 11) (N := some 41) cs11 rfl rfl (one_of HT_.out (by kernel_rfl)) (by decide) (fun K hK => ?_)
      refine goes_ Try.func82 (by kernel_rfl) rfl #[.slice A270_0 (rd_L1 l1_0 x27_2).length c270_0] (by rfl) rfl rfl zz1 ?_
      with_reducible refine (color_sorted.calls _ _ (rd_L1 l1_0 x27_2) t271 _ ?side1 ?side2 A27.out).mono ?_
      (case side1 => exact kc (Kd.C_below HR270_0.out HB.out))
      (case side2 => exact HC270_0.out)
      rintro e w32 ⟨v272, rfl, ho0, hb⟩
      refine ⟨_, rfl, ?_⟩
      have HO273 := am (Kd.R_lower (Kd.R_new' ho0 (Kd.R_lt (kR HO269.out))) (below_size (bs HB.out)))
      replace HO269 := am (Kd.R_elder' (kR HO269.out) (Kd.R_base ho0) hb)
      replace BK262 := am (blk_below (g := gb262) (o := .cells #[.slice (some ad266) l0_0.length c0_0] 24 (0, 0)) (kb BK262.out) hb)
      replace BK263 := am (blk_below (g := gb263) (o := .cells #[.slice (some ad270) l1_0.length c1_0] 24 (0, 0)) (kb BK263.out) hb)
      replace HB := am (below_step (bs HB.out) hb)
      (try clear hb)
      (try clear hb2)
      (try clear hk)
      (try clear hi)
      (try clear ho0)
      obtain ⟨Ao33, co33, eo33⟩ := Kd.R_slice HO269.out
      (first | subst eo33 | (injection eo33 with f1_ f2_ f3_; have f4_ := f1_.symm; have f5_ := f3_.symm; clear f1_ f2_ f3_; subst f4_; subst f5_))
      obtain ⟨Ao34, co34, eo34⟩ := Kd.R_slice HO273.out
      (first | subst eo34 | (injection eo34 with f1_ f2_ f3_; have f4_ := f1_.symm; have f5_ := f3_.symm; clear f1_ f2_ f3_; subst f4_; subst f5_))
      refine hK.out _ _ ⟨(blk_cell BK262.out 0).trans rfl, (blk_cell BK263.out 0).trans rfl, ((HB.out.cell (World.block_lt_of_cell? w _ hw266_0)).trans hw266_0), ((HB.out.cell (World.block_lt_of_cell? w _ hw270_0)).trans hw270_0)⟩ (fun hHeld => ?_)
      clear hK K
      refine nm_ 41 ?_
      refine one_ (i := 12) (N := some 42) cs12 rfl rfl (one_of HT_.out (by kernel_rfl)) (by decide) (fun K hK => ?_)
      refine goes_ Try.func81 (by kernel_rfl) rfl #[.slice Ao33 t267.length co33, .slice Ao34 t271.length co34] (by rfl) rfl rfl zz1 ?_
      with_reducible refine (slices_Equal_int_int.calls k2 _ _ t267 _ _ t271 true _ ?side1 ?side2 ?side3 ?side4 A28.out).mono ?_
      (case side1 => repeat (first | exact (Kd.R_reads' HO269.out).2.2 | (with_reducible refine Kd.C_alloc ?_ _) | (with_reducible refine Kd.C_drewN ?_ _) | (with_reducible refine Kd.C_drew ?_)))
      (case side2 => exact (Kd.R_reads' HO269.out).2.1)
      (case side3 => repeat (first | exact (Kd.R_reads' HO273.out).2.2 | (with_reducible refine Kd.C_alloc ?_ _) | (with_reducible refine Kd.C_drewN ?_ _) | (with_reducible refine Kd.C_drew ?_)))
      (case side4 => exact (Kd.R_reads' HO273.out).2.1)
      rintro e w' ⟨rfl, ⟨nd, rfl⟩⟩
      refine ⟨_, rfl, ?_⟩
      refine hK.out _ _ ⟨(blk_cell BK262.out 0).trans rfl, (blk_cell BK263.out 0).trans rfl, ((HB.out.cell (World.block_lt_of_cell? w _ hw266_0)).trans hw266_0), ((HB.out.cell (World.block_lt_of_cell? w _ hw270_0)).trans hw270_0)⟩ (fun hHeld => ?_)
      clear hK K
      refine nm_ 42 ?_
      refine pv_ 13 43 cs13 HT_ ?_
      refine done_ (done_of HT_.out (by kernel_rfl)) ?_
      try go_wp2
      go_roundg k2
      case measure => have := HJ2.out; have := HK2.out; omega
      case rel => exact ⟨(wrap64 (x27_2 + 1)), zz3, H', ⟨by have := HJ2.out; have := HK2.out; omega⟩, ⟨kb BK262.out⟩, ⟨kb BK263.out⟩, ⟨bs HB.out⟩⟩
     replace c29 := Bool.eq_false_iff.mpr c29
     subst c29
     have H1 : (some (false, 0)) = some (r1, r2) := by rw [if_neg (show ¬ (false = true) by decide)] at H; exact H
     clear H
     have H := H1
     clear H1
     simp only [Option.some.injEq, Prod.mk.injEq] at H
     obtain ⟨rfl, rfl⟩ := H
     try go_wp2
     replace BK262 := am (blk_drew BK262.out)
     replace BK263 := am (blk_drew BK263.out)
     replace HB := am (bd HB.out)
     have p266 : 0 ≤ (x27_2 : Int) := od zz2
     have q266 : x27_2 < (l0_0.length : Int) := od zz2
     obtain ⟨ad266, A266_0, c266_0, e266, hx266_0, hl266_0, hi266_0⟩ := at_L1 HR0_0.out x27_2 p266 q266
     have hw266_0 := hx266_0
     cases e266
     replace hx266_0 := (HB.out.cell (World.block_lt_of_cell? w _ hx266_0)).trans hx266_0
     have HR266_0 := am hi266_0
     have HC266_0 := am hl266_0
     clear hi266_0 hl266_0
     replace p266 := eq_true p266
     replace q266 := eq_true q266
     have p270 : 0 ≤ (x27_2 : Int) := od zz2
     have q270 : x27_2 < (l1_0.length : Int) := od zz2
     obtain ⟨ad270, A270_0, c270_0, e270, hx270_0, hl270_0, hi270_0⟩ := at_L1 HR1_0.out x27_2 p270 q270
     have hw270_0 := hx270_0
     cases e270
     replace hx270_0 := (HB.out.cell (World.block_lt_of_cell? w _ hx270_0)).trans hx270_0
     have HR270_0 := am hi270_0
     have HC270_0 := am hl270_0
     clear hi270_0 hl270_0
     replace p270 := eq_true p270
     replace q270 := eq_true q270
     refine start_ (n := 14) (S := fun w' => w'.cell? ⟨gb262, 0, none⟩ = some (.slice (some ad266) l0_0.length c0_0) ∧ w'.cell? ⟨gb263, 0, none⟩ = some (.slice (some ad270) l1_0.length c1_0) ∧ w'.cell? (ad266.add (x27_2).toNat) = some (.slice A266_0 (rd_L1 l0_0 x27_2).length c266_0) ∧ w'.cell? (ad270.add (x27_2).toNat) = some (.slice A270_0 (rd_L1 l1_0 x27_2).length c270_0)) (ds := []) #[false, false, false, false, false, false, false, false, false, false, false, false, false, false] (by kernel_rfl) rfl rfl ⟨(blk_cell BK262.out 0).trans rfl, (blk_cell BK263.out 0).trans rfl, ((HB.out.cell (World.block_lt_of_cell? w _ hw266_0)).trans hw266_0), ((HB.out.cell (World.block_lt_of_cell? w _ hw270_0)).trans hw270_0)⟩ (fun hHeld => ?_); refine with_tabW color_Same.tab8 color_Same.bits8 (fun HT_ HW_ => ?_)
     generalize wr.drew = w35 at BK262 BK263 HB HR266_0 HR270_0 hx266_0 hx270_0 hHeld ⊢
     refine pv_ 0 30 cs0 HT_ ?_
     refine pv_ 2 32 cs1 HT_ ?_
     refine pv_ 6 36 cs2 HT_ ?_
     refine pv_ 8 38 cs3 HT_ ?_
     refine tv_ 1 31 cs4 HT_ HW_ hHeld ?_
     refine pv_ 3 33 cs5 HT_ ?_
     refine tv_ 4 34 cs6 HT_ HW_ hHeld ?_
     refine tv_ 7 37 cs7 HT_ HW_ hHeld ?_
     refine pv_ 9 39 cs8 HT_ ?_
     refine tv_ 10 40 cs9 HT_ HW_ hHeld ?_
     refine one_ (i := 5) (N := some 35) cs10 rfl rfl (one_of HT_.out (by kernel_rfl)) (by decide) (fun K hK => ?_)
     refine goes_ Try.func82 (by kernel_rfl) rfl #[.slice A266_0 (rd_L1 l0_0 x27_2).length c266_0] (by rfl) rfl rfl zz1 ?_
     with_reducible refine (color_sorted.calls _ _ (rd_L1 l0_0 x27_2) t267 _ ?side1 ?side2 A25.out).mono ?_
     (case side1 => exact kc (Kd.C_below HR266_0.out HB.out))
     (case side2 => exact HC266_0.out)
     rintro e w36 ⟨v268, rfl, ho0, hb⟩
     refine ⟨_, rfl, ?_⟩
     have HO269 := am (Kd.R_lower ho0 (below_size (bs HB.out)))
     replace BK262 := am (blk_below (g := gb262) (o := .cells #[.slice (some ad266) l0_0.length c0_0] 24 (0, 0)) (kb BK262.out) hb)
     replace BK263 := am (blk_below (g := gb263) (o := .cells #[.slice (some ad270) l1_0.length c1_0] 24 (0, 0)) (kb BK263.out) hb)
     replace HB := am (below_step (bs HB.out) hb)
     (try clear hb)
     (try clear hb2)
     (try clear hk)
     (try clear hi)
     (try clear ho0)
     refine hK.out _ _ ⟨(blk_cell BK262.out 0).trans rfl, (blk_cell BK263.out 0).trans rfl, ((HB.out.cell (World.block_lt_of_cell? w _ hw266_0)).trans hw266_0), ((HB.out.cell (World.block_lt_of_cell? w _ hw270_0)).trans hw270_0)⟩ (fun hHeld => ?_)
     clear hK K
     refine nm_ 35 ?_
     refine one_ (i := 11) (N := some 41) cs11 rfl rfl (one_of HT_.out (by kernel_rfl)) (by decide) (fun K hK => ?_)
     refine goes_ Try.func82 (by kernel_rfl) rfl #[.slice A270_0 (rd_L1 l1_0 x27_2).length c270_0] (by rfl) rfl rfl zz1 ?_
     with_reducible refine (color_sorted.calls _ _ (rd_L1 l1_0 x27_2) t271 _ ?side1 ?side2 A27.out).mono ?_
     (case side1 => exact kc (Kd.C_below HR270_0.out HB.out))
     (case side2 => exact HC270_0.out)
     rintro e w37 ⟨v272, rfl, ho0, hb⟩
     refine ⟨_, rfl, ?_⟩
     have HO273 := am (Kd.R_lower (Kd.R_new' ho0 (Kd.R_lt (kR HO269.out))) (below_size (bs HB.out)))
     replace HO269 := am (Kd.R_elder' (kR HO269.out) (Kd.R_base ho0) hb)
     replace BK262 := am (blk_below (g := gb262) (o := .cells #[.slice (some ad266) l0_0.length c0_0] 24 (0, 0)) (kb BK262.out) hb)
     replace BK263 := am (blk_below (g := gb263) (o := .cells #[.slice (some ad270) l1_0.length c1_0] 24 (0, 0)) (kb BK263.out) hb)
     replace HB := am (below_step (bs HB.out) hb)
     (try clear hb)
     (try clear hb2)
     (try clear hk)
     (try clear hi)
     (try clear ho0)
     obtain ⟨Ao38, co38, eo38⟩ := Kd.R_slice HO269.out
     (first | subst eo38 | (injection eo38 with f1_ f2_ f3_; have f4_ := f1_.symm; have f5_ := f3_.symm; clear f1_ f2_ f3_; subst f4_; subst f5_))
     obtain ⟨Ao39, co39, eo39⟩ := Kd.R_slice HO273.out
     (first | subst eo39 | (injection eo39 with f1_ f2_ f3_; have f4_ := f1_.symm; have f5_ := f3_.symm; clear f1_ f2_ f3_; subst f4_; subst f5_))
     refine hK.out _ _ ⟨(blk_cell BK262.out 0).trans rfl, (blk_cell BK263.out 0).trans rfl, ((HB.out.cell (World.block_lt_of_cell? w _ hw266_0)).trans hw266_0), ((HB.out.cell (World.block_lt_of_cell? w _ hw270_0)).trans hw270_0)⟩ (fun hHeld => ?_)
     clear hK K
     refine nm_ 41 ?_
     refine one_ (i := 12) (N := some 42) cs12 rfl rfl (one_of HT_.out (by kernel_rfl)) (by decide) (fun K hK => ?_)
     refine goes_ Try.func81 (by kernel_rfl) rfl #[.slice Ao38 t267.length co38, .slice Ao39 t271.length co39] (by rfl) rfl rfl zz1 ?_
     with_reducible refine (slices_Equal_int_int.calls k2 _ _ t267 _ _ t271 false _ ?side1 ?side2 ?side3 ?side4 A28.out).mono ?_
     (case side1 => repeat (first | exact (Kd.R_reads' HO269.out).2.2 | (with_reducible refine Kd.C_alloc ?_ _) | (with_reducible refine Kd.C_drewN ?_ _) | (with_reducible refine Kd.C_drew ?_)))
     (case side2 => exact (Kd.R_reads' HO269.out).2.1)
     (case side3 => repeat (first | exact (Kd.R_reads' HO273.out).2.2 | (with_reducible refine Kd.C_alloc ?_ _) | (with_reducible refine Kd.C_drewN ?_ _) | (with_reducible refine Kd.C_drew ?_)))
     (case side4 => exact (Kd.R_reads' HO273.out).2.1)
     rintro e w' ⟨rfl, ⟨nd, rfl⟩⟩
     refine ⟨_, rfl, ?_⟩
     refine hK.out _ _ ⟨(blk_cell BK262.out 0).trans rfl, (blk_cell BK263.out 0).trans rfl, ((HB.out.cell (World.block_lt_of_cell? w _ hw266_0)).trans hw266_0), ((HB.out.cell (World.block_lt_of_cell? w _ hw270_0)).trans hw270_0)⟩ (fun hHeld => ?_)
     clear hK K
     refine nm_ 42 ?_
     refine pv_ 13 43 cs13 HT_ ?_
     refine done_ (done_of HT_.out (by kernel_rfl)) ?_
     try go_wp2
     go_ret2
     exact ⟨by first | rfl | (simp [errW_none, errW_some] <;> rfl) | (simp [*, errW_none, errW_some] <;> rfl), bs HB.out⟩
end Go.Proofs.Ytjgdalhdiohclaa.Q
end
