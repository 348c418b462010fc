/- Part of the proof of TopRoad (text 12 of 33) -/
import Derived.Test.YtjgdalhdiohclaaZTopRoadg
import Derived.Lib.SliceRun
set_option linter.unusedVariables false
set_option linter.unusedSimpArgs false
set_option linter.unusedSectionVars false
set_option maxRecDepth 100000
set_option maxHeartbeats 8000000
open Go.RowKit Go.Proofs.YtjgdalhdiohclaaW.PrintWords Go.Proofs.YtjgdalhdiohclaaW.PrintLast Go.Proofs.YtjgdalhdiohclaaW.PrintMore
section
namespace Go.Proofs.Ytjgdalhdiohclaa.Q
def slices_Clone_int_int.f (l0 : List Int) : Option (List Int) := if l0.length < 17592186044416 then some l0 else none
theorem slices_Clone_int_int.calls (A0 : Option Addr) (c0 : Nat) (l0 : List Int) (r : List Int) (w : World) (hr0 : Kd.C (Kd.int .i64) w A0 l0.length l0) (hc0 : l0.length ≤ c0) (h : slices_Clone_int_int.f l0 = some r) :
  Calls Try.prog 66 #[.slice A0 l0.length c0] w fun e w' => ∃ v0_ : Value, e = .returned v0_ ∧ Kd.R (Kd.int .i64) 3 w' w.heap.size (fun _ => True) v0_ r ∧ Below w.heap.size w w' := by
 have qT : ∀ (w : World) (a : Option Addr) (n c n' c' : Nat), (binOp .eql 28 (.slice a n c) (.slice none n' c')).run Try.prog w = .ok (.bool a.isNone) w := fun w a n c n' c' => Lib.run_eql_slice_nil w _ _ a n c n' c' Try.underlying28
 have hlt : l0.length < 17592186044416 := by
  unfold slices_Clone_int_int.f at h
  split at h
  ·assumption
  ·cases h
 have hr : r = l0 := by
  unfold slices_Clone_int_int.f at h
  rw [if_pos hlt] at h
  exact (Option.some.inj h).symm
 subst hr
 clear h
 have HR := am hr0
 have HL := am hlt
 clear hr0 hlt
 cases A0 with
 | none =>
  have hnil : r = [] := by
   cases r with
   | nil => rfl
   | cons a r =>
    obtain ⟨ad, e, _⟩ := HR.out.2.2 (by simp)
    cases e
  subst hnil
  go_enter Try.func66, Try.ntmps66
  go_wp2
  go_ret
  exact ⟨_, rfl, Kd.R_nil _ _ _ _ _, Below.refl _ _⟩
 | some A0 =>
  go_enter Try.func66, Try.ntmps66
  go_wp2_with (first | ((with_reducible refine gate_dst (N := 5) rfl ?_); refine Kd.R_lit (Kd.int .i64) _ 3 zz5 (N := 5) zz5 (xs := ([] : List Int)) (inner := []) (ok := fun _ => True) (okp := fun _ => True) zz6 ?hp (fun _ hk => hk) trivial (Below.refl _ _) (Nat.le_refl _) (by simp) ?_; (case hp => exact (Reps.none _ _)); intro v1 w1 hO hb1 _ _; have HO := am hO; have HB := am hb1; clear hO hb1; obtain ⟨A5, c5, e5⟩ := Kd.R_slice HO.out; subst e5)  | ((with_reducible refine gate_builtin (b := .append) (xs := #[.tmp 5, .tmp 6]) rfl ?_); at_builtin; refine Kd.R_append_row (Value.int .i64) (0 : Int) (w0 := w) w.heap.size rfl (.tmp 5) (.tmp 6) 28 3 (.int .i64 0) 8 rfl Try.underlying28 info3 rfl (by omega) _ [] r (some A0) r.length c0 (fun _ => True) rfl rfl (fun _ _ => trivial) HO.out (Kd.C_below HR.out HB.out) HB.out HB.out.size (by have := HL.out; simp; omega) ?_; intro v2 w2 hO2 hb2 _ _; have HO2 := am hO2; have HB2 := am hb2; clear hO2 hb2))
  go_ret
  exact ⟨_, rfl, HO2.out, HB2.out⟩
end Go.Proofs.Ytjgdalhdiohclaa.Q
end
section
namespace Go.Proofs.Ytjgdalhdiohclaa.Q
attribute [local go_sem] max2_int min2_int max_two min_two max_three min_three max_four min_four
def color_copied.l0 : Nat → List (List Int) → Int → Int → List (List Int) → Option ((List (List Int)))
 | 0, _, _, _, _ => none
 | k + 1, x7, x8, x9, x392000 => if x9 < x8 then (if 0 ≤ x9 then (if x9 < (x7.length : Int) then ((slices_Clone_int_int.f (rd_L1 x7 x9)).bind fun t393 => (if x392000.length < 5864062014805 then (color_copied.l0 k x7 x8 (wrap64 (x9 + 1)) (x392000 ++ [t393])) else (none))) else (none)) else (none)) else (some x392000)
def color_copied.f (k : Nat) (l0_0 : List (List Int)) : Option ((List (List Int))) := color_copied.l0 k l0_0 (l0_0.length : Int) 0 ([] : List (List Int))
theorem color_copied.mono_l : ∀ k, (∀ y0 y1 y2 y3, LeO (color_copied.l0 k y0 y1 y2 y3) (color_copied.l0 (k + 1) y0 y1 y2 y3))
 | 0 => fun _ _ _ _ r h => by simp [color_copied.l0] at h
 | k + 1 => by
  have ih0 := color_copied.mono_l k
  ·intro y0 y1 y2 y3
   unfold color_copied.l0
   with_reducible repeat' first | exact ih0 _ _ _ _ | exact LeO.refl _ | exact LeO.none _ | refine LeO.ite ?_ ?_ | refine LeO.bind ?_ (fun _ => ?_)
theorem color_copied.mono : ∀ a0 k, LeO (color_copied.f k a0) (color_copied.f (k + 1) a0) := by
 intro a0 k
 have ih0 := color_copied.mono_l k
 unfold color_copied.f
 with_reducible repeat' first | exact ih0 _ _ _ _ | exact LeO.refl _ | exact LeO.none _ | refine LeO.ite ?_ ?_ | refine LeO.bind ?_ (fun _ => ?_)
def color_copied.T5 : Bool × List (List Nat × List Nat) := (true, [([], []), ([0], [0]), ([], []), ([2], [2]), ([3], [3]), ([1, 4, 3], [1, 4]), ([0, 1, 2, 3, 4, 5], []), ([6, 5, 5, 0, 1, 2, 3, 4, 5], [5, 6])])
def color_copied.B5 : List Nat := [0, 1, 0, 4, 12, 31, 63, 127]
theorem color_copied.tab5 : rtab .any (opsOf Try.f89 5) = color_copied.T5 := by kernel_rfl
theorem color_copied.bits5 : waitsOk color_copied.T5.2 color_copied.B5 = true := by kernel_rfl
def cc0 : Array Bool := #[true, false, false, false, false, false, false, false]
def cc1 : Array Bool := #[true, false, true, false, false, false, false, false]
def cc2 : Array Bool := #[true, true, true, false, false, false, false, false]
def cc3 : Array Bool := #[true, true, true, true, false, false, false, false]
def cc4 : Array Bool := #[true, true, true, true, true, false, false, false]
def cc5 : Array Bool := #[true, true, true, true, true, true, false, false]
def cc6 : Array Bool := #[true, true, true, true, true, true, true, false]
def cc7 : Array Bool := #[true, true, true, true, true, true, true, true]
theorem color_copied.calls (k : Nat) (A0_0 : Option Addr) (c0_0 : Nat) (l0_0 : List (List Int)) (r : List (List Int)) (w : World) (hr0_0 : Kd.C (Kd.slice 3 (Kd.int .i64)) w A0_0 l0_0.length l0_0) (hc0_0 : l0_0.length ≤ c0_0) (h : color_copied.f k l0_0 = some r) :
    Calls Try.prog 89 #[.agg #[.slice A0_0 l0_0.length c0_0]] w fun e w' => ∃ v0_ : Value, e = .returned (.agg #[v0_]) ∧ Kd.S (Kd.slice 3 (Kd.int .i64)) 28 w' w.heap.size (fun _ => True) v0_ r ∧ Below w.heap.size w w' := by
 have hu24 := Try.underlying24
 have HR0_0 := am hr0_0
 have HC0_0 := am hc0_0
 clear hr0_0 hc0_0
 have HB := am (Below.refl w.heap.size w)
 have H : (color_copied.l0 k l0_0 (l0_0.length : Int) 0 ([] : List (List Int))) = some r := h
 clear h
 have H' := am H
 clear H
 go_enter Try.func89, Try.ntmps89
 go_wp2_with (first | ((with_reducible refine gate_dst (N := 1) rfl ?_); refine box_event zz5 (N := 1) zz5 (cs := #[.slice A0_0 l0_0.length c0_0]) (t := 24) zz6 ?_; intro gb389 hg w2 hbox hb; have BK389 := am (hbox); have GW389 := am ((by rw [hg]; exact (below_size (bw HB.out)) : w.heap.size ≤ gb389)); have GE389 := am ((by rw [hg]; exact (below_size (bw HB.out)) : w.heap.size ≤ gb389)); replace HB := am (below_step (bw HB.out) hb); clear hb hbox hg) | ((with_reducible refine gate_dst (N := 2) rfl ?_); refine box_event zz5 (N := 2) zz5 (cs := #[.slice none 0 0]) (t := 24) zz6 ?_; intro gb390 hg w3 hbox hb; have BK390 := am (hbox); have GW390 := am ((by rw [hg]; exact (below_size (bs HB.out)) : w.heap.size ≤ gb390)); have GE390 := am ((by rw [hg]; exact (below_size (bs HB.out)) : w.heap.size ≤ gb390)); replace HB := am (below_step (bs HB.out) hb); have NB389_390 := am ((by rw [hg]; exact Nat.ne_of_lt (blk_lt (g := gb389) (o := .cells #[.slice A0_0 l0_0.length c0_0] 24 (0, 0)) (kb BK389.out)) : gb389 ≠ gb390)); have NB390_389 := am ((by rw [hg]; exact Nat.ne_of_gt (blk_lt (g := gb389) (o := .cells #[.slice A0_0 l0_0.length c0_0] 24 (0, 0)) (kb BK389.out)) : gb390 ≠ gb389)); replace BK389 := am (blk_below (g := gb389) (o := .cells #[.slice A0_0 l0_0.length c0_0] 24 (0, 0)) (kb BK389.out) hb); clear hb hbox hg) | ((with_reducible refine gate_dst (N := 3) rfl ?_); refine box_event zz5 (N := 3) zz5 (cs := #[.slice none 0 0]) (t := 24) zz6 ?_; intro gb391 hg w4 hbox hb; have BK391 := am (hbox); have GW391 := am ((by rw [hg]; exact (below_size (bs HB.out)) : w.heap.size ≤ gb391)); have GE391 := am ((by rw [hg]; exact (below_size (bs HB.out)) : w.heap.size ≤ gb391)); replace HB := am (below_step (bs HB.out) hb); have NB389_391 := am ((by rw [hg]; exact Nat.ne_of_lt (blk_lt (g := gb389) (o := .cells #[.slice A0_0 l0_0.length c0_0] 24 (0, 0)) (kb BK389.out)) : gb389 ≠ gb391)); have NB391_389 := am ((by rw [hg]; exact Nat.ne_of_gt (blk_lt (g := gb389) (o := .cells #[.slice A0_0 l0_0.length c0_0] 24 (0, 0)) (kb BK389.out)) : gb391 ≠ gb389)); replace BK389 := am (blk_below (g := gb389) (o := .cells #[.slice A0_0 l0_0.length c0_0] 24 (0, 0)) (kb BK389.out) hb); have NB390_391 := am ((by rw [hg]; exact Nat.ne_of_lt (blk_lt (g := gb390) (o := .cells #[.slice none 0 0] 24 (0, 0)) (kb BK390.out)) : gb390 ≠ gb391)); have NB391_390 := am ((by rw [hg]; exact Nat.ne_of_gt (blk_lt (g := gb390) (o := .cells #[.slice none 0 0] 24 (0, 0)) (kb BK390.out)) : gb391 ≠ gb390)); replace BK390 := am (blk_below (g := gb390) (o := .cells #[.slice none 0 0] 24 (0, 0)) (kb BK390.out) hb); clear hb hbox hg; have hnb5 := NB389_390.out; have hnc5 := NB390_389.out; have hnb6 := NB389_391.out; have hnc6 := NB391_389.out; have hcz7_0 : w4.cell? ⟨gb389, 0, none⟩ = some (.slice A0_0 l0_0.length c0_0) := (blk_cell BK389.out 0).trans rfl; have hfz7_0 := blk_frozen BK389.out 0))
 go_loopg [9] k (fun kq v9 w' => ∃ (x9_1 : Int) (x392000_1 : List (List Int)) (u392000 : Value), v9 = .int .i64 x9_1 ∧ Aside0 (color_copied.l0 kq l0_0 (l0_0.length : Int) x9_1 x392000_1 = some r) ∧ Aside0 (kq ≤ k) ∧ Aside0 (Kd.S (Kd.slice 3 (Kd.int .i64)) 28 w' w.heap.size (fun _ => True) u392000 x392000_1) ∧ Aside0 (w'.heap[gb389]? = some (.cells #[(.slice A0_0 l0_0.length c0_0)] 24 (0, 0))) ∧ Aside0 (w'.heap[gb390]? = some (.cells #[(.slice none 0 0)] 24 (0, 0))) ∧ Aside0 (w'.heap[gb391]? = some (.cells #[u392000] 24 (0, 0))) ∧ Aside0 (Below w.heap.size w w'))
 case atStart => exact ⟨(0), (([] : List (List Int))), (.slice none 0 0), zz3, H', ⟨Nat.le_refl _⟩, ⟨by first | exact Kd.S_nil _ _ _ _ _ | exact Kd.N_nil _ _ _ _ _ | exact Kd.V_nil _ _ _ _ _ | exact Kd.Q_nil _ _ _ _ _ | exact Kd.R_nil _ _ _ _ _⟩, ⟨kb BK389.out⟩, ⟨kb BK390.out⟩, ⟨kb BK391.out⟩, ⟨bs HB.out⟩⟩
 case round =>
  clear H'
  (try clear p2); (try clear c5); (try clear c6); (try clear hcz7_0); (try clear hfz7_0)
  obtain ⟨x9_1, x392000_1, u392000, rfl, HA, HK1, HO_392000, BK389, BK390, BK391, HB⟩ := hrel
  cases gk with
  | zero => exact absurd HA.out (by simp [color_copied.l0])
  | succ k1 =>
   have H := HA.out
   clear HA
   simp only [color_copied.l0] at H
   by_cases c8 : x9_1 < (l0_0.length : Int)
   rotate_left
   ·rw [if_neg c8] at H
    have c8b0 : decide (x9_1 < (l0_0.length : Int)) = false := decide_eq_false c8
    clear c8
    obtain rfl := Option.some.inj H
    have hnb19 := NB391_389.out
    have hnc19 := NB389_391.out
    have hnb20 := NB391_390.out
    have hnc20 := NB390_391.out
    have hcz21_0 : wr.cell? ⟨gb391, 0, none⟩ = some (u392000) := (blk_cell BK391.out 0).trans rfl
    have hfz21_0 := blk_frozen BK391.out 0
    obtain ⟨Ao22, co22, eo22⟩ := Kd.S_slice HO_392000.out
    subst eo22
    have hnb23 := NB390_389.out
    have hnc23 := NB389_390.out
    have hcz24_0 : wr.cell? ⟨gb390, 0, none⟩ = some (.slice none 0 0) := (blk_cell BK390.out 0).trans rfl
    have hfz24_0 := blk_frozen BK390.out 0
    go_wp2
    refine bodyPost_ret (results_cell_row rfl _ _ gb390 24 #[.slice Ao22 x392000_1.length co22] (0, 0) _ rfl (by (with_reducible repeat (first | refine blk_drewN ?_ _ | refine blk_drew ?_ | refine blk_alloc ?_ _)); refine blk_put (cs := #[.slice none 0 0]) ?_ 0 _ rfl; (with_reducible repeat (first | refine blk_drewN ?_ _ | refine blk_drew ?_ | refine blk_alloc ?_ _)); exact BK390.out) Try.underlying24 rfl (by kernel_rfl)) rfl ?_
    exact ⟨_, by first | rfl | (simp [errW_none, errW_some] <;> rfl) | (simp [*, errW_none, errW_some] <;> rfl), kS (Kd.S_mono (Kd.S_far (p := ⟨gb390, 0, none⟩) (Kd.S_types HO_392000.out BK390.out (by decide)) (fun _ hk => hk.2) (.slice Ao22 x392000_1.length co22)) (fun _ hk => trivial)), bs HB.out⟩
   rw [if_pos c8] at H
   have c8b0 : decide (x9_1 < (l0_0.length : Int)) = true := decide_eq_true c8
   clear c8
   by_cases c9 : 0 ≤ x9_1
   rotate_left
   ·rw [if_neg c9] at H
    exact absurd H (by simp)
   rw [if_pos c9] at H
   have c9b0 : decide (0 ≤ x9_1) = true := decide_eq_true c9
   clear c9
   by_cases c10 : x9_1 < (l0_0.length : Int)
   rotate_left
   ·rw [if_neg c10] at H
    exact absurd H (by simp)
   rw [if_pos c10] at H
   have c10b0 : decide (x9_1 < (l0_0.length : Int)) = true := decide_eq_true c10
   clear c10
   replace H := Option.bind_eq_some_iff.mp H
   obtain ⟨t393, A110, H⟩ := H
   replace H : (if x392000_1.length < 5864062014805 then (color_copied.l0 k1 l0_0 (l0_0.length : Int) (wrap64 (x9_1 + 1)) (x392000_1 ++ [t393])) else (none)) = some r := H
   have A11 := am A110
   clear A110
   by_cases c12 : x392000_1.length < 5864062014805
   rotate_left
   ·rw [if_neg c12] at H
    exact absurd H (by simp)
   rw [if_pos c12] at H
   have LMc12 := am c12
   clear c12
   obtain ⟨y396, hy396⟩ : ∃ y_ : List (List Int), y_ = (x392000_1 ++ [t393]) := ⟨_, rfl⟩
   replace H : (color_copied.l0 k1 l0_0 (l0_0.length : Int) (wrap64 (x9_1 + 1)) y396) = some r := by first | (rw [hy396]; with_reducible exact H) | (have H2_ := (Option.bind_some _ _).symm.trans H; rw [hy396]; with_reducible exact H2_) | (have H2_ := (Option.bind_some _ _).symm.trans H; with_reducible exact H2_) | with_reducible exact H | (rw [hy396]; exact H) | exact H
   have Ny396 := am hy396
   clear hy396
   have H' := am H
   clear H
   have p392 : 0 ≤ (x9_1 : Int) := od zz2
   have q392 : x9_1 < (l0_0.length : Int) := od zz2
   obtain ⟨ad392, A392_0, c392_0, e392, hx392_0, hl392_0, hi392_0⟩ := at_L1 HR0_0.out x9_1 p392 q392
   cases e392
   replace hx392_0 := (HB.out.cell (World.block_lt_of_cell? w _ hx392_0)).trans hx392_0
   have HR392_0 := am hi392_0
   have HC392_0 := am hl392_0
   clear hi392_0 hl392_0
   replace p392 := eq_true p392
   replace q392 := eq_true q392
   try go_wp2
   replace HO_392000 := am (Kd.S_drew HO_392000.out)
   replace BK389 := am (blk_drew BK389.out)
   replace BK390 := am (blk_drew BK390.out)
   replace BK391 := am (blk_drew BK391.out)
   replace HB := am (bd HB.out)
   refine start_ (n := 8) (S := fun w' => w'.cell? ⟨gb391, 0, none⟩ = some (u392000)) (ds := [7]) #[false, false, false, false, false, false, false, false] (by kernel_rfl) rfl rfl ((blk_cell BK391.out 0).trans rfl) (fun hHeld => ?_); refine with_tabW color_copied.tab5 color_copied.bits5 (fun HT_ HW_ => ?_)
   generalize wr.drew = w13 at HO_392000 BK389 BK390 BK391 HB hHeld ⊢
   refine pv_ 0 13 cc0 HT_ ?_
   refine pv_ 2 15 cc1 HT_ ?_
   refine tv_ 1 14 cc2 HT_ HW_ hHeld ?_
   refine one_ (i := 3) (N := some 16) cc3 rfl rfl (one_of HT_.out (by kernel_rfl)) (by decide) (fun K hK => ?_)
   refine goes_ Try.func66 (by kernel_rfl) rfl #[.slice A392_0 (rd_L1 l0_0 x9_1).length c392_0] (by rfl) rfl rfl zz1 ?_
   with_reducible refine (slices_Clone_int_int.calls _ _ (rd_L1 l0_0 x9_1) t393 _ ?side1 ?side2 A11.out).mono ?_
   (case side1 => exact kc (Kd.C_below HR392_0.out HB.out))
   (case side2 => exact HC392_0.out)
   rintro e w14 ⟨v394, rfl, ho0, hb⟩
   refine ⟨_, rfl, ?_⟩
   replace HO_392000 := am (Kd.S_elder' (kS HO_392000.out) (Kd.R_base ho0) hb)
   have HO395 := am (Kd.R_lower ho0 (below_size (bs HB.out)))
   replace BK389 := am (blk_below (g := gb389) (o := .cells #[.slice (some ad392) l0_0.length c0_0] 24 (0, 0)) (kb BK389.out) hb)
   replace BK390 := am (blk_below (g := gb390) (o := .cells #[.slice none 0 0] 24 (0, 0)) (kb BK390.out) hb)
   replace BK391 := am (blk_below (g := gb391) (o := .cells #[u392000] 24 (0, 0)) (kb BK391.out) hb)
   replace HB := am (below_step (bs HB.out) hb)
   (try clear hb)
   (try clear hb2)
   (try clear hk)
   (try clear hi)
   (try clear ho0)
   obtain ⟨Ao16, co16, eo16⟩ := Kd.R_slice HO395.out
   (first | subst eo16 | (injection eo16 with f1_ f2_ f3_; have f4_ := f1_.symm; have f5_ := f3_.symm; clear f1_ f2_ f3_; subst f4_; subst f5_))
   refine hK.out _ _ ((blk_cell BK391.out 0).trans rfl) (fun hHeld => ?_)
   clear hK K
   refine nm_ 16 ?_
   refine one_ (i := 4) (N := some 17) cc4 rfl rfl (one_of HT_.out (by kernel_rfl)) (by decide) (fun K hK => ?_)
   refine value_ (w1 := ?_) (v := ?_) (by rfl) rfl ?_ ?_
   rotate_left 2
   ·go_simp
    constructor
    ·rfl
    ·rfl
   refine hK.out _ _ ((blk_cell (blk_alloc BK391.out _) 0).trans rfl) (fun hHeld => ?_)
   clear hK K
   refine nm_ 17 ?_
   refine one_ (i := 5) (N := some 18) cc5 rfl rfl (one_of HT_.out (by kernel_rfl)) (by decide) (fun K hK => ?_)
   refine Kd.S_append_step (Kd.slice 3 (Kd.int .i64)) (w0 := w) w.heap.size (by rfl) (.tmp 14) (.tmp 17) 22 28 (.slice none 0 0) 24 rfl Try.underlying22 info28 rfl (by decide) (by omega) u392000 x392000_1 t393 [.slice Ao16 t393.length co16] (fun _ => True) (fun k_ => some k_ = (.slice Ao16 t393.length co16 : Value).ownBlock) rfl rfl ?aP (fun k_ hk_ => ((Kd.R_mono (ok' := fun k_ => ((fun _ => True)) k_ ∧ some k_ ≠ (u392000 : Value).ownBlock) (Kd.R_apart' (HO395.out) (Kd.S_typed HO_392000.out) (by decide)) (fun k_ hk => ⟨trivial, hk.2⟩))).1 k_ hk_.symm) ?aF ?aO ?aB ?aS ?aL ?_
   (case aP => exact Kd.M_row (Kd.R_mono (Kd.R_tight rfl (Kd.R_mono (ok' := fun k_ => ((fun _ => True)) k_ ∧ some k_ ≠ (u392000 : Value).ownBlock) (Kd.R_apart' (HO395.out) (Kd.S_typed HO_392000.out) (by decide)) (fun k_ hk => ⟨trivial, hk.2⟩))) (fun _ h_ => h_)))
   (case aB => exact (bs HB.out))
   (case aF => exact (fun _ _ => trivial))
   (case aO => exact (kS (Kd.S_mono HO_392000.out (fun k_ hk => ⟨trivial, fun e_ => hk.2 e_⟩))))
   (case aS => exact (below_size (bs HB.out)))
   (case aL => have := LMc12.out; omega)
   intro v397 w15 ho hb hg hat
   rw [← Ny396.out] at ho
   have n0_ := am (blk_grown (g := gb389) (o := .cells #[.slice (some ad392) l0_0.length c0_0] 24 (0, 0)) (kb BK389.out) hg (Kd.S_ne HO_392000.out BK389.out (by decide)))
   have n1_ := am (blk_grown (g := gb390) (o := .cells #[.slice none 0 0] 24 (0, 0)) (kb BK390.out) hg (Kd.S_ne HO_392000.out BK390.out (by decide)))
   have n2_ := am (blk_grown (g := gb391) (o := .cells #[u392000] 24 (0, 0)) (kb BK391.out) hg (Kd.S_ne HO_392000.out BK391.out (by decide)))
   have n3_ := am (hb)
   have n4_ := am (ho)
   clear BK389
   clear BK390
   clear BK391
   clear HB
   clear HO_392000
   clear HO395
   have BK389 := n0_
   have BK390 := n1_
   have BK391 := n2_
   have HB := n3_
   have HO398 := n4_
   clear n0_ n1_ n2_ n3_ n4_
   clear ho hb hg hat
   obtain ⟨Ao17, co17, eo17⟩ := Kd.S_slice HO398.out
   (first | subst eo17 | (injection eo17 with f1_ f2_ f3_; have f4_ := f1_.symm; have f5_ := f3_.symm; clear f1_ f2_ f3_; subst f4_; subst f5_))
   refine hK.out _ _ ((blk_cell BK391.out 0).trans rfl) (fun hHeld => ?_)
   clear hK K
   refine nm_ 18 ?_
   refine pv_ 6 19 cc6 HT_ ?_
   refine last_ (i := 7) (N := none) cc7 rfl rfl (one_of HT_.out (by kernel_rfl)) (by decide) (fun K hK => ?_)
   have hs18 : w15.cell? ⟨gb391, 0, none⟩ = some (u392000) := (blk_cell BK391.out 0).trans rfl
   have hfs18 := blk_frozen BK391.out 0
   have hns18_0 := NB389_391.out
   have hns18_1 := NB390_391.out
   have hms18_0 := NB391_389.out
   have hms18_1 := NB391_390.out
   refine skip_ (w1 := ?_) (by rfl) rfl ?_ ?_
   rotate_left
   ·go_simp
    rfl
   refine hK.out _ _ ?_
   clear hK K
   refine done_ (done_of HT_.out (by kernel_rfl)) ?_
   try go_wp2
   go_roundg k1
   case measure => have := HK1.out; omega
   case rel => exact ⟨(wrap64 (x9_1 + 1)), (y396), (.slice Ao17 y396.length co17), zz3, H', ⟨by have := HK1.out; omega⟩, ⟨kS (Kd.S_mono (Kd.S_far (p := ⟨gb391, 0, none⟩) (Kd.S_types HO398.out BK391.out (by decide)) (fun _ hk => hk.2) (.slice Ao17 y396.length co17)) (fun _ hk => trivial))⟩, ⟨by (with_reducible repeat (first | refine blk_drewN ?_ _ | refine blk_drew ?_ | refine blk_alloc ?_ _)); refine blk_far ?_ NB389_391.out _; (with_reducible repeat (first | refine blk_drewN ?_ _ | refine blk_drew ?_ | refine blk_alloc ?_ _)); exact BK389.out⟩, ⟨by (with_reducible repeat (first | refine blk_drewN ?_ _ | refine blk_drew ?_ | refine blk_alloc ?_ _)); refine blk_far ?_ NB390_391.out _; (with_reducible repeat (first | refine blk_drewN ?_ _ | refine blk_drew ?_ | refine blk_alloc ?_ _)); exact BK390.out⟩, ⟨by (with_reducible repeat (first | refine blk_drewN ?_ _ | refine blk_drew ?_ | refine blk_alloc ?_ _)); refine blk_put (cs := #[u392000]) ?_ 0 _ rfl; (with_reducible repeat (first | refine blk_drewN ?_ _ | refine blk_drew ?_ | refine blk_alloc ?_ _)); exact BK391.out⟩, ⟨bs HB.out⟩⟩
end Go.Proofs.Ytjgdalhdiohclaa.Q
end
