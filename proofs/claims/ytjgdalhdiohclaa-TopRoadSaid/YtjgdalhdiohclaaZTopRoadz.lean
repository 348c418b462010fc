/- Part of the proof of TopRoad (text 26 of 33) -/
import Derived.Test.YtjgdalhdiohclaaZTopRoadg
import Derived.Test.YtjgdalhdiohclaaZTopRoady
import Derived.Shelf.RegionOpen
import Derived.Laws.EntriesVeiled
import Derived.Test.YtjgdalhdiohclaaZTopRoadb
import Derived.OwnWalkIn
import Derived.TacticsInMore
import Derived.StillTailTactics
import Derived.Deep.CutRange
set_option linter.unusedVariables false
set_option linter.unusedSimpArgs false
set_option linter.unusedSectionVars false
set_option maxRecDepth 100000
set_option maxHeartbeats 8000000
section
namespace Go.Proofs.Ytjgdalhdiohclaa.Q
open Go.RowKit Go.Sort Go.Proofs.YtjgdalhdiohclaaW.PrintWords Go.Proofs.YtjgdalhdiohclaaW.PrintLast Go.Proofs.YtjgdalhdiohclaaW.PrintMore
def xras0 : Array Bool := #[false, true, false, false]
def xras1 : Array Bool := #[true, true, false, false]
def xras2 : Array Bool := #[true, true, true, false]
def xras3 : Array Bool := #[true, true, true, true]
theorem from_okR (w0 : World) (O F : Nat) : ∀ k, FromOkR w0 O F k := by
 intro k
 induction k using Nat.strongRecOn with
 | ind k ih =>
  cases k with
  | zero => intro ok done left out R W vO A0 c0 A1 c1 _ _ _ _ _ _ _ _ h; simp [color_from.f] at h
  | succ k => exact from_stepR w0 O F k (fun j hj => ih j (by omega))
def color_rows.f (k : Nat) (l0 : List Int) : Option (List (List Int)) := (color_sorted.f l0).bind fun s => color_from.f k [] s []
theorem color_rows.mono : ∀ a0 k, LeO (color_rows.f k a0) (color_rows.f (k + 1) a0) := fun _ k => LeO.bind (LeO.refl _) fun _ => (color_from.mono_l k).1 _ _ _
def color_rows.T4 : Bool × List (List Nat × List Nat) := (true, [([], []), ([], []), ([1], [1]), ([0, 2, 2], [0, 2])])
def color_rows.B4 : List Nat := [0, 0, 2, 7]
theorem color_rows.tab4 : rtab .any (opsOf Try.f108 4) = color_rows.T4 := by kernel_rfl
theorem color_rows.bits4 : waitsOk color_rows.T4.2 color_rows.B4 = true := by kernel_rfl
theorem color_rows.calls (k : Nat) (A0 : Option Addr) (c0 : Nat) (l0 : List Int) (r : List (List Int)) (w : World) (hr0 : Kd.C (Kd.int .i64) w A0 l0.length l0) (hc0 : l0.length ≤ c0) (h : color_rows.f k l0 = some r) :
  Calls Try.prog 108 #[.slice A0 l0.length c0] w fun e w' => ∃ v0_ : Value, e = .returned v0_ ∧ Kd.S (Kd.slice 3 (Kd.int .i64)) 28 w' w.heap.size (fun _ => True) v0_ r ∧ Below w.heap.size w w' := by
 obtain ⟨s, hs, hf⟩ := Option.bind_eq_some_iff.1 h
 have HSo := am hs
 have HF := am hf
 have HR := am hr0
 have HC := am hc0
 clear h hs hf hr0 hc0
 go_enter Try.func108, Try.ntmps108
 go_wp2_with fail
 have hbd : Below w.heap.size w ((w.alloc (.cells #[.slice none 0 0] 22)).alloc (.cells #[.func (.func 129) #[] (caR w.heap.size (w.heap.size + 1))] 131)) := ((Below.refl _ w).alloc (Nat.le_refl _) _).alloc (by simp) _
 have hO : ((w.alloc (.cells #[.slice none 0 0] 22)).alloc (.cells #[.func (.func 129) #[] (caR w.heap.size (w.heap.size + 1))] 131)).heap[w.heap.size]? = some (.cells #[.slice none 0 0] 22 (0, 0)) := blk_alloc (blk_new _ _) _
 have hF : ((w.alloc (.cells #[.slice none 0 0] 22)).alloc (.cells #[.func (.func 129) #[] (caR w.heap.size (w.heap.size + 1))] 131)).heap[w.heap.size + 1]? = some (.cells #[.func (.func 129) #[] (caR w.heap.size (w.heap.size + 1))] 131 (0, 0)) := by
  have := blk_new (w.alloc (.cells #[.slice none 0 0] 22)) (.cells #[.func (.func 129) #[] (caR w.heap.size (w.heap.size + 1))] 131)
  rwa [World.size_alloc] at this
 have hsz : w.heap.size + 1 < ((w.alloc (.cells #[.slice none 0 0] 22)).alloc (.cells #[.func (.func 129) #[] (caR w.heap.size (w.heap.size + 1))] 131)).heap.size := by simp
 have e1 : #[Value.pointer (some ⟨w.heap.size, 0, none⟩), .pointer (some ⟨w.heap.size + 1, 0, none⟩)] = caR w.heap.size (w.heap.size + 1) := rfl
 rw [e1]
 generalize ((w.alloc (.cells #[.slice none 0 0] 22)).alloc (.cells #[.func (.func 129) #[] (caR w.heap.size (w.heap.size + 1))] 131)) = W1 at hbd hO hF hsz ⊢
 have HBd := am (below_step hbd (below_drew (Below.refl _ W1)))
 have HO := am (blk_drew hO)
 have HFb := am (blk_drew hF)
 have hc0 : W1.drew.cell? ⟨w.heap.size + 1, 0, none⟩ = some (.func (.func 129) #[] (caR w.heap.size (w.heap.size + 1))) := (blk_cell HFb.out 0).trans rfl
 have hsz : w.heap.size + 1 < W1.drew.heap.size := hsz
 refine start_ (n := 4) (S := fun w' => w'.cell? ⟨w.heap.size + 1, 0, none⟩ = some (.func (.func 129) #[] (caR w.heap.size (w.heap.size + 1)))) (ds := [3]) #[false, false, false, false] (by kernel_rfl) rfl rfl hc0 (fun hHeld => ?_); refine with_tabW color_rows.tab4 color_rows.bits4 (fun HT_ HW_ => ?_)
 clear hc0 hbd hO hF e1
 generalize W1.drew = wd at HBd HO HFb hHeld hsz ⊢
 have HSZ := am hsz
 clear hsz
 refine pv_ 1 7 xras0 HT_ ?_
 refine tv_ 0 6 xras1 HT_ HW_ hHeld ?_
 refine one_ (i := 2) (N := some 8) xras2 rfl rfl (one_of HT_.out (by kernel_rfl)) (by decide) (fun K hK => ?_)
 refine goes_ Try.func82 (by kernel_rfl) rfl #[.slice A0 l0.length c0] (by rfl) rfl rfl (by (try simp only [List.map_toArray, List.map_cons, List.map_nil]); first | done | rfl) ?_
 refine (color_sorted.calls A0 c0 l0 s _ (Kd.C_below HR.out HBd.out) HC.out HSo.out).mono ?_
 rintro e w3 ⟨v8, rfl, hv, hb⟩
 refine ⟨_, rfl, ?_⟩
 have HR8 := am hv
 have HO := am (blk_below HO.out hb)
 have HFb := am (blk_below HFb.out hb)
 have HBd := am (below_step HBd.out hb)
 have HSZ0 := am HSZ.out
 have HSZ := am (Nat.lt_of_lt_of_le HSZ.out hb.size)
 clear hv hb
 obtain ⟨A8, c8, e8⟩ := Kd.R_slice HR8.out
 subst e8
 refine hK.out _ _ ((blk_cell HFb.out 0).trans rfl) (fun hHeld => ?_)
 clear hK K
 refine nm_ 8 ?_
 refine last_ (i := 3) (N := some 9) xras3 rfl rfl (one_of HT_.out (by kernel_rfl)) (by decide) (fun K hK => ?_)
 refine goesC_ Try.func129 (by kernel_rfl) rfl #[.slice none 0 0, .slice A8 s.length c8] (by rfl) rfl rfl (by rfl) (by (try simp only [List.map_toArray, List.map_cons, List.map_nil]); first | done | rfl) ?_
 have hRS : RS w w.heap.size (w.heap.size + 1) (fun b => w3.heap.size ≤ b) w3 (.slice none 0 0) [] := ⟨HBd.out, HO.out, HFb.out, Kd.S_nil _ _ _ _ _, by have := HSZ.out; omega, by have := HSZ.out; omega, Nat.le_refl _⟩
 refine (from_okR w w.heap.size (w.heap.size + 1) k (fun b => w3.heap.size ≤ b) [] s [] r w3 (.slice none 0 0) none 0 A8 c8 hRS (fun b hb => hb) (Kd.C_nil _ _) (Nat.le_refl 0) (fun a e => by cases e) (Kd.R_reads' HR8.out).2.2 (Kd.R_reads' HR8.out).2.1 (fun a e => by
  subst e
  have h1 := own_block HR8.out
  have h2 := HSZ.out
  have h4 := HSZ0.out
  have h3 := hRS.below.size
  rintro (h | h)
  ·omega
  ·omega) HF.out).mono ?_
 rintro e w4 ⟨rfl, ⟨v9, hS9⟩, hk9⟩
 refine ⟨_, rfl, ?_⟩
 obtain ⟨A9, c9, e9⟩ := Kd.S_slice hS9.S
 subst e9
 have HS9 := am hS9
 have hcO : w4.cell? ⟨w.heap.size, 0, none⟩ = some (.slice A9 r.length c9) := (blk_cell hS9.bO 0).trans rfl
 clear hRS hS9 hk9 HR8 HBd HO HFb HSZ HSZ0
 refine hK.out _ _ ?_
 clear hK K
 refine nm_ 9 ?_
 refine done_ (done_of HT_.out (by kernel_rfl)) ?_
 clear HT_ HW_
 go_wp2_with fail
 go_ret
 exact ⟨_, rfl, Kd.S_mono HS9.out.S (fun _ _ => trivial), HS9.out.below⟩
end Go.Proofs.Ytjgdalhdiohclaa.Q
end
section
namespace Go.Proofs.Ytjgdalhdiohclaa.Q
open Go.RowKit Go.Proofs.YtjgdalhdiohclaaW.PrintWords Go.Proofs.YtjgdalhdiohclaaW.PrintLast Go.Proofs.YtjgdalhdiohclaaW.PrintMore
attribute [local go_sem] max2_int min2_int max_two min_two max_three min_three max_four min_four
def color_all.l0 : Nat → List (List (List Int)) → List (List Int) → Int → Int → Option ((List (List (List Int))))
 | 0, _, _, _, _ => none
 | k + 1, x3, x7, x8, x9 => if x9 < x8 then (if 0 ≤ x9 then (if x9 < (x7.length : Int) then ((color_rows.f k (rd_L1 x7 x9)).bind fun t300 => (if x3.length < 5864062014805 then (color_all.l0 k (x3 ++ [t300]) x7 x8 (wrap64 (x9 + 1))) else (none))) else (none)) else (none)) else (some x3)
def color_all.f (k : Nat) (l0_0 : List (List Int)) : Option ((List (List (List Int)))) := color_all.l0 k ([] : List (List (List Int))) l0_0 (l0_0.length : Int) 0
theorem color_all.mono_l : ∀ k, (∀ y0 y1 y2 y3, LeO (color_all.l0 k y0 y1 y2 y3) (color_all.l0 (k + 1) y0 y1 y2 y3))
 | 0 => fun _ _ _ _ r h => by simp [color_all.l0] at h
 | k + 1 => by
  have ih0 := color_all.mono_l k
  ·intro y0 y1 y2 y3
   unfold color_all.l0
   with_reducible repeat' first | exact ih0 _ _ _ _ | exact color_rows.mono _ _ | exact LeO.refl _ | exact LeO.none _ | refine LeO.ite ?_ ?_ | refine LeO.bind ?_ (fun _ => ?_)
theorem color_all.mono : ∀ a0 k, LeO (color_all.f k a0) (color_all.f (k + 1) a0) := by
 intro a0 k
 have ih0 := color_all.mono_l k
 unfold color_all.f
 with_reducible repeat' first | exact ih0 _ _ _ _ | exact color_rows.mono _ _ | exact LeO.refl _ | exact LeO.none _ | refine LeO.ite ?_ ?_ | refine LeO.bind ?_ (fun _ => ?_)
theorem color_all.calls (k : Nat) (A0_0 : Option Addr) (c0_0 : Nat) (l0_0 : List (List Int)) (r : List (List (List Int))) (w : World) (hr0_0 : Kd.C (Kd.slice 3 (Kd.int .i64)) w A0_0 l0_0.length l0_0) (hc0_0 : l0_0.length ≤ c0_0) (h : color_all.f k l0_0 = some r) :
  Calls Try.prog 86 #[.agg #[.slice A0_0 l0_0.length c0_0]] w fun e w' => ∃ v0_ : Value, e = .returned (v0_) ∧ Kd.R (Kd.slice 28 (Kd.slice 3 (Kd.int .i64))) 22 w' w.heap.size (fun _ => True) v0_ r ∧ Below w.heap.size w w' := by
 have hu24 := Try.underlying24
 have HR0_0 := am hr0_0
 have HC0_0 := am hc0_0
 clear hr0_0 hc0_0
 have HB := am (Below.refl w.heap.size w)
 have H : (color_all.l0 k ([] : List (List (List Int))) l0_0 (l0_0.length : Int) 0) = some r := h
 clear h
 have H' := am H
 clear H
 go_enter Try.func86, Try.ntmps86
 go_wp2_with (first | ((with_reducible refine gate_dst (N := 1) rfl ?_); refine box_event zz5 (N := 1) zz5 (cs := #[.slice A0_0 l0_0.length c0_0]) (t := 24) zz6 ?_; intro gb298 hg w2 hbox hb; have BK298 := am (hbox); have GW298 := am ((by rw [hg]; exact (below_size (bw HB.out)) : w.heap.size ≤ gb298)); have GE298 := am ((by rw [hg]; exact (below_size (bw HB.out)) : w.heap.size ≤ gb298)); replace HB := am (below_step (bw HB.out) hb); clear hb hbox hg; have hcz3_0 : w2.cell? ⟨gb298, 0, none⟩ = some (.slice A0_0 l0_0.length c0_0) := (blk_cell BK298.out 0).trans rfl; have hfz3_0 := blk_frozen BK298.out 0))
 go_loopg [3, 9] k (fun kq v3 v9 w' => ∃ (x3_1 : List (List (List Int))) (x9_1 : Int), v9 = .int .i64 x9_1 ∧ Aside0 (color_all.l0 kq x3_1 l0_0 (l0_0.length : Int) x9_1 = some r) ∧ Aside0 (kq ≤ k) ∧ Aside0 (Kd.R (Kd.slice 28 (Kd.slice 3 (Kd.int .i64))) 22 w' w.heap.size (fun _ => True) v3 x3_1) ∧ Aside0 (w'.heap[gb298]? = some (.cells #[(.slice A0_0 l0_0.length c0_0)] 24 (0, 0))) ∧ Aside0 (Below w.heap.size w w'))
 case atStart => exact ⟨(([] : List (List (List Int)))), (0), zz3, H', ⟨Nat.le_refl _⟩, ⟨by first | exact Kd.R_nil _ _ _ _ _ | exact Kd.N_nil _ _ _ _ _ | exact Kd.V_nil _ _ _ _ _ | exact Kd.Q_nil _ _ _ _ _ | exact Kd.S_nil _ _ _ _ _⟩, ⟨kb BK298.out⟩, ⟨bs HB.out⟩⟩
 case round =>
  clear H'
  (try clear p2); (try clear hcz3_0); (try clear hfz3_0)
  obtain ⟨x3_1, x9_1, rfl, HA, HK1, HO_3, BK298, HB⟩ := hrel
  cases gk with
  | zero => exact absurd HA.out (by simp [color_all.l0])
  | succ k1 =>
   have H := HA.out
   clear HA
   simp only [color_all.l0] at H
   by_cases c4 : x9_1 < (l0_0.length : Int)
   ·rw [if_pos c4] at H
    have c4b0 : decide (x9_1 < (l0_0.length : Int)) = true := decide_eq_true c4
    clear c4
    by_cases c5 : 0 ≤ x9_1
    ·rw [if_pos c5] at H
     have c5b0 : decide (0 ≤ x9_1) = true := decide_eq_true c5
     clear c5
     by_cases c6 : x9_1 < (l0_0.length : Int)
     ·rw [if_pos c6] at H
      have c6b0 : decide (x9_1 < (l0_0.length : Int)) = true := decide_eq_true c6
      clear c6
      replace H := Option.bind_eq_some_iff.mp H
      obtain ⟨t300, A70, H⟩ := H
      replace H : (if x3_1.length < 5864062014805 then (color_all.l0 k1 (x3_1 ++ [t300]) l0_0 (l0_0.length : Int) (wrap64 (x9_1 + 1))) else (none)) = some r := H
      have A7 := am A70
      clear A70
      by_cases c8 : x3_1.length < 5864062014805
      ·rw [if_pos c8] at H
       have LMc8 := am c8
       clear c8
       obtain ⟨y303, hy303⟩ : ∃ y_ : List (List (List Int)), y_ = (x3_1 ++ [t300]) := ⟨_, rfl⟩
       replace H : (color_all.l0 k1 y303 l0_0 (l0_0.length : Int) (wrap64 (x9_1 + 1))) = some r := by first | (rw [hy303]; with_reducible exact H) | (have H2_ := (Option.bind_some _ _).symm.trans H; rw [hy303]; with_reducible exact H2_) | (have H2_ := (Option.bind_some _ _).symm.trans H; with_reducible exact H2_) | with_reducible exact H | (rw [hy303]; exact H) | exact H
       have Ny303 := am hy303
       clear hy303
       have H' := am H
       clear H
       have p299 : 0 ≤ (x9_1 : Int) := od zz2
       have q299 : x9_1 < (l0_0.length : Int) := od zz2
       obtain ⟨ad299, A299_0, c299_0, e299, hx299_0, hl299_0, hi299_0⟩ := at_L1 HR0_0.out x9_1 p299 q299
       cases e299
       replace hx299_0 := (HB.out.cell (World.block_lt_of_cell? w _ hx299_0)).trans hx299_0
       have HR299_0 := am hi299_0
       have HC299_0 := am hl299_0
       clear hi299_0 hl299_0
       replace p299 := eq_true p299
       replace q299 := eq_true q299
       go_wp2_with (first | ((with_reducible refine gate_callee (f := 108) rfl ?_); refine goesL_ (some 15) rfl rfl Try.func108 (by kernel_rfl) rfl #[.slice A299_0 (rd_L1 l0_0 x9_1).length c299_0] rfl zz1 ?_; (with_reducible refine (color_rows.calls k1 _ _ (rd_L1 l0_0 x9_1) t300 _ ?side1 ?side2 A7.out).mono ?_); (case side1 => exact kc (Kd.C_below HR299_0.out HB.out)); (case side2 => exact HC299_0.out); rintro e w9 ⟨v301, rfl, ho0, hb⟩; refine ⟨_, rfl, ?_⟩; replace HO_3 := am (Kd.R_elder' (kR HO_3.out) (Kd.S_base ho0) hb); have HO302 := am (Kd.S_lower ho0 (below_size (bs HB.out))); replace BK298 := am (blk_below (g := gb298) (o := .cells #[.slice (some ad299) l0_0.length c0_0] 24 (0, 0)) (kb BK298.out) hb); replace HB := am (below_step (bs HB.out) hb); (try clear hb); (try clear hb2); (try clear hk); (try clear hi); (try clear ho0); obtain ⟨Ao11, co11, eo11⟩ := Kd.S_slice HO302.out; subst eo11) | ((with_reducible refine gate_builtin (b := .append) (xs := #[.tmp 13, .tmp 16]) rfl ?_); at_builtin; refine Kd.R_append (Kd.slice 28 (Kd.slice 3 (Kd.int .i64))) (w0 := w) w.heap.size rfl (.tmp 13) (.tmp 16) 87 22 (.slice none 0 0) 24 rfl Try.underlying87 info22 rfl (by decide) (by omega) u3 x3_1 t300 [.slice Ao11 t300.length co11] (fun _ => True) (fun k_ => ((fun _ => True)) k_ ∧ some k_ ≠ (u3 : Value).ownBlock) rfl rfl ?aP (fun _ hk => hk) ?aF ?aO ?aB ?aS ?aL ?_; (case aP => exact Kd.M_row (Kd.R_mono (Kd.R_apart' ((Kd.S_R HO302.out)) (Kd.R_typed HO_3.out) (by decide)) (fun k_ hk => ⟨trivial, hk.2⟩))); (case aB => exact (bs HB.out)); (case aF => exact (fun _ _ => trivial)); (case aO => exact (kR (Kd.R_mono HO_3.out (fun _ hk => trivial)))); (case aS => exact (below_size (bs HB.out))); (case aL => have := LMc8.out; omega); intro v304 w10 ho hb hg hat; rw [← Ny303.out] at ho; have n0_ := am (blk_grown (g := gb298) (o := .cells #[.slice (some ad299) l0_0.length c0_0] 24 (0, 0)) (kb BK298.out) hg (Kd.R_ne HO_3.out BK298.out (by decide))); have n1_ := am (hb); have n2_ := am (ho); clear BK298; clear HB; clear HO_3; clear HO302; have BK298 := n0_; have HB := n1_; have HO305 := n2_; clear n0_ n1_ n2_; clear ho hb hg hat))
       go_roundg k1
       case measure => have := HK1.out; omega
       case rel => exact ⟨(y303), (wrap64 (x9_1 + 1)), zz3, H', ⟨by have := HK1.out; omega⟩, ⟨kR HO305.out⟩, ⟨kb BK298.out⟩, ⟨bs HB.out⟩⟩
      ·rw [if_neg c8] at H
       exact absurd H (by simp)
     ·rw [if_neg c6] at H
      exact absurd H (by simp)
    ·rw [if_neg c5] at H
     exact absurd H (by simp)
   ·rw [if_neg c4] at H
    have c4b0 : decide (x9_1 < (l0_0.length : Int)) = false := decide_eq_false c4
    clear c4
    obtain rfl := Option.some.inj H
    go_wp2
    go_ret
    exact ⟨_, by first | rfl | (simp [errW_none, errW_some] <;> rfl) | (simp [*, errW_none, errW_some] <;> rfl), kR HO_3.out, bs HB.out⟩
end Go.Proofs.Ytjgdalhdiohclaa.Q
end
section
namespace Go.Proofs.Ytjgdalhdiohclaa.Q
open Go.RowKit Go.Proofs.YtjgdalhdiohclaaW.PrintWords Go.Proofs.YtjgdalhdiohclaaW.PrintLast Go.Proofs.YtjgdalhdiohclaaW.PrintMore
attribute [local go_sem] max2_int min2_int max_two min_two max_three min_three max_four min_four
def color_Colorings.f (k : Nat) (l0_0 : List (List Int)) : Option (Int × Int) := (auto_Valid.f l0_0).bind fun t307 => (if t307 = true then ((color_all.f k l0_0).bind fun t308 => ((color_count.f k t308).bind fun bt311 => (if bt311.2 = true then (some (bt311.1, 0)) else (some (0, 3))))) else (some (0, 1)))
theorem color_Colorings.calls (k : Nat) (A0_0 : Option Addr) (c0_0 : Nat) (l0_0 : List (List Int)) (r1 : Int) (r2 : Int) (w : World) (hr0_0 : Kd.C (Kd.slice 3 (Kd.int .i64)) w A0_0 l0_0.length l0_0) (hc0_0 : l0_0.length ≤ c0_0) (h : color_Colorings.f k l0_0 = some (r1, r2)) :
    Calls Try.prog 47 #[.agg #[.slice A0_0 l0_0.length c0_0]] w fun e w' => e = .returned (.tuple #[.int .i64 r1, .int .i64 r2]) ∧ Below w.heap.size w w' := by
 have hu24 := Try.underlying24
 have HR0_0 := am hr0_0
 have HC0_0 := am hc0_0
 clear hr0_0 hc0_0
 have HB := am (Below.refl w.heap.size w)
 have H : ((auto_Valid.f l0_0).bind fun t307 => (if t307 = true then ((color_all.f k l0_0).bind fun t308 => ((color_count.f k t308).bind fun bt311 => (if bt311.2 = true then (some (bt311.1, 0)) else (some (0, 3))))) else (some (0, 1)))) = some (r1, r2) := h
 clear h
 replace H := Option.bind_eq_some_iff.mp H
 obtain ⟨t307, A20, H⟩ := H
 replace H : (if t307 = true then ((color_all.f k l0_0).bind fun t308 => ((color_count.f k t308).bind fun bt311 => (if bt311.2 = true then (some (bt311.1, 0)) else (some (0, 3))))) else (some (0, 1))) = some (r1, r2) := H
 have A2 := am A20
 clear A20
 by_cases c3 : t307 = true
 rotate_left
 ·replace c3 := Bool.eq_false_iff.mpr c3
  subst c3
  have H1 : (some (0, 1)) = some (r1, r2) := by rw [if_neg (show ¬ (false = true) by decide)] at H; exact H
  clear H
  have H := H1
  clear H1
  simp only [Option.some.injEq, Prod.mk.injEq] at H
  obtain ⟨rfl, rfl⟩ := H
  go_enter Try.func47, Try.ntmps47
  go_wp2_with (first | ((with_reducible refine gate_dst (N := 1) rfl ?_); refine box_event zz5 (N := 1) zz5 (cs := #[.slice A0_0 l0_0.length c0_0]) (t := 24) zz6 ?_; intro gb306 hg w19 hbox hb; have BK306 := am (hbox); have GW306 := am ((by rw [hg]; exact (below_size (bw HB.out)) : w.heap.size ≤ gb306)); have GE306 := am ((by rw [hg]; exact (below_size (bw HB.out)) : w.heap.size ≤ gb306)); replace HB := am (below_step (bw HB.out) hb); clear hb hbox hg; have hcz20_0 : w19.cell? ⟨gb306, 0, none⟩ = some (.slice A0_0 l0_0.length c0_0) := (blk_cell BK306.out 0).trans rfl; have hfz20_0 := blk_frozen BK306.out 0) | ((with_reducible refine gate_callee (f := 63) rfl ?_); refine goesL_ (some 7) rfl rfl Try.func63 (by kernel_rfl) rfl #[.agg #[.slice A0_0 l0_0.length c0_0]] rfl zz1 ?_; (with_reducible refine (auto_Valid.calls _ _ l0_0 false _ ?side1 ?side2 A2.out).mono ?_); (case side1 => exact kc (Kd.C_below HR0_0.out HB.out)); (case side2 => exact HC0_0.out); rintro e w21 ⟨rfl, hb⟩; refine ⟨_, rfl, ?_⟩; replace BK306 := am (blk_below (g := gb306) (o := .cells #[.slice A0_0 l0_0.length c0_0] 24 (0, 0)) (kb BK306.out) hb); replace HB := am (below_step (bs HB.out) hb); (try clear hb); (try clear hb2); (try clear hk); (try clear hi)))
  go_ret2
  exact ⟨by first | rfl | (simp [errW_none, errW_some] <;> rfl) | (simp [*, errW_none, errW_some] <;> rfl), bs HB.out⟩
 subst c3
 have H1 : ((color_all.f k l0_0).bind fun t308 => ((color_count.f k t308).bind fun bt311 => (if bt311.2 = true then (some (bt311.1, 0)) else (some (0, 3))))) = some (r1, r2) := by rw [if_pos rfl] at H; exact H
 clear H
 have H := H1
 clear H1
 replace H := Option.bind_eq_some_iff.mp H
 obtain ⟨t308, A40, H⟩ := H
 replace H : ((color_count.f k t308).bind fun bt311 => (if bt311.2 = true then (some (bt311.1, 0)) else (some (0, 3)))) = some (r1, r2) := H
 have A4 := am A40
 clear A40
 replace H := Option.bind_eq_some_iff.mp H
 obtain ⟨⟨t311, t312⟩, A50, H⟩ := H
 replace H : (if t312 = true then (some (t311, 0)) else (some (0, 3))) = some (r1, r2) := H
 have A5 := am A50
 clear A50
 by_cases c6 : t312 = true
 ·subst c6
  have H1 : (some (t311, 0)) = some (r1, r2) := by rw [if_pos rfl] at H; exact H
  clear H
  have H := H1
  clear H1
  simp only [Option.some.injEq, Prod.mk.injEq] at H
  obtain ⟨rfl, rfl⟩ := H
  go_enter Try.func47, Try.ntmps47
  go_wp2_with (first | ((with_reducible refine gate_dst (N := 1) rfl ?_); refine box_event zz5 (N := 1) zz5 (cs := #[.slice A0_0 l0_0.length c0_0]) (t := 24) zz6 ?_; intro gb306 hg w7 hbox hb; have BK306 := am (hbox); have GW306 := am ((by rw [hg]; exact (below_size (bw HB.out)) : w.heap.size ≤ gb306)); have GE306 := am ((by rw [hg]; exact (below_size (bw HB.out)) : w.heap.size ≤ gb306)); replace HB := am (below_step (bw HB.out) hb); clear hb hbox hg; have hcz8_0 : w7.cell? ⟨gb306, 0, none⟩ = some (.slice A0_0 l0_0.length c0_0) := (blk_cell BK306.out 0).trans rfl; have hfz8_0 := blk_frozen BK306.out 0) | ((with_reducible refine gate_callee (f := 63) rfl ?_); refine goesL_ (some 7) rfl rfl Try.func63 (by kernel_rfl) rfl #[.agg #[.slice A0_0 l0_0.length c0_0]] rfl zz1 ?_; (with_reducible refine (auto_Valid.calls _ _ l0_0 true _ ?side1 ?side2 A2.out).mono ?_); (case side1 => exact kc (Kd.C_below HR0_0.out HB.out)); (case side2 => exact HC0_0.out); rintro e w9 ⟨rfl, hb⟩; refine ⟨_, rfl, ?_⟩; replace BK306 := am (blk_below (g := gb306) (o := .cells #[.slice A0_0 l0_0.length c0_0] 24 (0, 0)) (kb BK306.out) hb); replace HB := am (below_step (bs HB.out) hb); (try clear hb); (try clear hb2); (try clear hk); (try clear hi); have hcz10_0 : w9.cell? ⟨gb306, 0, none⟩ = some (.slice A0_0 l0_0.length c0_0) := (blk_cell BK306.out 0).trans rfl; have hfz10_0 := blk_frozen BK306.out 0) | ((with_reducible refine gate_callee (f := 86) rfl ?_); refine goesL_ (some 11) rfl rfl Try.func86 (by kernel_rfl) rfl #[.agg #[.slice A0_0 l0_0.length c0_0]] rfl zz1 ?_; (with_reducible refine (color_all.calls k _ _ l0_0 t308 _ ?side1 ?side2 A4.out).mono ?_); (case side1 => exact kc (Kd.C_below HR0_0.out HB.out)); (case side2 => exact HC0_0.out); rintro e w11 ⟨v309, rfl, ho0, hb⟩; refine ⟨_, rfl, ?_⟩; have HO310 := am (Kd.R_lower ho0 (below_size (bs HB.out))); replace BK306 := am (blk_below (g := gb306) (o := .cells #[.slice A0_0 l0_0.length c0_0] 24 (0, 0)) (kb BK306.out) hb); replace HB := am (below_step (bs HB.out) hb); (try clear hb); (try clear hb2); (try clear hk); (try clear hi); (try clear ho0); obtain ⟨Ao12, co12, eo12⟩ := Kd.R_slice HO310.out; subst eo12) | ((with_reducible refine gate_callee (f := 85) rfl ?_); refine goesL_ (some 12) rfl rfl Try.func85 (by kernel_rfl) rfl #[.slice Ao12 t308.length co12] rfl zz1 ?_; (with_reducible refine (color_count.calls k _ _ t308 t311 true _ ?side1 ?side2 A5.out).mono ?_); (case side1 => repeat (first | exact (Kd.R_reads' HO310.out).2.2 | (with_reducible refine Kd.C_alloc ?_ _) | (with_reducible refine Kd.C_drewN ?_ _) | (with_reducible refine Kd.C_drew ?_))); (case side2 => exact (Kd.R_reads' HO310.out).2.1); rintro e w' ⟨rfl, ⟨nd, rfl⟩⟩; refine ⟨_, rfl, ?_⟩))
  go_ret2
  exact ⟨by first | rfl | (simp [errW_none, errW_some] <;> rfl) | (simp [*, errW_none, errW_some] <;> rfl), bs HB.out⟩
 replace c6 := Bool.eq_false_iff.mpr c6
 subst c6
 have H1 : (some (0, 3)) = some (r1, r2) := by rw [if_neg (show ¬ (false = true) by decide)] at H; exact H
 clear H
 have H := H1
 clear H1
 simp only [Option.some.injEq, Prod.mk.injEq] at H
 obtain ⟨rfl, rfl⟩ := H
 go_enter Try.func47, Try.ntmps47
 go_wp2_with (first | ((with_reducible refine gate_dst (N := 1) rfl ?_); refine box_event zz5 (N := 1) zz5 (cs := #[.slice A0_0 l0_0.length c0_0]) (t := 24) zz6 ?_; intro gb306 hg w13 hbox hb; have BK306 := am (hbox); have GW306 := am ((by rw [hg]; exact (below_size (bw HB.out)) : w.heap.size ≤ gb306)); have GE306 := am ((by rw [hg]; exact (below_size (bw HB.out)) : w.heap.size ≤ gb306)); replace HB := am (below_step (bw HB.out) hb); clear hb hbox hg; have hcz14_0 : w13.cell? ⟨gb306, 0, none⟩ = some (.slice A0_0 l0_0.length c0_0) := (blk_cell BK306.out 0).trans rfl; have hfz14_0 := blk_frozen BK306.out 0) | ((with_reducible refine gate_callee (f := 63) rfl ?_); refine goesL_ (some 7) rfl rfl Try.func63 (by kernel_rfl) rfl #[.agg #[.slice A0_0 l0_0.length c0_0]] rfl zz1 ?_; (with_reducible refine (auto_Valid.calls _ _ l0_0 true _ ?side1 ?side2 A2.out).mono ?_); (case side1 => exact kc (Kd.C_below HR0_0.out HB.out)); (case side2 => exact HC0_0.out); rintro e w15 ⟨rfl, hb⟩; refine ⟨_, rfl, ?_⟩; replace BK306 := am (blk_below (g := gb306) (o := .cells #[.slice A0_0 l0_0.length c0_0] 24 (0, 0)) (kb BK306.out) hb); replace HB := am (below_step (bs HB.out) hb); (try clear hb); (try clear hb2); (try clear hk); (try clear hi); have hcz16_0 : w15.cell? ⟨gb306, 0, none⟩ = some (.slice A0_0 l0_0.length c0_0) := (blk_cell BK306.out 0).trans rfl; have hfz16_0 := blk_frozen BK306.out 0) | ((with_reducible refine gate_callee (f := 86) rfl ?_); refine goesL_ (some 11) rfl rfl Try.func86 (by kernel_rfl) rfl #[.agg #[.slice A0_0 l0_0.length c0_0]] rfl zz1 ?_; (with_reducible refine (color_all.calls k _ _ l0_0 t308 _ ?side1 ?side2 A4.out).mono ?_); (case side1 => exact kc (Kd.C_below HR0_0.out HB.out)); (case side2 => exact HC0_0.out); rintro e w17 ⟨v309, rfl, ho0, hb⟩; refine ⟨_, rfl, ?_⟩; have HO310 := am (Kd.R_lower ho0 (below_size (bs HB.out))); replace BK306 := am (blk_below (g := gb306) (o := .cells #[.slice A0_0 l0_0.length c0_0] 24 (0, 0)) (kb BK306.out) hb); replace HB := am (below_step (bs HB.out) hb); (try clear hb); (try clear hb2); (try clear hk); (try clear hi); (try clear ho0); obtain ⟨Ao18, co18, eo18⟩ := Kd.R_slice HO310.out; subst eo18) | ((with_reducible refine gate_callee (f := 85) rfl ?_); refine goesL_ (some 12) rfl rfl Try.func85 (by kernel_rfl) rfl #[.slice Ao18 t308.length co18] rfl zz1 ?_; (with_reducible refine (color_count.calls k _ _ t308 t311 false _ ?side1 ?side2 A5.out).mono ?_); (case side1 => repeat (first | exact (Kd.R_reads' HO310.out).2.2 | (with_reducible refine Kd.C_alloc ?_ _) | (with_reducible refine Kd.C_drewN ?_ _) | (with_reducible refine Kd.C_drew ?_))); (case side2 => exact (Kd.R_reads' HO310.out).2.1); rintro e w' ⟨rfl, ⟨nd, rfl⟩⟩; refine ⟨_, rfl, ?_⟩))
 go_ret2
 exact ⟨by first | rfl | (simp [errW_none, errW_some] <;> rfl) | (simp [*, errW_none, errW_some] <;> rfl), bs HB.out⟩
end Go.Proofs.Ytjgdalhdiohclaa.Q
end
section
namespace Go.Proofs.Ytjgdalhdiohclaa.Q
open Go.RowKit Go.Proofs.YtjgdalhdiohclaaW.PrintWords Go.Proofs.YtjgdalhdiohclaaW.PrintLast Go.Proofs.YtjgdalhdiohclaaW.PrintMore
def xss0 : Array Bool := #[true, false, false, false, false, false, false, false, false, false, false, false, false, false, false]
def xss1 : Array Bool := #[true, false, true, false, false, false, false, false, false, false, false, false, false, false, false]
def xss2 : Array Bool := #[true, false, true, true, false, false, false, false, false, false, false, false, false, false, false]
def xss3 : Array Bool := #[true, false, true, true, true, false, false, false, false, false, false, false, false, false, false]
def xss4 : Array Bool := #[true, false, true, true, true, true, false, false, false, false, false, false, false, false, false]
def xss5 : Array Bool := #[true, false, true, true, true, true, true, false, false, false, false, false, false, false, false]
def xss6 : Array Bool := #[true, false, true, true, true, true, true, true, false, false, false, false, false, false, false]
def xss7 : Array Bool := #[true, false, true, true, true, true, true, true, true, false, false, false, false, false, false]
def xss8 : Array Bool := #[true, false, true, true, true, true, true, true, true, true, false, false, false, false, false]
def xss9 : Array Bool := #[true, true, true, true, true, true, true, true, true, true, false, false, false, false, false]
def xss10 : Array Bool := #[true, true, true, true, true, true, true, true, true, true, true, false, false, false, false]
def xss11 : Array Bool := #[true, true, true, true, true, true, true, true, true, true, true, true, false, false, false]
def xss12 : Array Bool := #[true, true, true, true, true, true, true, true, true, true, true, true, true, false, false]
def xss13 : Array Bool := #[true, true, true, true, true, true, true, true, true, true, true, true, true, true, false]
def xss14 : Array Bool := #[true, true, true, true, true, true, true, true, true, true, true, true, true, true, true]
abbrev Orders := List (List (List Int))
def seedS (s : Int) : Int := IntKind.u64.wrap (IntKind.u64.wrap (s * 6364136223846793005) + 1442695040888963407)
def pickS (s : Int) (n : Nat) : Int := Int.tmod (s / 2 ^ 33) (IntKind.u64.wrap (n : Int))
mutual
def color_some.l0 : Nat → Orders → Int → Int → Int → List (List (List Int)) → Option (List (List (List Int)))
 | 0, _, _, _, _, _ => none
 | k + 1, orders, many, s, i, acc => if i < many then color_some.l1 k orders many s i 0 [] acc else some acc
def color_some.l1 : Nat → Orders → Int → Int → Int → Nat → List (List Int) → List (List (List Int)) → Option (List (List (List Int)))
 | 0, _, _, _, _, _, _, _ => none
 | k + 1, orders, many, s, i, j, a, acc => if j < orders.length then (if 0 < (rd_L2 orders (j : Int)).length ∧ (rd_L2 orders (j : Int)).length < 1000000000 then (if 0 ≤ pickS (seedS s) (rd_L2 orders (j : Int)).length then (if pickS (seedS s) (rd_L2 orders (j : Int)).length < ((rd_L2 orders (j : Int)).length : Int) then (if a.length < 1000000000 then color_some.l1 k orders many (seedS s) i (j + 1) (a ++ [rd_L1 (rd_L2 orders (j : Int)) (pickS (seedS s) (rd_L2 orders (j : Int)).length)]) acc else none) else none) else none) else none) else color_some.l0 k orders many s (wrap64 (i + 1)) (acc ++ [a])
end
def color_some.f (k : Nat) (orders : Orders) (many : Int) : Option (List (List (List Int))) := color_some.l0 k orders many 1 0 []
theorem color_some.mono_l : ∀ k, (∀ y0 y1 y2 y3 y4, LeO (color_some.l0 k y0 y1 y2 y3 y4) (color_some.l0 (k + 1) y0 y1 y2 y3 y4)) ∧ (∀ y0 y1 y2 y3 y4 y5 y6, LeO (color_some.l1 k y0 y1 y2 y3 y4 y5 y6) (color_some.l1 (k + 1) y0 y1 y2 y3 y4 y5 y6))
 | 0 => ⟨fun _ _ _ _ _ r h => by simp [color_some.l0] at h, fun _ _ _ _ _ _ _ r h => by simp [color_some.l1] at h⟩
 | k + 1 => by
  obtain ⟨ih0, ih1⟩ := color_some.mono_l k
  refine ⟨?_, ?_⟩
  ·intro y0 y1 y2 y3 y4
   unfold color_some.l0
   exact LeO.ite (ih1 _ _ _ _ _ _ _) (LeO.refl _)
  ·intro y0 y1 y2 y3 y4 y5 y6
   unfold color_some.l1
   exact LeO.ite (LeO.ite (LeO.ite (LeO.ite (LeO.ite (ih1 _ _ _ _ _ _ _) (LeO.refl _)) (LeO.refl _)) (LeO.refl _)) (LeO.refl _)) (ih0 _ _ _ _ _)
theorem color_some.mono (orders : Orders) (many : Int) (k : Nat) : LeO (color_some.f k orders many) (color_some.f (k + 1) orders many) := (color_some.mono_l k).1 _ _ _ _ _
theorem color_some.pre_l : ∀ k, (∀ o m s i acc R, color_some.l0 k o m s i acc = some R → ∃ r, R = acc ++ r) ∧ (∀ o m s i j a acc R, color_some.l1 k o m s i j a acc = some R → ∃ a' r, R = acc ++ (a ++ a') :: r)
 | 0 => ⟨fun _ _ _ _ _ _ h => by simp [color_some.l0] at h, fun _ _ _ _ _ _ _ _ h => by simp [color_some.l1] at h⟩
 | k + 1 => by
  obtain ⟨ih0, ih1⟩ := color_some.pre_l k
  refine ⟨?_, ?_⟩
  ·intro o m s i acc R h
   simp only [color_some.l0] at h
   split at h
   ·obtain ⟨a', r, e⟩ := ih1 _ _ _ _ _ _ _ _ h
    exact ⟨_, e⟩
   ·exact ⟨[], by simpa using h.symm⟩
  ·intro o m s i j a acc R h
   simp only [color_some.l1] at h
   split at h
   ·repeat' split at h
    all_goals first
     | (exfalso; revert h; simp; done)
     | (obtain ⟨a', r, e⟩ := ih1 _ _ _ _ _ _ _ _ h; exact ⟨_, r, by rw [e, List.append_assoc]⟩)
   ·obtain ⟨r, e⟩ := ih0 _ _ _ _ _ _ h
    exact ⟨[], r, by rw [e]; simp⟩
def EncA (own : Nat → Prop) (x : List (List Int)) (W : World) (vs : Array Value) : Prop := (∀ b, own b → b < W.heap.size) ∧ ∃ A c, vs = #[.agg #[.slice A x.length c]] ∧ x.length ≤ c ∧ Kd.C (Kd.slice 3 (Kd.int .i64)) W A x.length x
def kSl : Kd (Option Addr × Nat × Nat) := Kd.scalar (fun z : Option Addr × Nat × Nat => Value.slice z.1 z.2.1 z.2.2) (fun _ => rfl)
theorem C_rows {W : World} {A : Option Addr} {zs : List (Option Addr × Nat × Nat)} {a : List (List Int)} (h : Kd.C kSl W A zs.length zs) (hl : zs.length = a.length) (hz : ∀ (i : Nat) z r, zs[i]? = some z → a[i]? = some r → z.2.1 = r.length ∧ r.length ≤ z.2.2 ∧ Kd.C (Kd.int .i64) W z.1 r.length r) : Kd.C (Kd.slice 3 (Kd.int .i64)) W A a.length a := by
 obtain ⟨_, hm, hf⟩ := h
 refine ⟨rfl, by omega, fun h0 => ?_⟩
 obtain ⟨ad, e, hc⟩ := hf (by omega)
 refine ⟨ad, e, fun j p hj => ?_⟩
 have hj' : j < zs.length := by have := (List.getElem?_eq_some_iff.1 hj).1; omega
 obtain ⟨cs, h1, h2, h3⟩ := hc j zs[j] (List.getElem?_eq_getElem hj')
 obtain ⟨z1, z2, z3⟩ := hz j zs[j] p (List.getElem?_eq_getElem hj') hj
 have h2 : cs = [.slice zs[j].1 zs[j].2.1 zs[j].2.2] := h2
 subst h2
 refine ⟨[.slice zs[j].1 zs[j].2.1 zs[j].2.2], rfl, ⟨zs[j].1, zs[j].2.2, by rw [z1], z2, z3⟩, fun i u hu => h3 i u hu⟩
theorem cell_of_heap {w W : World} {a : Addr} (h : W.heap[a.block]? = w.heap[a.block]?) : W.cell? a = w.cell? a := by
 simp only [World.cell?, h]
theorem C_int_cells {w W : World} {A : Option Addr} {r : List Int} (hk : ∀ a x, w.cell? a = some x → W.cell? a = some x) (h : Kd.C (Kd.int .i64) w A r.length r) : Kd.C (Kd.int .i64) W A r.length r := by
 obtain ⟨h1, h2, h3⟩ := h
 refine ⟨h1, h2, fun h0 => ?_⟩
 obtain ⟨ad, e, hc⟩ := h3 h0
 refine ⟨ad, e, fun j p hj => ?_⟩
 obtain ⟨cs, g1, g2, g3⟩ := hc j p hj
 exact ⟨cs, g1, g2, fun i u hu => hk _ _ (g3 i u hu)⟩
structure SomeC (base : Nat) (Q : Nat → Prop) (w0 : World) (A0 : Option Addr) (n c0 : Nat) (many : Int) (Ob Mb : Nat) (W : World) : Prop where
 size : base ≤ W.heap.size
 keep : ∀ b, Q b → b < W.heap.size ∧ W.heap[b]? = w0.heap[b]?
 bO : W.heap[Ob]? = some (.cells #[.slice A0 n c0] 87 (0, 0))
 bM : W.heap[Mb]? = some (.cells #[.int .i64 many] 3 (0, 0))
section
variable {base : Nat} {Q : Nat → Prop} {w0 : World} {A0 : Option Addr} {n c0 : Nat} {many : Int} {Ob Mb : Nat} {W W1 : World}
theorem SomeC.cell (h : SomeC base Q w0 A0 n c0 many Ob Mb W) (hv : ∀ a x, w0.cell? a = some x → Q a.block) : ∀ a x, w0.cell? a = some x → W.cell? a = some x := fun a x hx => (cell_of_heap (h.keep _ (hv a x hx)).2).trans hx
theorem SomeC.next (h : SomeC base Q w0 A0 n c0 many Ob Mb W) (hb : Below W.heap.size W W1) : SomeC base Q w0 A0 n c0 many Ob Mb W1 := ⟨Nat.le_trans h.size hb.size, fun b hq => ⟨Nat.lt_of_lt_of_le (h.keep b hq).1 hb.size, (hb.block b (h.keep b hq).1).trans (h.keep b hq).2⟩, blk_below h.bO hb, blk_below h.bM hb⟩
theorem SomeC.round (h : SomeC base Q w0 A0 n c0 many Ob Mb W) (hO : Q Ob) (hM : Q Mb) (hk : RoundKept (fun b => b < base ∨ Q b) W W1) : SomeC base Q w0 A0 n c0 many Ob Mb W1 :=
 ⟨Nat.le_trans h.size hk.size, fun b hq => ⟨Nat.lt_of_lt_of_le (h.keep b hq).1 hk.size, (hk.block b (h.keep b hq).1 (Or.inr hq)).trans (h.keep b hq).2⟩, (hk.block _ (blk_lt h.bO) (Or.inr hO)).trans h.bO, (hk.block _ (blk_lt h.bM) (Or.inr hM)).trans h.bM⟩
theorem SomeC.grown (h : SomeC base Q w0 A0 n c0 many Ob Mb W) (hO : Q Ob) (hM : Q Mb) {row : Option Nat} (hg : W.grownBy W1 row) (hn : ∀ b, Q b → some b ≠ row) : SomeC base Q w0 A0 n c0 many Ob Mb W1 :=
 ⟨Nat.le_trans h.size hg.size, fun b hq => ⟨Nat.lt_of_lt_of_le (h.keep b hq).1 hg.size, (hg.block b (h.keep b hq).1 (hn b hq)).trans (h.keep b hq).2⟩, (hg.block _ (blk_lt h.bO) (hn _ hO)).trans h.bO, (hg.block _ (blk_lt h.bM) (hn _ hM)).trans h.bM⟩
theorem SomeC.set (h : SomeC base Q w0 A0 n c0 many Ob Mb W) (hO : Q Ob) (hM : Q Mb) {X : Nat} (hn : ∀ b, Q b → b ≠ X) (v : Value) : SomeC base Q w0 A0 n c0 many Ob Mb (W.setCell ⟨X, 0, none⟩ v) :=
 ⟨by simpa [World.setCell] using h.size, fun b hq => ⟨by simpa [World.setCell] using (h.keep b hq).1, (Below.heap_setCell W ⟨X, 0, none⟩ v b (hn b hq)).trans (h.keep b hq).2⟩, blk_far h.bO (hn _ hO) _, blk_far h.bM (hn _ hM) _⟩
end
structure SomeA (base : Nat) (w0 : World) (X : Nat) (W : World) (vA : Value) (a : List (List Int)) : Prop where
 bX : W.heap[X]? = some (.cells #[vA] 24 (0, 0))
 gX : base ≤ X
 rows : ∃ zs, Kd.R kSl 28 W X (fun _ => True) vA zs ∧ zs.length = a.length ∧ ∀ (i : Nat) z r, zs[i]? = some z → a[i]? = some r → z.2.1 = r.length ∧ r.length ≤ z.2.2 ∧ Kd.C (Kd.int .i64) w0 z.1 r.length r
section
variable {base : Nat} {w0 : World} {X : Nat} {W W1 : World} {vA : Value} {a : List (List Int)}
theorem SomeA.next (h : SomeA base w0 X W vA a) (hb : Below W.heap.size W W1) : SomeA base w0 X W1 vA a := by
 obtain ⟨zs, h1, h2, h3⟩ := h.rows
 exact ⟨blk_below h.bX hb, h.gX, zs, Kd.R_below h1 hb, h2, h3⟩
theorem SomeA.enc (h : SomeA base w0 X W vA a) (hb : ∀ a x, w0.cell? a = some x → W.cell? a = some x) (own : Nat → Prop) (ho : ∀ b, own b → b < W.heap.size) : EncA own a W #[.agg #[vA]] := by
 obtain ⟨zs, h1, h2, h3⟩ := h.rows
 obtain ⟨A, c, e⟩ := Kd.R_slice h1
 subst e
 obtain ⟨_, hc, hC⟩ := Kd.R_reads' h1
 exact ⟨ho, A, c, by rw [h2], by omega, C_rows hC h2 fun i z r hz hr => by
  obtain ⟨g1, g2, g3⟩ := h3 i z r hz hr
  exact ⟨g1, g2, C_int_cells hb g3⟩⟩
end
def color_some.T8 : Bool × List (List Nat × List Nat) := (true, [([], []), ([0], [0]), ([], []), ([], []), ([3], [3]), ([], []), ([5], [5]), ([6], [6]), ([4, 7], [4, 7]), ([2, 8], [2, 8]), ([9], [9]), ([10], [10]), ([1, 11], [1, 11]), ([0, 1, 2, 3, 4, 5, 6, 7, 8, 9, 10, 11, 12], []), ([13, 12, 12, 0, 1, 2, 3, 4, 5, 6, 7, 8, 9, 10, 11, 12], [12, 13])])
def color_some.B8 : List Nat := [0, 1, 0, 0, 8, 0, 32, 96, 248, 508, 1020, 2044, 4095, 8191, 16383]
theorem color_some.tab8 : rtab .any (opsOf Try.f109 8) = color_some.T8 := by kernel_rfl
theorem color_some.bits8 : waitsOk color_some.T8.2 color_some.B8 = true := by kernel_rfl
theorem color_some.seq (k : Nat) (A0 : Option Addr) (c0 : Nat) (orders : Orders) (many : Int) (L : List (List (List Int))) (Ob Mb : Nat) (base : Nat) (Q : Nat → Prop) (w0 : World) (hO : Q Ob) (hM : Q Mb) (hv : ∀ a x, w0.cell? a = some x → Q a.block) (hR : Kd.C (Kd.slice 28 (Kd.slice 3 (Kd.int .i64))) w0 A0 orders.length orders) (hc : orders.length ≤ c0) (h : color_some.f k orders many = some L) :
  SeqR Try.prog base Q 109 #[.pointer (some ⟨Mb, 0, none⟩), .pointer (some ⟨Ob, 0, none⟩)] EncA L Q (SomeC base Q w0 A0 orders.length c0 many Ob Mb) := by
 intro l J Jx W hSt hown hbase hsJ hsJx hY h0
 have H' : Aside0 (color_some.l0 k orders many 1 0 [] = some L) := ⟨h⟩
 have HS := am hSt
 have HR := am hR
 have HC := am hc
 have HOw := am hown
 have HsJ := am hsJ
 have HY := am hY
 have HJ := am h0
 have HQO := am hO
 have HQM := am hM
 have HV := am hv
 have hcM : W.cell? ⟨Mb, 0, none⟩ = some (.int .i64 many) := (blk_cell hSt.bM 0).trans rfl
 clear hR hc h hSt hO hM hv hown hbase hsJ hsJx hY h0
 have e1 : (#[Value.func (.yield l) #[] #[]] ++ #[Value.pointer (some ⟨Mb, 0, none⟩), Value.pointer (some ⟨Ob, 0, none⟩)] : Array Value) = #[.func (.yield l) #[] #[], .pointer (some ⟨Mb, 0, none⟩), .pointer (some ⟨Ob, 0, none⟩)] := rfl
 rw [e1]
 clear e1
 go_enter Try.func109, Try.ntmps109
 go_wp2_with fail
 go_loopg [4, 9] k (fun kq v4 v9 w' => ∃ (s i : Int) (acc : List (List (List Int))), v4 = .int .u64 s ∧ v9 = .int .i64 i ∧ Aside0 (color_some.l0 kq orders many s i acc = some L) ∧ Aside0 (kq ≤ k) ∧ Aside0 (SomeC base Q w0 A0 orders.length c0 many Ob Mb w') ∧ Aside0 (J (fun b => Q b) acc w'))
 case atStart => exact ⟨1, 0, [], rfl, rfl, H', ⟨Nat.le_refl _⟩, HS, HJ⟩
 case round =>
  clear H' HS HJ hcM
  obtain ⟨s, i, acc, rfl, rfl, HA, HK, HS, HJ⟩ := hrel
  cases gk with
  | zero => exact absurd HA.out (by simp [color_some.l0])
  | succ k1 =>
   have H := HA.out
   clear HA
   simp only [color_some.l0] at H
   by_cases d1 : i < many
   ·rw [if_pos d1] at H
    have H' := am H
    have q1 := eq_true d1
    have hcO : wr.cell? ⟨Ob, 0, none⟩ = some (.slice A0 orders.length c0) := (blk_cell HS.out.bO 0).trans rfl
    have hcO1 : (wr.alloc (.cells #[.slice none 0 0] 24)).cell? ⟨Ob, 0, none⟩ = some (.slice A0 orders.length c0) := pw_cell_below (ba (Below.refl _ _) _) hcO
    clear H d1 hcO
    go_wp2_with fail
    have hb := ba (Below.refl _ wr) (.cells #[.slice none 0 0] 24)
    have HS1 := am (HS.out.next hb)
    have HA1 : Aside0 (SomeA base w0 wr.heap.size (wr.alloc (.cells #[.slice none 0 0] 24)) (.slice none 0 0) []) := ⟨⟨blk_new _ _, HS.out.size, [], Kd.R_nil _ _ _ _ _, rfl, fun i z r hz => by simp at hz⟩⟩
    have HJ1 : Aside0 (J (fun b => Q b ∨ wr.heap.size ≤ b) acc (wr.alloc (.cells #[.slice none 0 0] 24))) := ⟨HsJ.out _ _ _ _ _ HJ.out (KeptBut.of_below hb) (Roed.below hb) (fun b hb => (HOw.out b hb).2) fun b hb => hb⟩
    have HX0 := am HS.out.size
    have HQX : Aside0 (∀ b, Q b → b < wr.heap.size) := ⟨fun b hb => (HS.out.keep b hb).1⟩
    clear HS HJ hb hcO1
    generalize wr.heap.size = X at HA1 HJ1 HX0 HQX ⊢
    generalize wr.alloc (.cells #[.slice none 0 0] 24) = wa at HS1 HA1 HJ1 ⊢
    have HB1 := am (show ∀ b, (Q b ∨ X ≤ b) → base ≤ b from fun b hb => hb.elim (fun h => (HOw.out b h).2) fun h => Nat.le_trans HX0.out h)
    go_loopg [4, 13] k1 (fun kq v4 v13 w' => ∃ (s : Int) (j : Nat) (a : List (List Int)) (vA : Value), v4 = .int .u64 s ∧ v13 = .int .i64 (j : Int) ∧ Aside0 (color_some.l1 kq orders many s i j a acc = some L) ∧ Aside0 (kq ≤ k1) ∧ Aside0 (SomeC base Q w0 A0 orders.length c0 many Ob Mb w') ∧ Aside0 (SomeA base w0 X w' vA a) ∧ Aside0 (J (fun b => Q b ∨ X ≤ b) acc w'))
    case atStart => exact ⟨s, 0, [], _, rfl, rfl, H', ⟨Nat.le_refl _⟩, HS1, HA1, HJ1⟩
    case round =>
     clear H' HS1 HA1 HJ1 s
     obtain ⟨s, j, a, vA, rfl, rfl, HA, HK2, HS, HAA, HJ⟩ := hrel
     cases gk with
     | zero => exact absurd HA.out (by simp [color_some.l1])
     | succ k2 =>
      have H := HA.out
      clear HA
      simp only [color_some.l1] at H
      by_cases d2 : j < orders.length
      ·rw [if_pos d2] at H
       have d2b : decide ((j : Int) < (orders.length : Int)) = true := decide_eq_true (by omega)
       have d2c : decide (j < orders.length) = true := decide_eq_true d2
       have r1 : (j : Int) < (orders.length : Int) := by omega
       obtain ⟨ad, Al, cl, e2, hx, hl, hi⟩ := at_L2 HR.out (j : Int) (Int.natCast_nonneg _) r1
       subst e2
       rw [Int.toNat_natCast] at hx
       replace hx := HS.out.cell HV.out _ _ hx
       have HLC := am hl
       have HLR := am hi
       have q2 := eq_true (Int.natCast_nonneg j)
       have q3 := eq_true r1
       clear hl hi
       generalize hll : rd_L2 orders (j : Int) = row at H hx HLC HLR
       have HLL := am hll
       clear hll
       by_cases d3 : 0 < row.length ∧ row.length < 1000000000
       ·rw [if_pos d3] at H
        generalize hss : seedS s = s2 at H
        generalize hpp : pickS s2 row.length = z at H
        by_cases d4 : 0 ≤ z
        ·rw [if_pos d4] at H
         by_cases d5 : z < (row.length : Int)
         ·rw [if_pos d5] at H
          by_cases d6 : a.length < 1000000000
          ·rw [if_pos d6] at H
           have H' := am H
           obtain ⟨ad2, Ar, cr, e3, hy, hl2, hi2⟩ := at_L1 HLR.out z d4 d5
           subst e3
           have HYc := am hy
           replace hy := HS.out.cell HV.out _ _ hy
           unfold seedS at hss
           unfold pickS at hpp
           rw [show (2 : Int) ^ 33 = 8589934592 from rfl] at hpp
           have hne : (IntKind.u64.wrap (row.length : Int) = 0) = False := eq_false (by rw [IntKind.wrap_u64]; omega)
           have q4 := eq_true d4
           have q5 := eq_true d5
           have D6 := am d6
           have D2 := am d2
           have DM := am (Kd.C_max HR.out)
           have HL2 := am hl2
           have HI2 := am hi2
           clear H d2 d4 d5 d6 hl2 hi2 d3
           go_wp2_with fail
           have HSd := am (HS.out.next (below_drew (Below.refl _ wr)))
           have HAd := am (HAA.out.next (below_drew (Below.refl _ wr)))
           have HJd : Aside0 (J (fun b => Q b ∨ X ≤ b) acc wr.drew) := ⟨HsJ.out _ _ _ _ _ HJ.out (KeptBut.of_below (below_drew (Below.refl _ wr))) (Roed.below (below_drew (Below.refl _ wr))) HB1.out fun b hb => Or.inl hb⟩
           have hS_ : wr.drew.cell? ⟨X, 0, none⟩ = some vA ∧ wr.drew.cell? (ad2.add z.toNat) = some (.slice Ar (rd_L1 row z).length cr) := ⟨(blk_cell HAd.out.bX 0).trans rfl, hy⟩
           refine start_ (n := 15) (S := fun w' => w'.cell? ⟨X, 0, none⟩ = some vA ∧ w'.cell? (ad2.add z.toNat) = some (.slice Ar (rd_L1 row z).length cr)) (ds := [14]) #[false, false, false, false, false, false, false, false, false, false, false, false, false, false, false] (by kernel_rfl) rfl rfl hS_ (fun hHeld => ?_); refine with_tabW color_some.tab8 color_some.bits8 (fun HT_ HW_ => ?_)
           clear hS_ hx hy HS HAA HJ
           generalize wr.drew = wd at HSd HAd HJd hHeld ⊢
           refine pv_ 0 20 xss0 HT_ ?_
           refine pv_ 2 22 xss1 HT_ ?_
           refine pv_ 3 23 xss2 HT_ ?_
           refine pv_ 4 24 xss3 HT_ ?_
           refine pv_ 5 25 xss4 HT_ ?_
           refine pv_ 6 26 xss5 HT_ ?_
           refine pv_ 7 27 xss6 HT_ ?_
           refine pv_ 8 28 xss7 HT_ ?_
           refine pv_ 9 29 xss8 HT_ ?_
           refine tv_ 1 21 xss9 HT_ HW_ hHeld ?_
           refine tv_ 10 30 xss10 HT_ HW_ hHeld ?_
           refine one_ (i := 11) (N := some 31) xss11 rfl rfl (one_of HT_.out (by kernel_rfl)) (by decide) (fun K hK => ?_)
           refine value_ (v := .slice (some ⟨wd.heap.size, 0, none⟩) 1 1) (w1 := wd.alloc (.cells #[.slice Ar (rd_L1 row z).length cr] 28)) (by rfl) rfl (by first | (go_simp; done) | (go_simp; rfl)) ?_
           have hb_ := ba (Below.refl _ wd) (.cells #[.slice Ar (rd_L1 row z).length cr] 28)
           have HLb := am (blk_new wd (.cells #[.slice Ar (rd_L1 row z).length cr] 28))
           have HSd := am (HSd.out.next hb_)
           have HAd := am (HAd.out.next hb_)
           have HJd : Aside0 (J (fun b => Q b ∨ X ≤ b) acc (wd.alloc (.cells #[.slice Ar (rd_L1 row z).length cr] 28))) := ⟨HsJ.out _ _ _ _ _ HJd.out (KeptBut.of_below hb_) (Roed.below hb_) HB1.out fun b hb => Or.inl hb⟩
           refine hK.out _ _ ⟨(blk_cell HAd.out.bX 0).trans rfl, (pw_cell_below hb_ hHeld.2)⟩ (fun hHeld => ?_)
           clear hK K hb_
           generalize wd.heap.size = b2 at HLb ⊢
           generalize wd.alloc (.cells #[.slice Ar (rd_L1 row z).length cr] 28) = wl at HLb HSd HAd HJd hHeld ⊢
           refine nm_ 31 ?_
           refine one_ (i := 12) (N := some 32) xss12 rfl rfl (one_of HT_.out (by kernel_rfl)) (by decide) (fun K hK => ?_)
           obtain ⟨zs, hz1, hz2, hz3⟩ := HAd.out.rows
           obtain ⟨vm, wm, hrm, hRm, hgm, hatm⟩ := append_runR (P := Try.prog) kSl X 22 28 22 (.slice none 0 0) 24 Try.underlying22 infoInts rfl (by decide) (by decide) vA zs (Ar, (rd_L1 row z).length, cr) [.slice Ar (rd_L1 row z).length cr] (fun _ => True) (fun _ => False) ⟨b2, 0, none⟩ 1 hz1 rfl (fun _ h => h.elim) (fun _ _ => trivial) (lit_cellsR HLb.out) (Nat.le_of_lt (blk_lt HAd.out.bX)) (by rw [hz2]; have := D6.out; omega)
           obtain ⟨Am, cm, em⟩ := Kd.R_slice hRm
           rw [show (zs ++ [(Ar, (rd_L1 row z).length, cr)]).length = zs.length + 1 by simp] at em
           subst em
           refine value_ (v := .slice Am (zs.length + 1) cm) (w1 := wm) (by rfl) rfl (run_append_opR rfl (by rfl) (by rfl) hrm) ?_
           have HSm : Aside0 (SomeC base Q w0 (some ad) orders.length c0 many Ob Mb wm) := ⟨HSd.out.grown HQO.out HQM.out hgm fun b hb e => by have h1 := Kd.R_base hz1 b e.symm; have h2 := HQX.out b hb; omega⟩
           have HXm := am (blk_grown HAd.out.bX hgm (Kd.R_ne hz1 HAd.out.bX (by decide)))
           have HJm : Aside0 (J (fun b => Q b ∨ X ≤ b) acc wm) := ⟨HsJ.out _ _ _ _ _ HJd.out (KeptBut.of_grown hgm fun k hk => Or.inr (Kd.R_base hz1 k hk)) (fun b hb hlt => hgm.block b hlt fun e => by have h1 := Kd.R_base hz1 b e.symm; have h2 := HQX.out b hb; omega) HB1.out fun b hb => Or.inl hb⟩
           have HRm := am hRm
           have HGX := am HAd.out.gX
           have HZm := am (show (zs ++ [(Ar, (rd_L1 row z).length, cr)]).length = (a ++ [rd_L1 row z]).length ∧ ∀ (i : Nat) y r, (zs ++ [(Ar, (rd_L1 row z).length, cr)])[i]? = some y → (a ++ [rd_L1 row z])[i]? = some r → y.2.1 = r.length ∧ r.length ≤ y.2.2 ∧ Kd.C (Kd.int .i64) w0 y.1 r.length r from by
            refine ⟨by simp [hz2], fun i y r hy hr => ?_⟩
            by_cases hi : i < zs.length
            ·rw [List.getElem?_append_left hi] at hy
             rw [List.getElem?_append_left (by omega)] at hr
             exact hz3 i y r hy hr
            ·have hi2 : i = zs.length := by
              have := (List.getElem?_eq_some_iff.1 hy).1
              simp at this
              omega
             subst hi2
             simp at hy
             rw [hz2] at hr
             simp at hr
             subst hy; subst hr
             exact ⟨rfl, HL2.out, HI2.out⟩)
           have hcX : wm.cell? ⟨X, 0, none⟩ = some vA := (blk_cell HXm.out 0).trans rfl
           have hfX : wm.frozen? ⟨X, 0, none⟩ = false := blk_frozen HXm.out 0
           have hcR : wm.cell? (ad2.add z.toNat) = some (.slice Ar (rd_L1 row z).length cr) := HSm.out.cell HV.out _ _ HYc.out
           clear hrm hRm hgm hatm hz1 hz2 hz3 HAd HSd HJd HLb
           refine hK.out _ _ ⟨hcX, hcR⟩ (fun hHeld => ?_)
           clear hK K
           refine nm_ 32 ?_
           refine pv_ 13 33 xss13 HT_ ?_
           refine last_ (i := 14) (N := none) xss14 rfl rfl (one_of HT_.out (by kernel_rfl)) (by decide) (fun K hK => ?_)
           refine skip_ (w1 := ?_) (by rfl) rfl ?_ ?_
           rotate_left
           ·go_simp
            rfl
           refine hK.out _ _ ?_
           clear hK K
           refine done_ (done_of HT_.out (by kernel_rfl)) ?_
           clear HT_ HW_
           have HSf : Aside0 (SomeC base Q w0 (some ad) orders.length c0 many Ob Mb (wm.setCell ⟨X, 0, none⟩ (.slice Am (zs.length + 1) cm))) := ⟨HSm.out.set HQO.out HQM.out (fun b hb => Nat.ne_of_lt (HQX.out b hb)) _⟩
           have HAf : Aside0 (SomeA base w0 X (wm.setCell ⟨X, 0, none⟩ (.slice Am (zs.length + 1) cm)) (.slice Am (zs.length + 1) cm) (a ++ [rd_L1 row z])) := ⟨⟨blk_put (cs := #[vA]) HXm.out 0 _ rfl, HGX.out, _, Kd.R_mono (Kd.R_far (p := ⟨X, 0, none⟩) (Kd.R_types HRm.out HXm.out (by decide)) (fun _ hk => hk.2) _) (fun _ _ => trivial), HZm.out.1, HZm.out.2⟩⟩
           have HJf : Aside0 (J (fun b => Q b ∨ X ≤ b) acc (wm.setCell ⟨X, 0, none⟩ (.slice Am (zs.length + 1) cm))) := ⟨HsJ.out _ _ _ _ _ HJm.out ⟨rfl, rfl, rfl, Nat.le_of_eq (by simp [World.setCell]), fun b hb hn => Below.heap_setCell wm ⟨X, 0, none⟩ _ b fun e => hn (Or.inr (Nat.le_of_eq e.symm))⟩ (fun b hb _ => Below.heap_setCell wm ⟨X, 0, none⟩ _ b fun e => by have e' : b = X := e; have h2 := HQX.out b hb; omega) HB1.out fun b hb => Or.inl hb⟩
           clear HSm HXm HJm HRm HZm hcX hfX hcR
           have wj : wrap64 ((j : Int) + 1) = ((j + 1 : Nat) : Int) := by
            have g1 := D2.out
            have g2 := DM.out
            unfold wrap64
            omega
           clear D2 DM
           go_wp2_with fail
           go_roundg k2
           case measure => omega
           case rel => exact ⟨s2, j + 1, _, _, rfl, by first | rfl | rw [wj], H', ⟨by have := HK2.out; omega⟩, HSf, HAf, HJf⟩
          ·rw [if_neg d6] at H; exact absurd H (by simp)
         ·rw [if_neg d5] at H; exact absurd H (by simp)
        ·rw [if_neg d4] at H; exact absurd H (by simp)
       ·rw [if_neg d3] at H; exact absurd H (by simp)
      ·rw [if_neg d2] at H
       have H' := am H
       have d2b : decide ((j : Int) < (orders.length : Int)) = false := decide_eq_false (by omega)
       have d2c : decide (j < orders.length) = false := decide_eq_false d2
       obtain ⟨rest, hrest⟩ := (color_some.pre_l k2).1 _ _ _ _ _ _ H
       have hcX : wr.cell? ⟨X, 0, none⟩ = some vA := (blk_cell HAA.out.bX 0).trans rfl
       have HJq : J (fun b => Q b) acc wr := HsJ.out _ _ _ _ _ HJ.out (KeptBut.refl _ _) (Roed.refl _ _) HB1.out (fun b hb => Or.inl (Or.inl hb))
       obtain ⟨fn, tmps, assign, body, hy, hrnd⟩ := HY.out (fun b => Q b) acc a #[.agg #[vA]] wr HJq ⟨rest, by rw [hrest]; simp⟩ (HAA.out.enc (HS.out.cell HV.out) _ (fun b hb => (HS.out.keep b hb).1)) (fun b hb => hb)
       have HRN := am hrnd
       clear hrnd H d2 hrest
       go_upto_region 10 with (fail)
       go_cut [9, 38] from 9 to 39 (fun v9 v38 wc => ∃ bq : Bool, v9 = .int .i64 i ∧ v38 = .bool (!bq) ∧ Aside0 ((bq = true ∧ SomeC base Q w0 A0 orders.length c0 many Ob Mb wc ∧ J (fun b => Q b) (acc ++ [a]) wc) ∨ (bq = false ∧ Jx (fun b => Q b) (acc ++ [a]) wc)))
       case first =>
        refine (wpIn_wide (n := 0)).1 ?_
        gi_wp2_with (refine ⟨rfl, HRN.out.mono ?_⟩; intro e w3 hE;  obtain ⟨bq, rfl, hD⟩ : ∃ bq : Bool, e = .returned (.bool bq) ∧ ((bq = true ∧ J (fun b => Q b) (acc ++ [a]) w3 ∧ RoundKept (fun b => b < base ∨ Q b) wr w3) ∨ (bq = false ∧ Jx (fun b => Q b) (acc ++ [a]) w3)) := (by rcases hE with ⟨h1, h2, h3⟩ | ⟨h1, h2⟩; exact ⟨true, h1, Or.inl ⟨rfl, h2, h3⟩⟩; exact ⟨false, h1, Or.inr ⟨rfl, h2⟩⟩); clear hE)
        have HD : Aside0 ((bq = true ∧ SomeC base Q w0 A0 orders.length c0 many Ob Mb w3 ∧ J (fun b => Q b) (acc ++ [a]) w3) ∨ (bq = false ∧ Jx (fun b => Q b) (acc ++ [a]) w3)) := ⟨hD.imp (fun h => ⟨h.1, HS.out.round HQO.out HQM.out h.2.2, h.2.1⟩) (fun h => ⟨h.1, h.2⟩)⟩
        clear hD
        go_meet
        case rel => exact ⟨bq, rfl, rfl, HD⟩
       case rest =>
        obtain ⟨bq, rfl, rfl, HD⟩ := hcut
        clear HS HAA HJ hcX hy HRN
        rcases HD.out with ⟨rfl, hS3, hJ3⟩ | ⟨rfl, hx3⟩
        rotate_left
        ·have HX3 := am hx3
         clear hx3 HD
         simp only [Bool.not_false]
         go_wp2_with fail
         (try simp only [Exit.inBlock, Exit.then])
         refine bodyPost_ret (results_none rfl _ _ _) rfl ⟨⟨_, rfl⟩, Or.inr ⟨_, _, fun b hb => (HOw.out b hb).2, HX3.out⟩⟩
        have HS3 := am hS3
        have HJ3 : Aside0 (J (fun b => Q b) (acc ++ [a]) wc) := ⟨hJ3⟩
        clear hS3 hJ3 HD
        simp only [Bool.not_true]
        go_wp2_with fail
        go_roundg k2
        case measure => have := HK2.out; omega
        case rel => exact ⟨s, _, _, rfl, rfl, H', ⟨by have := HK.out; have := HK2.out; omega⟩, HS3, HJ3⟩
   ·rw [if_neg d1] at H
    obtain rfl := Option.some.inj H
    have d1b := decide_eq_false d1
    clear H d1
    go_wp2_with fail
    first | go_end0 | refine bodyPost_ret (results_none rfl _ _ _) rfl ?_ | refine bodyPost_end (results_none rfl _ _ _) rfl ?_
    exact ⟨⟨_, rfl⟩, Or.inl ⟨_, fun b hb => (HOw.out b hb).2, HJ.out⟩⟩
end Go.Proofs.Ytjgdalhdiohclaa.Q
end
section
namespace Go.Proofs.Ytjgdalhdiohclaa.Q
open Go.RowKit Go.Proofs.YtjgdalhdiohclaaW.PrintWords Go.Proofs.YtjgdalhdiohclaaW.PrintLast Go.Proofs.YtjgdalhdiohclaaW.PrintMore
def everyS : Orders → List (List Int) → List (List (List Int))
 | [], pre => [pre]
 | o :: os, pre => o.flatMap fun row => everyS os (pre ++ [row])
def color_every.f (orders : Orders) : Option (List (List (List Int))) := if 0 < orders.length ∧ orders.length < 1000000000 then some (everyS orders []) else none
abbrev Sl3 := Option Addr × Nat × Nat
def slV (z : Sl3) : Value := .slice z.1 z.2.1 z.2.2
def caE (Ob Yb Ab Fb : Nat) : Array Value := #[.pointer (some ⟨Ob, 0, none⟩), .pointer (some ⟨Yb, 0, none⟩), .pointer (some ⟨Ab, 0, none⟩), .pointer (some ⟨Fb, 0, none⟩)]
def ownE (Q : Nat → Prop) (Yb Ab Nb Fb : Nat) : Nat → Prop := fun b => Q b ∨ b = Yb ∨ b = Ab ∨ b = Nb ∨ b = Fb
theorem grown_setV (W : World) (b o : Nat) (v : Value) : W.grownBy (W.setCell ⟨b, o, none⟩ v) (some b) :=
 ⟨rfl, rfl, rfl, by simp [World.setCell], fun k _ hk => Below.heap_setCell _ _ _ k (fun e => hk (by rw [e]))⟩
theorem ne_typeV {W : World} {a b : Nat} {cs cs' : Array Value} {t t' : TypeId} (h : W.heap[a]? = some (.cells cs t (0, 0))) (h' : W.heap[b]? = some (.cells cs' t' (0, 0))) (ht : t ≠ t') : a ≠ b := by
 intro e; subst e; rw [h] at h'; cases h'; exact ht rfl
structure EvS (l : Nat) (Q : Nat → Prop) (w0 : World) (A0 : Option Addr) (n c0 : Nat) (Ob Yb Ab Nb Fb : Nat) (W : World) (zs : List Sl3) : Prop where
 keep : ∀ b, Q b → b < W.heap.size ∧ W.heap[b]? = w0.heap[b]?
 qO : Q Ob
 nQ : ∀ b, Q b → b < Yb ∧ b < Ab ∧ b < Nb ∧ b < Fb
 bO : W.heap[Ob]? = some (.cells #[.slice A0 n c0] 87 (0, 0))
 bY : W.heap[Yb]? = some (.cells #[.func (.yield l) #[] #[]] 31 (0, 0))
 bA : W.heap[Ab]? = some (.cells #[.slice (some ⟨Nb, 0, none⟩) n n] 24 (0, 0))
 bN : W.heap[Nb]? = some (.cells (zs.map slV).toArray 28 (0, 0))
 lN : zs.length = n
 bF : W.heap[Fb]? = some (.cells #[.func (.func 111) #[] (caE Ob Yb Ab Fb)] 110 (0, 0))
section
variable {l : Nat} {Q : Nat → Prop} {w0 : World} {A0 : Option Addr} {n c0 : Nat} {Ob Yb Ab Nb Fb : Nat} {W W1 : World} {zs : List Sl3}
theorem EvS.lt (h : EvS l Q w0 A0 n c0 Ob Yb Ab Nb Fb W zs) : ∀ b, ownE Q Yb Ab Nb Fb b → b < W.heap.size := by
 rintro b (hq | rfl | rfl | rfl | rfl)
 ·exact (h.keep b hq).1
 ·exact blk_lt h.bY
 ·exact blk_lt h.bA
 ·exact blk_lt h.bN
 ·exact blk_lt h.bF
theorem EvS.hold (h : EvS l Q w0 A0 n c0 Ob Yb Ab Nb Fb W zs) (hs : W.heap.size ≤ W1.heap.size) (hk : ∀ b, b < W.heap.size → ownE Q Yb Ab Nb Fb b → W1.heap[b]? = W.heap[b]?) : EvS l Q w0 A0 n c0 Ob Yb Ab Nb Fb W1 zs :=
 ⟨fun b hq => ⟨Nat.lt_of_lt_of_le (h.keep b hq).1 hs, (hk b (h.keep b hq).1 (Or.inl hq)).trans (h.keep b hq).2⟩, h.qO, h.nQ, (hk _ (blk_lt h.bO) (Or.inl h.qO)).trans h.bO, (hk _ (blk_lt h.bY) (Or.inr (Or.inl rfl))).trans h.bY, (hk _ (blk_lt h.bA) (Or.inr (Or.inr (Or.inl rfl)))).trans h.bA,
  (hk _ (blk_lt h.bN) (Or.inr (Or.inr (Or.inr (Or.inl rfl))))).trans h.bN, h.lN, (hk _ (blk_lt h.bF) (Or.inr (Or.inr (Or.inr (Or.inr rfl))))).trans h.bF⟩
theorem EvS.round {base : Nat} (h : EvS l Q w0 A0 n c0 Ob Yb Ab Nb Fb W zs) (hk : RoundKept (fun b => b < base ∨ ownE Q Yb Ab Nb Fb b) W W1) : EvS l Q w0 A0 n c0 Ob Yb Ab Nb Fb W1 zs := h.hold hk.size fun b hb ho => hk.block b hb (Or.inr ho)
theorem EvS.cell (h : EvS l Q w0 A0 n c0 Ob Yb Ab Nb Fb W zs) (hv : ∀ a x, w0.cell? a = some x → Q a.block) : ∀ a x, w0.cell? a = some x → W.cell? a = some x := fun a x hx => (cell_of_heap (h.keep _ (hv a x hx)).2).trans hx
theorem EvS.cO (h : EvS l Q w0 A0 n c0 Ob Yb Ab Nb Fb W zs) : W.cell? ⟨Ob, 0, none⟩ = some (.slice A0 n c0) := (blk_cell h.bO 0).trans rfl
theorem EvS.cY (h : EvS l Q w0 A0 n c0 Ob Yb Ab Nb Fb W zs) : W.cell? ⟨Yb, 0, none⟩ = some (.func (.yield l) #[] #[]) := (blk_cell h.bY 0).trans rfl
theorem EvS.cA (h : EvS l Q w0 A0 n c0 Ob Yb Ab Nb Fb W zs) : W.cell? ⟨Ab, 0, none⟩ = some (.slice (some ⟨Nb, 0, none⟩) n n) := (blk_cell h.bA 0).trans rfl
theorem EvS.cF (h : EvS l Q w0 A0 n c0 Ob Yb Ab Nb Fb W zs) : W.cell? ⟨Fb, 0, none⟩ = some (.func (.func 111) #[] (caE Ob Yb Ab Fb)) := (blk_cell h.bF 0).trans rfl
theorem EvS.cN (h : EvS l Q w0 A0 n c0 Ob Yb Ab Nb Fb W zs) (i : Nat) (hi : i < zs.length) : W.cell? ⟨Nb, i, none⟩ = some (slV zs[i]) := by
 refine (blk_cell h.bN i).trans ?_
 rw [List.getElem?_toArray, List.getElem?_map, List.getElem?_eq_getElem hi]; rfl
theorem EvS.set (h : EvS l Q w0 A0 n c0 Ob Yb Ab Nb Fb W zs) (i : Nat) (z : Sl3) : EvS l Q w0 A0 n c0 Ob Yb Ab Nb Fb (W.setCell ⟨Nb, i, none⟩ (slV z)) (zs.set i z) ∧ KeptBut (ownE Q Yb Ab Nb Fb) W (W.setCell ⟨Nb, i, none⟩ (slV z)) := by
 have hg := grown_setV W Nb i (slV z)
 have ne : ∀ {x : Nat} {cs : Array Value} {t : TypeId}, W.heap[x]? = some (.cells cs t (0, 0)) → t ≠ 28 → some x ≠ some Nb := fun hx ht e => ne_typeV hx h.bN ht (Option.some.inj e)
 have nq : ∀ b, Q b → some b ≠ some Nb := fun b hq e => by have := h.nQ b hq; cases e; omega
 refine ⟨⟨fun b hq => ⟨Nat.lt_of_lt_of_le (h.keep b hq).1 hg.size, (hg.block b (h.keep b hq).1 (nq b hq)).trans (h.keep b hq).2⟩, h.qO, h.nQ, blk_grown h.bO hg (nq _ h.qO), blk_grown h.bY hg (ne h.bY (by decide)), blk_grown h.bA hg (ne h.bA (by decide)), ?_, by rw [List.length_set]; exact h.lN, blk_grown h.bF hg (ne h.bF (by decide))⟩, KeptBut.of_grown hg fun b e => by cases e; exact Or.inr (Or.inr (Or.inr (Or.inl rfl)))⟩
 refine blk_put h.bN i _ ?_
 rw [List.setIfInBounds_toArray, List.map_set]
end
def GoodZ (w0 : World) (zs : List Sl3) (pre : List (List Int)) : Prop := ∀ (i : Nat) z r, zs[i]? = some z → pre[i]? = some r → z.2.1 = r.length ∧ r.length ≤ z.2.2 ∧ Kd.C (Kd.int .i64) w0 z.1 r.length r
theorem GoodZ.set {w0 : World} {zs : List Sl3} {pre : List (List Int)} (h : GoodZ w0 zs pre) {z : Sl3} {r : List Int} (hz : z.2.1 = r.length ∧ r.length ≤ z.2.2 ∧ Kd.C (Kd.int .i64) w0 z.1 r.length r) : GoodZ w0 (zs.set pre.length z) (pre ++ [r]) := by
 intro i y q hy hq
 rcases Nat.lt_trichotomy i pre.length with hi | hi | hi
 ·rw [List.getElem?_set_ne (by omega)] at hy
  rw [List.getElem?_append_left hi] at hq
  exact h i y q hy hq
 ·subst hi
  by_cases hl : pre.length < zs.length
  ·rw [List.getElem?_set_self hl] at hy
   simp at hq
   cases hy; subst hq; exact hz
  ·rw [List.getElem?_eq_none (by rw [List.length_set]; omega)] at hy; cases hy
 ·rw [List.getElem?_eq_none (by simp; omega)] at hq; cases hq
theorem GoodZ.pre {w0 : World} {zs : List Sl3} {pre : List (List Int)} {r : List Int} (h : GoodZ w0 zs (pre ++ [r])) : GoodZ w0 zs pre := by
 intro i y q hy hq
 have hi : i < pre.length := (List.getElem?_eq_some_iff.1 hq).1
 exact h i y q hy (by rw [List.getElem?_append_left hi]; exact hq)
theorem EvS.enc {l : Nat} {Q : Nat → Prop} {w0 : World} {A0 : Option Addr} {n c0 : Nat} {Ob Yb Ab Nb Fb : Nat} {W : World} {zs : List Sl3} {pre : List (List Int)} (h : EvS l Q w0 A0 n c0 Ob Yb Ab Nb Fb W zs) (hv : ∀ a x, w0.cell? a = some x → Q a.block) (hg : GoodZ w0 zs pre) (hp : pre.length = n) (hn : n < 1000000000) : EncA (ownE Q Yb Ab Nb Fb) pre W #[.agg #[.slice (some ⟨Nb, 0, none⟩) n n]] := by
 have hl := h.lN
 refine ⟨h.lt, some ⟨Nb, 0, none⟩, n, by rw [hp], by omega, C_rows (zs := zs) ?_ (by omega) fun i z r hz hr => ?_⟩
 ·refine ⟨rfl, by omega, fun h0 => ⟨⟨Nb, 0, none⟩, rfl, fun j p hj => ⟨[slV p], rfl, rfl, fun i u hu => ?_⟩⟩⟩
  obtain ⟨hi, hu⟩ := List.getElem?_eq_some_iff.1 hu
  obtain ⟨hj, hjp⟩ := List.getElem?_eq_some_iff.1 hj
  simp at hi
  subst hi
  have := h.cN j hj
  rw [hjp] at this
  simp at hu
  subst hu
  rw [show (⟨Nb, 0, none⟩ : Addr).add (j * kSl.sz + 0) = ⟨Nb, j, none⟩ by simp [Addr.add, kSl, Kd.scalar]; omega]
  exact this
 ·obtain ⟨g1, g2, g3⟩ := hg i z r hz hr
  exact ⟨g1, g2, C_int_cells (h.cell hv) g3⟩
section
variable (l base : Nat) (Q : Nat → Prop) (w0 : World) (A0 : Option Addr) (n c0 Ob Yb Ab Nb Fb : Nat) (L : List (List (List Int))) (J Jx : (Nat → Prop) → List (List (List Int)) → World → Prop)
def YieldsE : Prop := ∀ own pre x vs W1, J own pre W1 → (∃ rest, L = pre ++ x :: rest) → EncA own x W1 vs → (∀ b, Q b → own b) → YieldAt Fence.wide 0 Try.prog l vs W1 fun e W' =>
   (e = .returned (.bool true) ∧ J own (pre ++ [x]) W' ∧ RoundKept (fun b => b < base ∨ own b) W1 W') ∨ (e = .returned (.bool false) ∧ Jx own (pre ++ [x]) W')
def FromEndE (pre : List (List Int)) (acc : List (List (List Int))) (e : Ending) (w' : World) : Prop :=
 ∃ b : Bool, e = .returned (.bool b) ∧ ((b = true ∧ (∃ zs, EvS l Q w0 A0 n c0 Ob Yb Ab Nb Fb w' zs ∧ GoodZ w0 zs pre) ∧ J (ownE Q Yb Ab Nb Fb) acc w') ∨ (b = false ∧ ∃ p, Jx (ownE Q Yb Ab Nb Fb) p w'))
def FromOkE (orders os : Orders) : Prop := ∀ (done : Orders) (pre : List (List Int)) (zs : List Sl3) (acc : List (List (List Int))) (W : World),
 orders = done ++ os → pre.length = done.length → EvS l Q w0 A0 n c0 Ob Yb Ab Nb Fb W zs → GoodZ w0 zs pre → J (ownE Q Yb Ab Nb Fb) acc W → (∃ rest, L = acc ++ everyS os pre ++ rest) →
 Calls Try.prog 111 (#[.int .i64 (pre.length : Int)] ++ caE Ob Yb Ab Fb) W (FromEndE l Q w0 A0 n c0 Ob Yb Ab Nb Fb J Jx pre (acc ++ everyS os pre))
end
theorem ev_leaf (l base : Nat) (Q : Nat → Prop) (w0 : World) (A0 : Option Addr) (n c0 Ob Yb Ab Nb Fb : Nat) (L : List (List (List Int))) (J Jx : (Nat → Prop) → List (List (List Int)) → World → Prop)
  (orders : Orders) (hn : orders.length = n) (hn9 : n < 1000000000) (hv : ∀ a x, w0.cell? a = some x → Q a.block) (hY : YieldsE l base Q L J Jx) : FromOkE l Q w0 A0 n c0 Ob Yb Ab Nb Fb L J Jx orders [] := by
 intro done pre zs acc W ho hp hS hG hJ hL
 obtain rfl : orders = done := by rw [ho, List.append_nil]
 have hpn : pre.length = n := by omega
 have HS := am hS
 have HG := am hG
 have HE := am (hS.enc hv hG hpn hn9)
 have HJ := am hJ
 have HY := am hY
 obtain ⟨rest, hL⟩ := hL
 have HL : Aside0 (L = acc ++ pre :: rest) := ⟨by rw [hL]; simp [everyS]⟩
 have hcO := hS.cO
 have hcY := hS.cY
 have hcA := hS.cA
 have ePN : ((pre.length : Int) == (n : Int)) = true := by rw [hpn]; exact beq_self_eq_true _
 have e1 : (#[Value.int .i64 (pre.length : Int)] ++ caE Ob Yb Ab Fb : Array Value) = #[.int .i64 (pre.length : Int), .pointer (some ⟨Ob, 0, none⟩), .pointer (some ⟨Yb, 0, none⟩), .pointer (some ⟨Ab, 0, none⟩), .pointer (some ⟨Fb, 0, none⟩)] := rfl
 clear hS hG hJ hY hL ho hp hpn hn
 rw [e1]
 clear e1
 go_enter Try.func111, Try.ntmps111
 obtain ⟨fn, tmps, assign, body, hy, hrnd⟩ := HY.out (ownE Q Yb Ab Nb Fb) acc pre #[.agg #[.slice (some ⟨Nb, 0, none⟩) n n]] W HJ.out ⟨rest, HL.out⟩ HE.out (fun b hb => Or.inl hb)
 have HRN := am hrnd
 have hy' : (Instr.yield l #[.agg #[.slice (some ⟨Nb, 0, none⟩) n n]]).run Try.prog W = .ok (.round l fn tmps assign body) W := hy
 clear hrnd hy
 go_upto_region 2 with (fail)
 go_cut [6] from 13 to 15 (fun v6 wc => ∃ bq : Bool, v6 = Value.bool bq ∧ Aside0 ((bq = true ∧ (∃ zs, EvS l Q w0 A0 n c0 Ob Yb Ab Nb Fb wc zs ∧ GoodZ w0 zs pre) ∧ J (ownE Q Yb Ab Nb Fb) (acc ++ everyS [] pre) wc) ∨ (bq = false ∧ ∃ p, Jx (ownE Q Yb Ab Nb Fb) p wc)))
 case first =>
  refine (wpIn_wide (n := 0)).1 ?_
  gi_wp2_with (refine ⟨rfl, HRN.out.mono ?_⟩; intro e w3 hE;  obtain ⟨bq, rfl, hD⟩ : ∃ bq : Bool, e = .returned (.bool bq) ∧ ((bq = true ∧ J (ownE Q Yb Ab Nb Fb) (acc ++ [pre]) w3 ∧ RoundKept (fun b => b < base ∨ ownE Q Yb Ab Nb Fb b) W w3) ∨ (bq = false ∧ Jx (ownE Q Yb Ab Nb Fb) (acc ++ [pre]) w3)) := (by rcases hE with ⟨h1, h2, h3⟩ | ⟨h1, h2⟩; exact ⟨true, h1, Or.inl ⟨rfl, h2, h3⟩⟩; exact ⟨false, h1, Or.inr ⟨rfl, h2⟩⟩); clear hE)
  have HD : Aside0 ((bq = true ∧ (∃ zs, EvS l Q w0 A0 n c0 Ob Yb Ab Nb Fb w3 zs ∧ GoodZ w0 zs pre) ∧ J (ownE Q Yb Ab Nb Fb) (acc ++ everyS [] pre) w3) ∨ (bq = false ∧ ∃ p, Jx (ownE Q Yb Ab Nb Fb) p w3)) := ⟨hD.imp (fun h => ⟨h.1, ⟨zs, HS.out.round h.2.2, HG.out⟩, h.2.1⟩) (fun h => ⟨h.1, _, h.2⟩)⟩
  clear hD
  go_meet
  case rel => exact ⟨bq, rfl, HD⟩
 case rest =>
  obtain ⟨bq, rfl, HD⟩ := hcut
  go_wp2_with fail
  go_ret
  exact ⟨bq, rfl, HD.out⟩
theorem ev_more (l base : Nat) (Q : Nat → Prop) (w0 : World) (A0 : Option Addr) (n c0 Ob Yb Ab Nb Fb : Nat) (L : List (List (List Int))) (J Jx : (Nat → Prop) → List (List (List Int)) → World → Prop)
  (orders : Orders) (hn : orders.length = n) (hn9 : n < 1000000000) (hv : ∀ a x, w0.cell? a = some x → Q a.block) (hR : Kd.C (Kd.slice 28 (Kd.slice 3 (Kd.int .i64))) w0 A0 orders.length orders) (hsJ : StableJ base J) (hOwn : ∀ b, ownE Q Yb Ab Nb Fb b → base ≤ b)
  (o : List (List Int)) (os : Orders) (ih : FromOkE l Q w0 A0 n c0 Ob Yb Ab Nb Fb L J Jx orders os) : FromOkE l Q w0 A0 n c0 Ob Yb Ab Nb Fb L J Jx orders (o :: os) := by
 intro done pre zs acc W ho hp hS hG hJ hL
 have hlt : pre.length < n := by rw [← hn, ho, hp]; simp
 have HS := am hS
 have HG := am hG
 have HJ := am hJ
 have HL := am hL
 have HsJ := am hsJ
 have HOwn := am hOwn
 have HV := am hv
 have HO := am ho
 have HP := am hp
 have IH := am ih
 have HN9 := am hn9
 have HLT := am hlt
 have hcO := hS.cO
 have hrd : rd_L2 orders (pre.length : Int) = o := by
  show orders.getD pre.length [] = o
  rw [ho, hp, List.getD_eq_getElem?_getD, List.getElem?_append_right (Nat.le_refl _)]; simp
 obtain ⟨ad, Al, cl, e2, hx, hl, hi⟩ := at_L2 hR (pre.length : Int) (Int.natCast_nonneg _) (by omega)
 subst e2
 rw [Int.toNat_natCast, hrd] at hx
 rw [hrd] at hl hi
 replace hx := hS.cell hv _ _ hx
 have HRO := am hi
 have ePN : ((pre.length : Int) == (n : Int)) = false := by rw [beq_eq_false_iff_ne]; omega
 have q1 := eq_true (Int.natCast_nonneg pre.length)
 have q2 := eq_true (show (pre.length : Int) < (n : Int) by omega)
 have e1 : (#[Value.int .i64 (pre.length : Int)] ++ caE Ob Yb Ab Fb : Array Value) = #[.int .i64 (pre.length : Int), .pointer (some ⟨Ob, 0, none⟩), .pointer (some ⟨Yb, 0, none⟩), .pointer (some ⟨Ab, 0, none⟩), .pointer (some ⟨Fb, 0, none⟩)] := rfl
 clear hS hG hJ hL hsJ hOwn ih hR hrd hl hi ho hp hn hn9 hlt
 rw [e1]
 clear e1
 go_enter Try.func111, Try.ntmps111
 go_wp2_with fail
 clear hcO hx
 go_loopg [21] (o.length + 1) (fun kq v21 w' => ∃ (i : Nat) (zs : List Sl3) (acc2 : List (List (List Int))), v21 = .int .i64 (i : Int) ∧ Aside0 (i + kq = o.length + 1) ∧ Aside0 (acc2 ++ (o.drop i).flatMap (fun row => everyS os (pre ++ [row])) = acc ++ everyS (o :: os) pre) ∧ Aside0 (EvS l Q w0 (some ad) n c0 Ob Yb Ab Nb Fb w' zs) ∧ Aside0 (GoodZ w0 zs pre) ∧ Aside0 (J (ownE Q Yb Ab Nb Fb) acc2 w'))
 case atStart => exact ⟨0, zs, acc, rfl, ⟨by omega⟩, ⟨by simp [everyS]⟩, HS, HG, HJ⟩
 case round =>
  clear HS HG HJ zs
  obtain ⟨i, zs, acc2, rfl, HI, HA, HS, HG, HJ⟩ := hrel
  by_cases d1 : i < o.length
  ·have d1b : decide ((i : Int) < (o.length : Int)) = true := decide_eq_true (by omega)
   obtain ⟨ad2, Ar, cr, e3, hy, hl2, hi2⟩ := at_L1 HRO.out (i : Int) (Int.natCast_nonneg _) (by omega)
   subst e3
   rw [Int.toNat_natCast] at hy
   replace hy := HS.out.cell HV.out _ _ hy
   have hrow : rd_L1 o (i : Int) = o[i] := by
    show o.getD i [] = _
    rw [List.getD_eq_getElem?_getD, List.getElem?_eq_getElem d1]; rfl
   generalize hrr : rd_L1 o (i : Int) = row at hy hl2 hi2
   have HRW : Aside0 (o.drop i = row :: o.drop (i + 1)) := ⟨by rw [← hrr, hrow]; exact List.drop_eq_getElem_cons d1⟩
   have HZ := am (show row.length ≤ cr ∧ Kd.C (Kd.int .i64) w0 Ar row.length row from ⟨hl2, hi2⟩)
   have q3 := eq_true (Int.natCast_nonneg i)
   have q4 := eq_true (show (i : Int) < (o.length : Int) by omega)
   have hcA := HS.out.cA
   have hcN := HS.out.cN pre.length (by have := HS.out.lN; have := HLT.out; omega)
   have hfN := blk_frozen HS.out.bN pre.length
   have D1 := am d1
   clear hl2 hi2 hrow hrr d1
   go_wp2_with (((with_reducible refine gate_store (t := 28) (p := 29) rfl ?_); refine store_event (t := 28) (p := 29) (v := ?vo) (w1 := (wr.setCell ⟨Nb, pre.length, none⟩ (.slice Ar row.length cr))) zz5 zz5 zz5 zz6 ?_; intro w2 hw;  have hSU := HS.out.set pre.length (Ar, row.length, cr); unfold slV at hSU; rw [← hw] at hSU; have HS2 := am hSU.1; have HJ2 : Aside0 (J (ownE Q Yb Ab Nb Fb) acc2 w2) := ⟨HsJ.out _ _ _ _ _ HJ.out hSU.2 HOwn.out fun b hb => Or.inl hb⟩; have hcF := hSU.1.cF; clear hSU hw))
   have hwr : wrap64 ((pre.length : Int) + 1) = (((pre ++ [row]).length : Nat) : Int) := by
    have := HN9.out; have := HLT.out
    rw [List.length_append]
    unfold wrap64
    simp only [List.length_cons, List.length_nil]
    omega
   have hlen2 : (pre ++ [row]).length = (done ++ [o]).length := by have := HP.out; simp; omega
   have hL2 : ∃ rest, L = acc2 ++ everyS os (pre ++ [row]) ++ rest := by
    obtain ⟨rest, hr⟩ := HL.out
    exact ⟨(o.drop (i + 1)).flatMap (fun row => everyS os (pre ++ [row])) ++ rest, by rw [hr, ← HA.out, HRW.out]; simp⟩
   have HC := am (IH.out (done ++ [o]) (pre ++ [row]) _ acc2 w2 (by rw [HO.out]; simp) hlen2 HS2.out (GoodZ.set HG.out ⟨rfl, HZ.out.1, HZ.out.2⟩) HJ2.out hL2)
   rw [hwr]
   clear hlen2 hL2 hwr HS HJ hcA hcN hfN hy hcF HS2 HJ2
   with_reducible refine HC.out.mono ?_
   rintro e w5 ⟨bq, rfl, hD⟩
   rcases hD with ⟨rfl, ⟨zs5, hS5, hG5⟩, hJ5⟩ | ⟨rfl, p, hx5⟩
   rotate_left
   ·have HX5 := am hx5
    clear hx5 HC
    go_wp2_with fail
    go_ret
    exact ⟨false, rfl, Or.inr ⟨rfl, p, HX5.out⟩⟩
   have HS5 := am hS5
   have HG5 := am hG5
   have HJ5 := am hJ5
   have hwi : wrap64 ((i : Int) + 1) = ((i + 1 : Nat) : Int) := by
    have h1 := D1.out
    have h2 := Kd.C_max HRO.out
    unfold wrap64; omega
   clear HC hS5 hG5 hJ5
   go_wp2_with fail
   go_roundg (gk - 1)
   case measure => have h1 := HI.out; have h2 := D1.out; omega
   case rel => exact ⟨i + 1, zs5, _, by rw [hwi], ⟨by have h1 := HI.out; have h2 := D1.out; omega⟩, ⟨by rw [← HA.out, HRW.out]; simp⟩, HS5, ⟨HG5.out.pre⟩, HJ5⟩
  ·have d1b : decide ((i : Int) < (o.length : Int)) = false := decide_eq_false (by omega)
   have d1c : decide (i < o.length) = false := decide_eq_false d1
   have HD1 := am d1
   clear d1
   go_wp2_with fail
   go_ret
   have hd : o.drop i = [] := List.drop_eq_nil_of_le (by have := HD1.out; omega)
   have hA := HA.out
   rw [hd] at hA
   have hA : acc2 = acc ++ everyS (o :: os) pre := by rw [← hA]; simp
   exact ⟨true, rfl, Or.inl ⟨rfl, ⟨zs, HS.out, HG.out⟩, by rw [← hA]; exact HJ.out⟩⟩
theorem ev_ok (l base : Nat) (Q : Nat → Prop) (w0 : World) (A0 : Option Addr) (n c0 Ob Yb Ab Nb Fb : Nat) (L : List (List (List Int))) (J Jx : (Nat → Prop) → List (List (List Int)) → World → Prop)
  (orders : Orders) (hn : orders.length = n) (hn9 : n < 1000000000) (hv : ∀ a x, w0.cell? a = some x → Q a.block) (hR : Kd.C (Kd.slice 28 (Kd.slice 3 (Kd.int .i64))) w0 A0 orders.length orders) (hsJ : StableJ base J) (hOwn : ∀ b, ownE Q Yb Ab Nb Fb b → base ≤ b)
  (hY : YieldsE l base Q L J Jx) : ∀ os, FromOkE l Q w0 A0 n c0 Ob Yb Ab Nb Fb L J Jx orders os
 | [] => ev_leaf l base Q w0 A0 n c0 Ob Yb Ab Nb Fb L J Jx orders hn hn9 hv hY
 | o :: os => ev_more l base Q w0 A0 n c0 Ob Yb Ab Nb Fb L J Jx orders hn hn9 hv hR hsJ hOwn o os (ev_ok l base Q w0 A0 n c0 Ob Yb Ab Nb Fb L J Jx orders hn hn9 hv hR hsJ hOwn hY os)
theorem run_mkrows (W : World) (n : Nat) (hn : n < 1000000000) : (Instr.makeSlice 22 (.int .i64 (n : Int)) (.int .i64 (n : Int))).run Try.prog W = .ok (.slice (some ⟨W.heap.size, 0, none⟩) n n) (W.alloc (.cells ((List.replicate n ((none, 0, 0) : Sl3)).map slV).toArray 28)) := by
 obtain ⟨i0, hi, hzz⟩ := Option.map_eq_some_iff.1 infoInts
 simp only [Prod.mk.injEq] at hzz
 obtain ⟨hz0, hz1, hz2⟩ := hzz
 have hr := run_make (P := Try.prog) W 22 28 i0 _ Try.underlying22 hi hz0 .i64 .i64 (n : Int) (n : Int) (by omega) (by omega) (by rw [hz2]; omega) (by omega)
 rw [Int.toNat_natCast, hz1] at hr
 rw [hr]
 have hm : madeCells (Value.slice none 0 0).cells (n * 1) = ((List.replicate n ((none, 0, 0) : Sl3)).map slV).toArray := by
  refine Array.ext (by simp [madeCells]) fun j h1 h2 => ?_
  simp [madeCells, slV, Value.cells, Nat.mod_one]
 exact congrArg (fun q => Result.ok (Value.slice (some ⟨W.heap.size, 0, none⟩) n n) (W.alloc (.cells q 28))) hm
theorem run_mkrows2 (W : World) (n : Nat) (hn : n < 1000000000) : (Instr.makeSlice 22 (.int .i64 (n : Int)) (.int .i64 (n : Int))).run Try.prog W = .ok (.slice (some ⟨W.heap.size, 0, none⟩) n n) (W.alloc (.cells (Array.replicate n (slV (none, 0, 0))) 28)) := by
 rw [run_mkrows W n hn]; simp
theorem color_every.seq (A0 : Option Addr) (c0 : Nat) (orders : Orders) (L : List (List (List Int))) (Ob : Nat) (base : Nat) (Q : Nat → Prop) (w0 : World) (hO : Q Ob) (hv : ∀ a x, w0.cell? a = some x → Q a.block) (hR : Kd.C (Kd.slice 28 (Kd.slice 3 (Kd.int .i64))) w0 A0 orders.length orders) (hc : orders.length ≤ c0) (h : color_every.f orders = some L) :
  SeqP Try.prog base 110 #[.pointer (some ⟨Ob, 0, none⟩)] EncA L Q (fun W => (∀ b, Q b → b < W.heap.size ∧ W.heap[b]? = w0.heap[b]?) ∧ W.heap[Ob]? = some (.cells #[.slice A0 orders.length c0] 87 (0, 0))) := by
 intro l J Jx W hSt hown hbase hsJ hsJx hY h0
 unfold color_every.f at h
 split at h
 rotate_left
 ·cases h
 next hcond =>
 obtain rfl := Option.some.inj h
 have HSt := am hSt
 have HOw := am hown
 have Hbase := am hbase
 have HsJ := am hsJ
 have HY := am hY
 have HJ := am h0
 have HR := am hR
 have HV := am hv
 have HQO := am hO
 have HC := am hcond
 have hcO1 : (W.alloc (.cells #[.func (.yield l) #[] #[]] 31)).cell? ⟨Ob, 0, none⟩ = some (.slice A0 orders.length c0) := pw_cell_below (ba (Below.refl _ _) _) ((blk_cell hSt.2 0).trans rfl)
 clear hSt hown hbase hsJ hsJx hY h0 hR hv hO hcond h
 have e1 : (#[Value.func (.yield l) #[] #[]] ++ #[Value.pointer (some ⟨Ob, 0, none⟩)] : Array Value) = #[.func (.yield l) #[] #[], .pointer (some ⟨Ob, 0, none⟩)] := rfl
 rw [e1]
 clear e1
 have hmk := run_mkrows2 (W.alloc (.cells #[.func (.yield l) #[] #[]] 31)) orders.length HC.out.2
 go_enter Try.func110, Try.ntmps110
 go_wp2_with fail
 obtain ⟨W1, hW1⟩ : ∃ W1, W1 = ((((W.alloc (.cells #[.func (.yield l) #[] #[]] 31)).alloc (.cells (Array.replicate orders.length (slV (none, 0, 0))) 28)).alloc (.cells #[.slice (some ⟨W.heap.size + 1, 0, none⟩) orders.length orders.length] 24)).alloc (.cells #[.func (.func 111) #[] (caE Ob W.heap.size (W.heap.size + 1 + 1) (W.heap.size + 1 + 1 + 1))] 110)) := ⟨_, rfl⟩
 have hb : Below W.heap.size W W1 := by rw [hW1]; exact ((((Below.refl _ W).alloc (Nat.le_refl _) _).alloc (by simp) _).alloc (by simp; omega) _).alloc (by simp; omega) _
 have hS : EvS l Q w0 A0 orders.length c0 Ob W.heap.size (W.heap.size + 1 + 1) (W.heap.size + 1) (W.heap.size + 1 + 1 + 1) W1 (List.replicate orders.length (none, 0, 0)) := by
  refine ⟨fun b hq => ⟨Nat.lt_of_lt_of_le (HSt.out.1 b hq).1 hb.size, (hb.block b (HSt.out.1 b hq).1).trans (HSt.out.1 b hq).2⟩, HQO.out, fun b hq => ?_, blk_below HSt.out.2 hb, ?_, ?_, ?_, by simp, ?_⟩
  ·have := (HSt.out.1 b hq).1
   omega
  ·rw [hW1]; exact blk_alloc (blk_alloc (blk_alloc (blk_new _ _) _) _) _
  ·rw [hW1]; refine blk_alloc ?_ _
   have := blk_new ((W.alloc (.cells #[.func (.yield l) #[] #[]] 31)).alloc (.cells (Array.replicate orders.length (slV (none, 0, 0))) 28)) (.cells #[.slice (some ⟨W.heap.size + 1, 0, none⟩) orders.length orders.length] 24)
   rwa [World.size_alloc, World.size_alloc] at this
  ·rw [hW1]; refine blk_alloc (blk_alloc ?_ _) _
   have := blk_new (W.alloc (.cells #[.func (.yield l) #[] #[]] 31)) (.cells (Array.replicate orders.length (slV (none, 0, 0))) 28)
   rw [World.size_alloc] at this
   rw [this]; simp
  ·rw [hW1]
   have := blk_new (((W.alloc (.cells #[.func (.yield l) #[] #[]] 31)).alloc (.cells (Array.replicate orders.length (slV (none, 0, 0))) 28)).alloc (.cells #[.slice (some ⟨W.heap.size + 1, 0, none⟩) orders.length orders.length] 24)) (.cells #[.func (.func 111) #[] (caE Ob W.heap.size (W.heap.size + 1 + 1) (W.heap.size + 1 + 1 + 1))] 110)
   rwa [World.size_alloc, World.size_alloc, World.size_alloc] at this
 have hO : ∀ b, ownE Q W.heap.size (W.heap.size + 1 + 1) (W.heap.size + 1) (W.heap.size + 1 + 1 + 1) b → base ≤ b := by
  have h0 := Hbase.out
  rintro b (hq | rfl | rfl | rfl | rfl)
  ·exact (HOw.out _ hq).2
  all_goals omega
 have hJ1 : J (ownE Q W.heap.size (W.heap.size + 1 + 1) (W.heap.size + 1) (W.heap.size + 1 + 1 + 1)) [] W1 := by
  refine HsJ.out _ _ _ _ _ HJ.out (KeptBut.of_below hb) (fun b h => (HOw.out b h).2) ?_
  rintro b (hq | rfl | rfl | rfl | rfl)
  ·exact Or.inl hq
  all_goals (right; omega)
 have HCl := ev_ok l base Q w0 A0 orders.length c0 Ob W.heap.size (W.heap.size + 1 + 1) (W.heap.size + 1) (W.heap.size + 1 + 1 + 1) (everyS orders []) J Jx orders rfl HC.out.2 HV.out HR.out HsJ.out hO HY.out orders [] [] _ [] W1 rfl rfl hS (fun i z r _ hr => by simp at hr) hJ1 ⟨[], by simp⟩
 have e1 : (#[Value.int .i64 ((([] : List (List Int)).length : Nat) : Int)] ++ caE Ob W.heap.size (W.heap.size + 1 + 1) (W.heap.size + 1 + 1 + 1) : Array Value) = #[.int .i64 0, .pointer (some ⟨Ob, 0, none⟩), .pointer (some ⟨W.heap.size, 0, none⟩), .pointer (some ⟨W.heap.size + 1 + 1, 0, none⟩), .pointer (some ⟨W.heap.size + 1 + 1 + 1, 0, none⟩)] := rfl
 rw [e1, hW1] at HCl
 have HO := am hO
 clear e1 hJ1 hO hS hb hW1 hmk hcO1
 refine HCl.mono ?_
 rintro e w5 ⟨bq, rfl, hD⟩
 have HD := am hD
 clear hD HCl
 go_wp2_with fail
 refine bodyPost_end (results_none rfl _ _ _) rfl ⟨⟨_, rfl⟩, ?_⟩
 rcases HD.out with ⟨rfl, _, hJ5⟩ | ⟨rfl, pre, hx5⟩
 ·exact Or.inl ⟨_, HO.out, by simpa using hJ5⟩
 ·exact Or.inr ⟨_, pre, HO.out, hx5⟩
theorem color_every.makes (A0 : Option Addr) (n c0 : Nat) (w : World) :
  Calls Try.prog 90 #[.slice A0 n c0] w fun e w' => ∃ Ob : Nat, e = .returned (.func (.func 110) #[] #[.pointer (some ⟨Ob, 0, none⟩)]) ∧ w.heap.size ≤ Ob ∧ w'.heap[Ob]? = some (.cells #[.slice A0 n c0] 87 (0, 0)) ∧ Below w.heap.size w w' := by
 go_enter Try.func90, Try.ntmps90
 go_wp2_with ((with_reducible refine gate_dst (N := 1) rfl ?_); refine box_event zz5 (N := 1) zz5 (cs := #[.slice A0 n c0]) (t := 87) zz6 ?_; intro B hBe w1 hbox hb1; have HBE := am (show w.heap.size ≤ B by omega); have HX := am hbox; have HB := am hb1; clear hbox hb1 hBe)
 go_ret
 exact ⟨B, rfl, HBE.out, HX.out, HB.out⟩
end Go.Proofs.Ytjgdalhdiohclaa.Q
end
