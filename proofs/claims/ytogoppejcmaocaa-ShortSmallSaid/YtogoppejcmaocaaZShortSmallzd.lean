/- The law ShortSmall holds: every automaton with at most 4 states and 2 letters that has a reset word has one of at most (n - 1)^2 letters, Reset finds one exactly if Shortest does, and none that is shorter; no bound on the arguments beyond their types'. (text 30 of 32) -/
import Derived.Test.YtogoppejcmaocaaZShortSmallh
import Derived.Test.YtogoppejcmaocaaZShortSmallza
import Derived.Test.YtogoppejcmaocaaZShortSmallw
/-! Part QLaw04ShortSmall -/
section
-- Written by xprint.py, a program of this session's, over the kit's print. Lean checks it.
namespace Go.Proofs.Ytogoppejcmaocaa.Q
open Go.RowKit Go.Proofs.YtogoppejcmaocaaW.PrintWords Go.Proofs.YtogoppejcmaocaaW.PrintLast Go.Proofs.YtogoppejcmaocaaW.PrintMore
attribute [local go_sem] max2_int min2_int max_two min_two max_three min_three max_four min_four
set_option linter.unusedVariables false
set_option linter.unusedSimpArgs false

/-! ### mizmazelaw04_ShortSmall: function 14 -/
mutual
def mizmazelaw04_ShortSmall.l0 : Nat → Int → Int → Int → List (List Int) → Option (Bool)
  | 0, _, _, _, _ => none
  | k + 1, x1, x5, x7, x597000 => if x7 < x5 then (mizmazelaw04_ShortSmall.l1 k x1 x5 x7 ([] : List Int) 0 x597000) else ((short_Shortest.f k x597000).bind fun bt603 => ((reset_Reset.f k x597000).bind fun bt607 => (if bt603.2 = bt607.2 then (if bt603.2 = 0 then (if (bt603.1.length : Int) ≤ (wrap64 ((wrap64 (x5 - 1)) * (wrap64 (x5 - 1)))) then (if (bt603.1.length : Int) ≤ (bt607.1.length : Int) then ((mizmazelaw04_awake.f k).bind fun t611 => (some t611)) else (some false)) else (some false)) else (if bt603.2 = 4 then ((mizmazelaw04_awake.f k).bind fun t612 => (some t612)) else (some false))) else (some false))))
def mizmazelaw04_ShortSmall.l1 : Nat → Int → Int → Int → List Int → Int → List (List Int) → Option (Bool)
  | 0, _, _, _, _, _, _ => none
  | k + 1, x1, x5, x7, x8, x9, x597000 => if x9 < 2 then (if x5 = 0 then (none) else (if x8.length < 17592186044416 then (if ((x5) % 4294967296) = 0 then (none) else (mizmazelaw04_ShortSmall.l1 k ((Int.tdiv x1 ((x5) % 4294967296)) % 4294967296) x5 x7 (x8 ++ [Int.tmod (wrap64 (x1)) x5]) (wrap64 (x9 + 1)) x597000)) else (none))) else (if x597000.length < 5864062014805 then (mizmazelaw04_ShortSmall.l0 k x1 x5 (wrap64 (x7 + 1)) (x597000 ++ [x8])) else (none))
end
def mizmazelaw04_ShortSmall.f (k : Nat) (a0 : Int) (a1 : Int) : Option (Bool) := mizmazelaw04_ShortSmall.l0 k a1 (wrap64 (1 + (Int.tmod (wrap64 (a0)) 4))) 0 ([] : List (List Int))
theorem mizmazelaw04_ShortSmall.mono_l : ∀ k, (∀ y0 y1 y2 y3, LeO (mizmazelaw04_ShortSmall.l0 k y0 y1 y2 y3) (mizmazelaw04_ShortSmall.l0 (k + 1) y0 y1 y2 y3)) ∧ (∀ y0 y1 y2 y3 y4 y5, LeO (mizmazelaw04_ShortSmall.l1 k y0 y1 y2 y3 y4 y5) (mizmazelaw04_ShortSmall.l1 (k + 1) y0 y1 y2 y3 y4 y5))
  | 0 => ⟨fun _ _ _ _ r h => by simp [mizmazelaw04_ShortSmall.l0] at h, fun _ _ _ _ _ _ r h => by simp [mizmazelaw04_ShortSmall.l1] at h⟩
  | k + 1 => by
    obtain ⟨ih0, ih1⟩ := mizmazelaw04_ShortSmall.mono_l k
    refine ⟨?_, ?_⟩
    · intro y0 y1 y2 y3
      unfold mizmazelaw04_ShortSmall.l0
      repeat' first
      | (with_reducible exact ih0 _ _ _ _)
      | (with_reducible exact ih1 _ _ _ _ _ _)
      | (with_reducible exact mizmazelaw04_awake.mono _)
      | (with_reducible exact reset_Reset.mono _ _)
      | (with_reducible exact short_Shortest.mono _ _)
      | (with_reducible exact LeO.refl _)
      | (with_reducible exact LeO.none _)
      | (with_reducible refine LeO.ite ?_ ?_)
      | (with_reducible refine LeO.bind ?_ (fun _ => ?_))
      | exact ih0 _ _ _ _
      | exact ih1 _ _ _ _ _ _
      | exact mizmazelaw04_awake.mono _
      | exact reset_Reset.mono _ _
      | exact short_Shortest.mono _ _
      | exact LeO.none _
      | refine LeO.ite ?_ ?_
      | refine LeO.bind ?_ (fun _ => ?_)
    · intro y0 y1 y2 y3 y4 y5
      unfold mizmazelaw04_ShortSmall.l1
      repeat' first
      | (with_reducible exact ih0 _ _ _ _)
      | (with_reducible exact ih1 _ _ _ _ _ _)
      | (with_reducible exact mizmazelaw04_awake.mono _)
      | (with_reducible exact reset_Reset.mono _ _)
      | (with_reducible exact short_Shortest.mono _ _)
      | (with_reducible exact LeO.refl _)
      | (with_reducible exact LeO.none _)
      | (with_reducible refine LeO.ite ?_ ?_)
      | (with_reducible refine LeO.bind ?_ (fun _ => ?_))
      | exact ih0 _ _ _ _
      | exact ih1 _ _ _ _ _ _
      | exact mizmazelaw04_awake.mono _
      | exact reset_Reset.mono _ _
      | exact short_Shortest.mono _ _
      | exact LeO.none _
      | refine LeO.ite ?_ ?_
      | refine LeO.bind ?_ (fun _ => ?_)
theorem mizmazelaw04_ShortSmall.mono : ∀ a0 a1 k, LeO (mizmazelaw04_ShortSmall.f k a0 a1) (mizmazelaw04_ShortSmall.f (k + 1) a0 a1) := by
  intro a0 a1 k
  obtain ⟨ih0, ih1⟩ := mizmazelaw04_ShortSmall.mono_l k
  unfold mizmazelaw04_ShortSmall.f
  repeat' first
      | (with_reducible exact ih0 _ _ _ _)
      | (with_reducible exact ih1 _ _ _ _ _ _)
      | (with_reducible exact mizmazelaw04_awake.mono _)
      | (with_reducible exact reset_Reset.mono _ _)
      | (with_reducible exact short_Shortest.mono _ _)
      | (with_reducible exact LeO.refl _)
      | (with_reducible exact LeO.none _)
      | (with_reducible refine LeO.ite ?_ ?_)
      | (with_reducible refine LeO.bind ?_ (fun _ => ?_))
      | exact ih0 _ _ _ _
      | exact ih1 _ _ _ _ _ _
      | exact mizmazelaw04_awake.mono _
      | exact reset_Reset.mono _ _
      | exact short_Shortest.mono _ _
      | exact LeO.none _
      | refine LeO.ite ?_ ?_
      | refine LeO.bind ?_ (fun _ => ?_)
set_option maxHeartbeats 8000000 in
set_option maxRecDepth 100000 in
theorem mizmazelaw04_ShortSmall.calls (k : Nat) (a0 : Int) (a1 : Int) (r : Bool) (w : World) (h : mizmazelaw04_ShortSmall.f k a0 a1 = some r) :
    Calls Try.prog 14 #[.int .u8 a0, .int .u32 a1] w fun e w' => e = .returned (.bool r) ∧ Below w.heap.size w w' := by
  have hu24 := Try.underlying24
  have HB := Aside0.mk (Below.refl w.heap.size w)
  have H : (mizmazelaw04_ShortSmall.l0 k a1 (wrap64 (1 + (Int.tmod (wrap64 (a0)) 4))) 0 ([] : List (List Int))) = some r := h
  clear h
  have H' := Aside0.mk H
  clear H
  go_enter Try.func14, Try.ntmps14
  go_wp2_with (first | ((with_reducible refine gate_dst (N := 6) rfl ?_); (try (refine gate_guard (by rfl) ?_; dsimp only)); refine box_event ?hg (N := 6) ?hd (cs := #[.slice none 0 0]) (t := 24) ?hr ?_; (case hd => rfl); (case hg => rfl); (case hr => first | (go_simp; done) | (go_simp; rfl)); intro gb596 hg w3 hbox hb; have n0_ := Aside0.mk (below_step (by repeat (first | (with_reducible first | exact HB.out | apply below_alloc | apply pw_below_drewN | apply below_drew1) | exact HB.out)) hb); have n1_ := Aside0.mk (hbox); have n2_ := Aside0.mk ((by rw [hg]; exact (below_size (by repeat (first | (with_reducible first | exact HB.out | apply below_alloc | apply pw_below_drewN | apply below_drew1) | exact HB.out))) : w.heap.size ≤ gb596)); have n3_ := Aside0.mk ((by rw [hg]; exact (below_size (by repeat (first | (with_reducible first | exact HB.out | apply below_alloc | apply pw_below_drewN | apply below_drew1) | exact HB.out))) : w.heap.size ≤ gb596)); clear HB; have HB := n0_; have BK596 := n1_; have GW596 := n2_; have GE596 := n3_; clear n0_ n1_ n2_ n3_; clear hb hbox hg))
  go_loopg [1, 7] k (fun kq v1 v7 w' => ∃ (x1_1 : Int) (x7_1 : Int) (x597000_1 : List (List Int)) (u597000 : Value), v1 = .int .u32 x1_1 ∧ v7 = .int .i64 x7_1 ∧ Aside0 (mizmazelaw04_ShortSmall.l0 kq x1_1 (wrap64 (1 + (Int.tmod (wrap64 (a0)) 4))) x7_1 x597000_1 = some r) ∧ Aside0 (kq ≤ k) ∧ Aside0 (Kd.S (Kd.slice 3 (Kd.int .i64)) 25 w' w.heap.size (fun _ => True) u597000 x597000_1) ∧ Aside0 (w'.heap[gb596]? = some (.cells #[u597000] 24 (0, 0))) ∧ Aside0 (Below w.heap.size w w'))
  case atStart => exact ⟨(a1), (0), (([] : List (List Int))), (.slice none 0 0), (by first | rfl | (simp; done) | (simp [*]; done)), (by first | rfl | (simp; done) | (simp [*]; done)), H', ⟨Nat.le_refl _⟩, ⟨by first | exact Kd.S_nil _ _ _ _ _ | exact Kd.N_nil _ _ _ _ _ | exact Kd.V_nil _ _ _ _ _ | exact Kd.Q_nil _ _ _ _ _ | exact Kd.R_nil _ _ _ _ _⟩, ⟨by (with_reducible repeat (first | refine blk_drewN ?_ _ | refine blk_drew ?_ | refine blk_alloc ?_ _)); exact BK596.out⟩, ⟨by repeat (first | (with_reducible first | exact HB.out | apply below_alloc | apply pw_below_drewN | apply below_drew1 | refine below_set ?_ GE596.out) | exact HB.out)⟩⟩
  case round =>
    clear H'
    try clear c1
    try clear p2
    obtain ⟨x1_1, x7_1, x597000_1, u597000, rfl, rfl, HA, HK1, HO_597000, BK596, HB⟩ := hrel
    cases gk with
    | zero => exact absurd HA.out (by simp [mizmazelaw04_ShortSmall.l0])
    | succ k1 =>
      have H := HA.out
      clear HA
      simp only [mizmazelaw04_ShortSmall.l0] at H
      by_cases c4 : x7_1 < (wrap64 (1 + (Int.tmod (wrap64 (a0)) 4)))
      · rw [if_pos c4] at H
        have c4b0 : decide (x7_1 < (wrap64 (1 + (Int.tmod (wrap64 (a0)) 4)))) = true := decide_eq_true c4
        clear c4
        have H' := Aside0.mk H
        clear H
        go_wp2
        go_loopg [1, 8, 9] k1 (fun kq v1 v8 v9 w' => ∃ (x1_2 : Int) (x8_2 : List Int) (x9_2 : Int), v1 = .int .u32 x1_2 ∧ v9 = .int .i64 x9_2 ∧ Aside0 (mizmazelaw04_ShortSmall.l1 kq x1_2 (wrap64 (1 + (Int.tmod (wrap64 (a0)) 4))) x7_1 x8_2 x9_2 x597000_1 = some r) ∧ Aside0 (kq ≤ k1) ∧ Aside0 (Kd.R (Kd.int .i64) 3 w' w.heap.size (fun _ => True) v8 x8_2) ∧ Aside0 (Kd.S (Kd.slice 3 (Kd.int .i64)) 25 w' w.heap.size (fun k_ => some k_ ≠ (v8 : Value).ownBlock) u597000 x597000_1) ∧ Aside0 (w'.heap[gb596]? = some (.cells #[u597000] 24 (0, 0))) ∧ Aside0 (Below w.heap.size w w'))
        case atStart => exact ⟨(x1_1), (([] : List Int)), (0), (by first | rfl | (simp; done) | (simp [*]; done)), (by first | rfl | (simp; done) | (simp [*]; done)), H', ⟨Nat.le_refl _⟩, ⟨by first | exact Kd.R_nil _ _ _ _ _ | exact Kd.N_nil _ _ _ _ _ | exact Kd.V_nil _ _ _ _ _ | exact Kd.Q_nil _ _ _ _ _ | exact Kd.S_nil _ _ _ _ _⟩, ⟨by (with_reducible repeat (first | apply Kd.S_alloc | apply Kd.S_drewN | apply Kd.S_drew)); exact Kd.S_mono HO_597000.out (fun _ hk => (by simp [Value.ownBlock]))⟩, ⟨by (with_reducible repeat (first | refine blk_drewN ?_ _ | refine blk_drew ?_ | refine blk_alloc ?_ _)); exact BK596.out⟩, ⟨by repeat (first | (with_reducible first | exact HB.out | apply below_alloc | apply pw_below_drewN | apply below_drew1 | refine below_set ?_ GE596.out) | exact HB.out)⟩⟩
        case round =>
          clear H'
          try clear c1
          try clear p2
          try clear c4
          try clear c4b0
          try clear p2
          obtain ⟨x1_2, x8_2, x9_2, rfl, rfl, HA, HK2, HO_8, HO_597000, BK596, HB⟩ := hrel
          cases gk with
          | zero => exact absurd HA.out (by simp [mizmazelaw04_ShortSmall.l1])
          | succ k2 =>
            have H := HA.out
            clear HA
            simp only [mizmazelaw04_ShortSmall.l1] at H
            by_cases c5 : x9_2 < 2
            · rw [if_pos c5] at H
              have c5b0 : decide (x9_2 < 2) = true := decide_eq_true c5
              clear c5
              by_cases c6 : (wrap64 (1 + (Int.tmod (wrap64 (a0)) 4))) = 0
              · rw [if_pos c6] at H
                exact absurd H (by simp)
              · rw [if_neg c6] at H
                have c6b0 : ((wrap64 (1 + (Int.tmod (wrap64 (a0)) 4))) == 0) = false := beq_eq_false_iff_ne.mpr c6
                have c6b1 : ((wrap64 (1 + (Int.tmod (wrap64 (a0)) 4))) != 0) = true := bne_iff_ne.mpr c6
                by_cases c7 : x8_2.length < 17592186044416
                · rw [if_pos c7] at H
                  have LMc7 := Aside0.mk c7
                  clear c7
                  obtain ⟨y597, hy597⟩ : ∃ y_ : List Int, y_ = (x8_2 ++ [Int.tmod (wrap64 (x1_2)) (wrap64 (1 + (Int.tmod (wrap64 (a0)) 4)))]) := ⟨_, rfl⟩
                  replace H : (if (((wrap64 (1 + (Int.tmod (wrap64 (a0)) 4)))) % 4294967296) = 0 then (none) else (mizmazelaw04_ShortSmall.l1 k2 ((Int.tdiv x1_2 (((wrap64 (1 + (Int.tmod (wrap64 (a0)) 4)))) % 4294967296)) % 4294967296) (wrap64 (1 + (Int.tmod (wrap64 (a0)) 4))) x7_1 y597 (wrap64 (x9_2 + 1)) x597000_1)) = some r := by first | (rw [hy597]; with_reducible exact H) | (have H2_ := (Option.bind_some _ _).symm.trans H; rw [hy597]; with_reducible exact H2_) | (have H2_ := (Option.bind_some _ _).symm.trans H; with_reducible exact H2_) | with_reducible exact H | (rw [hy597]; exact H) | exact H
                  have Ny597 := Aside0.mk hy597
                  clear hy597
                  by_cases c8 : (((wrap64 (1 + (Int.tmod (wrap64 (a0)) 4)))) % 4294967296) = 0
                  · rw [if_pos c8] at H
                    exact absurd H (by simp)
                  · rw [if_neg c8] at H
                    have c8b0 : ((((wrap64 (1 + (Int.tmod (wrap64 (a0)) 4)))) % 4294967296) == 0) = false := beq_eq_false_iff_ne.mpr c8
                    have c8b1 : ((((wrap64 (1 + (Int.tmod (wrap64 (a0)) 4)))) % 4294967296) != 0) = true := bne_iff_ne.mpr c8
                    have H' := Aside0.mk H
                    clear H
                    go_wp2_with (first | ((with_reducible refine gate_builtin (b := .append) (xs := #[.tmp 27, .tmp 32]) rfl ?_); (try (refine gate_guard (by rfl) ?_; dsimp only)); at_builtin; refine Kd.R_append (Kd.int .i64) (w0 := w) w.heap.size rfl (.tmp 27) (.tmp 32) 25 3 (.int .i64 0) 8 rfl Try.underlying25 info3 rfl (by decide) (by omega) u8 x8_2 (Int.tmod (wrap64 (x1_2)) (wrap64 (1 + (Int.tmod (wrap64 (a0)) 4)))) [.int .i64 (Int.tmod (wrap64 (x1_2)) (wrap64 (1 + (Int.tmod (wrap64 (a0)) 4))))] (fun _ => True) (fun _ => False) rfl rfl ?aP (fun _ hk => hk.elim) ?aF ?aO ?aB ?aS ?aL ?_; (case aP => exact rfl); (case aB => exact (by repeat (first | (with_reducible first | exact HB.out | apply below_alloc | apply pw_below_drewN | apply below_drew1 | refine below_set ?_ GE596.out) | exact HB.out))); (case aF => exact (fun _ _ => trivial)); (case aO => exact (by (with_reducible repeat (first | apply Kd.R_alloc | apply Kd.R_drewN | apply Kd.R_drew)); exact HO_8.out)); (case aS => exact (below_size (by repeat (first | (with_reducible first | exact HB.out | apply below_alloc | apply pw_below_drewN | apply below_drew1 | refine below_set ?_ GE596.out) | exact HB.out)))); (case aL => have := LMc7.out; omega); intro v598 w9 ho hb hg hat; rw [← Ny597.out] at ho; have n0_ := Aside0.mk (Kd.S_after (ok := (fun _ => True)) (by (with_reducible repeat (first | apply Kd.S_alloc | apply Kd.S_drewN | apply Kd.S_drew)); exact Kd.S_mono HO_597000.out (fun _ hk => ⟨trivial, hk⟩)) hg hat); have n1_ := Aside0.mk (blk_grown (g := gb596) (o := .cells #[u597000] 24 (0, 0)) (by (with_reducible repeat (first | refine blk_drewN ?_ _ | refine blk_drew ?_ | refine blk_alloc ?_ _)); exact BK596.out) hg (Kd.R_ne HO_8.out BK596.out (by decide))); have n2_ := Aside0.mk (hb); have n3_ := Aside0.mk (ho); clear HO_597000; clear BK596; clear HB; clear HO_8; have HO_597000 := n0_; have BK596 := n1_; have HB := n2_; have HO599 := n3_; clear n0_ n1_ n2_ n3_; clear ho hb hg hat))
                    go_roundg k2
                    case measure => have := HK1.out; have := HK2.out; omega
                    case rel => exact ⟨((Int.tdiv x1_2 (((wrap64 (1 + (Int.tmod (wrap64 (a0)) 4)))) % 4294967296)) % 4294967296), (y597), (wrap64 (x9_2 + 1)), (by first | rfl | (simp; done) | (simp [*]; done)), (by first | rfl | (simp; done) | (simp [*]; done)), H', ⟨by have := HK1.out; have := HK2.out; omega⟩, ⟨by (with_reducible repeat (first | apply Kd.R_alloc | apply Kd.R_drewN | apply Kd.R_drew)); exact HO599.out⟩, ⟨by (with_reducible repeat (first | apply Kd.S_alloc | apply Kd.S_drewN | apply Kd.S_drew)); exact Kd.S_mono HO_597000.out (fun _ hk => hk.2)⟩, ⟨by (with_reducible repeat (first | refine blk_drewN ?_ _ | refine blk_drew ?_ | refine blk_alloc ?_ _)); exact BK596.out⟩, ⟨by repeat (first | (with_reducible first | exact HB.out | apply below_alloc | apply pw_below_drewN | apply below_drew1 | refine below_set ?_ GE596.out) | exact HB.out)⟩⟩
                · rw [if_neg c7] at H
                  exact absurd H (by simp)
            · rw [if_neg c5] at H
              have c5b0 : decide (x9_2 < 2) = false := decide_eq_false c5
              clear c5
              by_cases c10 : x597000_1.length < 5864062014805
              · rw [if_pos c10] at H
                have LMc10 := Aside0.mk c10
                clear c10
                obtain ⟨y600, hy600⟩ : ∃ y_ : List (List Int), y_ = (x597000_1 ++ [x8_2]) := ⟨_, rfl⟩
                replace H : (mizmazelaw04_ShortSmall.l0 k2 x1_2 (wrap64 (1 + (Int.tmod (wrap64 (a0)) 4))) (wrap64 (x7_1 + 1)) y600) = some r := by first | (rw [hy600]; with_reducible exact H) | (have H2_ := (Option.bind_some _ _).symm.trans H; rw [hy600]; with_reducible exact H2_) | (have H2_ := (Option.bind_some _ _).symm.trans H; with_reducible exact H2_) | with_reducible exact H | (rw [hy600]; exact H) | exact H
                have Ny600 := Aside0.mk hy600
                clear hy600
                have H' := Aside0.mk H
                clear H
                have hcz11_0 : wr.cell? ⟨gb596, 0, none⟩ = some (u597000) := (blk_cell BK596.out 0).trans rfl
                have hfz11_0 := blk_frozen BK596.out 0
                obtain ⟨Ao13, co13, eo13⟩ := Kd.R_slice HO_8.out
                subst eo13
                go_wp2_with (first | ((with_reducible refine gate_builtin (b := .append) (xs := #[.tmp 39, .tmp 41]) rfl ?_); (try (refine gate_guard (by rfl) ?_; dsimp only)); at_builtin; refine Kd.S_append (Kd.slice 3 (Kd.int .i64)) (w0 := w) w.heap.size rfl (.tmp 39) (.tmp 41) 22 25 (.slice none 0 0) 24 rfl Try.underlying22 info25 rfl (by decide) (by omega) u597000 x597000_1 x8_2 [.slice Ao13 x8_2.length co13] (fun _ => True) (fun k_ => some k_ = (.slice Ao13 x8_2.length co13 : Value).ownBlock) rfl rfl ?aP (fun k_ hk_ => ((Kd.R_mono (ok' := fun k_ => ((fun _ => True)) k_ ∧ some k_ ≠ (u597000 : Value).ownBlock) (Kd.R_apart' (HO_8.out) (Kd.S_typed HO_597000.out) (by decide)) (fun k_ hk => ⟨trivial, hk.2⟩))).1 k_ hk_.symm) ?aF ?aO ?aB ?aS ?aL ?_; (case aP => exact Kd.M_row (Kd.R_mono (Kd.R_tight rfl (Kd.R_mono (ok' := fun k_ => ((fun _ => True)) k_ ∧ some k_ ≠ (u597000 : Value).ownBlock) (Kd.R_apart' (HO_8.out) (Kd.S_typed HO_597000.out) (by decide)) (fun k_ hk => ⟨trivial, hk.2⟩))) (fun _ h_ => h_))); (case aB => exact (by repeat (first | (with_reducible first | exact HB.out | apply below_alloc | apply pw_below_drewN | apply below_drew1 | refine below_set ?_ GE596.out) | exact HB.out))); (case aF => exact (fun _ _ => trivial)); (case aO => exact (by (with_reducible repeat (first | apply Kd.S_alloc | apply Kd.S_drewN | apply Kd.S_drew)); exact Kd.S_mono HO_597000.out (fun k_ hk => ⟨trivial, fun e_ => hk e_⟩))); (case aS => exact (below_size (by repeat (first | (with_reducible first | exact HB.out | apply below_alloc | apply pw_below_drewN | apply below_drew1 | refine below_set ?_ GE596.out) | exact HB.out)))); (case aL => have := LMc10.out; omega); intro v601 w12 ho hb hg hat; rw [← Ny600.out] at ho; have n0_ := Aside0.mk (blk_grown (g := gb596) (o := .cells #[u597000] 24 (0, 0)) (by (with_reducible repeat (first | refine blk_drewN ?_ _ | refine blk_drew ?_ | refine blk_alloc ?_ _)); exact BK596.out) hg (Kd.S_ne HO_597000.out BK596.out (by decide))); have n1_ := Aside0.mk (hb); have n2_ := Aside0.mk (ho); clear BK596; clear HB; clear HO_597000; clear HO_8; have BK596 := n0_; have HB := n1_; have HO602 := n2_; clear n0_ n1_ n2_; clear ho hb hg hat; obtain ⟨Ao14, co14, eo14⟩ := Kd.S_slice HO602.out; subst eo14; have hcz15_0 : w12.cell? ⟨gb596, 0, none⟩ = some (u597000) := (blk_cell BK596.out 0).trans rfl; have hfz15_0 := blk_frozen BK596.out 0))
                go_roundg k2
                case measure => have := HK1.out; have := HK2.out; omega
                case rel => exact ⟨(x1_2), (wrap64 (x7_1 + 1)), (y600), (.slice Ao14 y600.length co14), (by first | rfl | (simp; done) | (simp [*]; done)), (by first | rfl | (simp; done) | (simp [*]; done)), H', ⟨by have := HK1.out; have := HK2.out; omega⟩, ⟨by (with_reducible repeat (first | apply Kd.S_alloc | apply Kd.S_drewN | apply Kd.S_drew)); exact Kd.S_mono (Kd.S_far (p := ⟨gb596, 0, none⟩) (Kd.S_types HO602.out BK596.out (by decide)) (fun _ hk => hk.2) (.slice Ao14 y600.length co14)) (fun _ hk => trivial)⟩, ⟨by (with_reducible repeat (first | refine blk_drewN ?_ _ | refine blk_drew ?_ | refine blk_alloc ?_ _)); refine blk_put (cs := #[u597000]) ?_ 0 _ rfl; (with_reducible repeat (first | refine blk_drewN ?_ _ | refine blk_drew ?_ | refine blk_alloc ?_ _)); exact BK596.out⟩, ⟨by repeat (first | (with_reducible first | exact HB.out | apply below_alloc | apply pw_below_drewN | apply below_drew1 | refine below_set ?_ GE596.out) | exact HB.out)⟩⟩
              · rw [if_neg c10] at H
                exact absurd H (by simp)
      · rw [if_neg c4] at H
        have c4b0 : decide (x7_1 < (wrap64 (1 + (Int.tmod (wrap64 (a0)) 4)))) = false := decide_eq_false c4
        clear c4
        replace H := Option.bind_eq_some_iff.mp H
        obtain ⟨⟨t603, t606⟩, A160, H⟩ := H
        replace H : ((reset_Reset.f k1 x597000_1).bind fun bt607 => (if t606 = bt607.2 then (if t606 = 0 then (if (t603.length : Int) ≤ (wrap64 ((wrap64 ((wrap64 (1 + (Int.tmod (wrap64 (a0)) 4))) - 1)) * (wrap64 ((wrap64 (1 + (Int.tmod (wrap64 (a0)) 4))) - 1)))) then (if (t603.length : Int) ≤ (bt607.1.length : Int) then ((mizmazelaw04_awake.f k1).bind fun t611 => (some t611)) else (some false)) else (some false)) else (if t606 = 4 then ((mizmazelaw04_awake.f k1).bind fun t612 => (some t612)) else (some false))) else (some false))) = some r := H
        have A16 := Aside0.mk A160
        clear A160
        replace H := Option.bind_eq_some_iff.mp H
        obtain ⟨⟨t607, t610⟩, A170, H⟩ := H
        replace H : (if t606 = t610 then (if t606 = 0 then (if (t603.length : Int) ≤ (wrap64 ((wrap64 ((wrap64 (1 + (Int.tmod (wrap64 (a0)) 4))) - 1)) * (wrap64 ((wrap64 (1 + (Int.tmod (wrap64 (a0)) 4))) - 1)))) then (if (t603.length : Int) ≤ (t607.length : Int) then ((mizmazelaw04_awake.f k1).bind fun t611 => (some t611)) else (some false)) else (some false)) else (if t606 = 4 then ((mizmazelaw04_awake.f k1).bind fun t612 => (some t612)) else (some false))) else (some false)) = some r := H
        have A17 := Aside0.mk A170
        clear A170
        by_cases c18 : t606 = t610
        · rw [if_pos c18] at H
          have c18b0 : (t606 == t610) = true := beq_iff_eq.mpr c18
          have c18b1 : (t606 != t610) = false := bne_eq_false_iff_eq.mpr c18
          clear c18
          by_cases c19 : t606 = 0
          · rw [if_pos c19] at H
            have c19b0 : (t606 == 0) = true := beq_iff_eq.mpr c19
            have c19b1 : (t606 != 0) = false := bne_eq_false_iff_eq.mpr c19
            clear c19
            by_cases c20 : (t603.length : Int) ≤ (wrap64 ((wrap64 ((wrap64 (1 + (Int.tmod (wrap64 (a0)) 4))) - 1)) * (wrap64 ((wrap64 (1 + (Int.tmod (wrap64 (a0)) 4))) - 1))))
            · rw [if_pos c20] at H
              have c20b0 : decide ((t603.length : Int) ≤ (wrap64 ((wrap64 ((wrap64 (1 + (Int.tmod (wrap64 (a0)) 4))) - 1)) * (wrap64 ((wrap64 (1 + (Int.tmod (wrap64 (a0)) 4))) - 1))))) = true := decide_eq_true c20
              clear c20
              by_cases c21 : (t603.length : Int) ≤ (t607.length : Int)
              · rw [if_pos c21] at H
                have c21b0 : decide ((t603.length : Int) ≤ (t607.length : Int)) = true := decide_eq_true c21
                have c21b1 : decide (t603.length ≤ t607.length) = true := decide_eq_true (Int.ofNat_le.mp c21)
                clear c21
                replace H := Option.bind_eq_some_iff.mp H
                obtain ⟨t611, A220, H⟩ := H
                replace H : (some t611) = some r := H
                have A22 := Aside0.mk A220
                clear A220
                obtain rfl := Option.some.inj H
                have hcz23_0 : wr.cell? ⟨gb596, 0, none⟩ = some (u597000) := (blk_cell BK596.out 0).trans rfl
                have hfz23_0 := blk_frozen BK596.out 0
                obtain ⟨Ao24, co24, eo24⟩ := Kd.S_slice HO_597000.out
                subst eo24
                go_wp2_with (first | ((with_reducible refine gate_callee (f := 15) rfl ?_); refine goesL_ (some 46) rfl rfl Try.func15 (by kernel_rfl) rfl #[.agg #[.slice Ao24 x597000_1.length co24]] rfl (by (try simp only [List.map_toArray, List.map_cons, List.map_nil]); first | done | rfl | (simp only [List.length_drop, List.length_take]; rfl)) ?_; (with_reducible refine (short_Shortest.calls k1 _ _ x597000_1 t603 t606 _ ?side1 ?side2 A16.out).mono ?_); (case side1 => repeat (first | exact (Kd.S_reads' HO_597000.out).2.2 | (with_reducible refine Kd.C_alloc ?_ _) | (with_reducible refine Kd.C_drewN ?_ _) | (with_reducible refine Kd.C_drew ?_))); (case side2 => exact (Kd.S_reads' HO_597000.out).2.1); rintro e w25 ⟨v604, rfl, ho0, hb⟩; refine ⟨_, rfl, ?_⟩; have n0_ := Aside0.mk (Kd.S_elder' (by (with_reducible repeat (first | apply Kd.S_alloc | apply Kd.S_drewN | apply Kd.S_drew)); exact HO_597000.out) (Kd.R_base ho0) hb); have n1_ := Aside0.mk (Kd.R_lower ho0 (below_size (by repeat (first | (with_reducible first | exact HB.out | apply below_alloc | apply pw_below_drewN | apply below_drew1 | refine below_set ?_ GE596.out) | exact HB.out)))); have n2_ := Aside0.mk (blk_below (g := gb596) (o := .cells #[.slice Ao24 x597000_1.length co24] 24 (0, 0)) (by (with_reducible repeat (first | refine blk_drewN ?_ _ | refine blk_drew ?_ | refine blk_alloc ?_ _)); exact BK596.out) hb); have n3_ := Aside0.mk (below_step (by repeat (first | (with_reducible first | exact HB.out | apply below_alloc | apply pw_below_drewN | apply below_drew1 | refine below_set ?_ GE596.out) | exact HB.out)) hb); clear HO_597000; clear BK596; clear HB; have HO_597000 := n0_; have HO605 := n1_; have BK596 := n2_; have HB := n3_; clear n0_ n1_ n2_ n3_; (try clear hb); (try clear hb2); (try clear hk); (try clear hi); (try clear ho0); have hcz26_0 : w25.cell? ⟨gb596, 0, none⟩ = some (.slice Ao24 x597000_1.length co24) := (blk_cell BK596.out 0).trans rfl; have hfz26_0 := blk_frozen BK596.out 0) | ((with_reducible refine gate_callee (f := 29) rfl ?_); refine goesL_ (some 51) rfl rfl Try.func29 (by kernel_rfl) rfl #[.agg #[.slice Ao24 x597000_1.length co24]] rfl (by (try simp only [List.map_toArray, List.map_cons, List.map_nil]); first | done | rfl | (simp only [List.length_drop, List.length_take]; rfl)) ?_; (with_reducible refine (reset_Reset.calls k1 _ _ x597000_1 t607 t610 _ ?side1 ?side2 A17.out).mono ?_); (case side1 => repeat (first | exact (Kd.S_reads' HO_597000.out).2.2 | (with_reducible refine Kd.C_alloc ?_ _) | (with_reducible refine Kd.C_drewN ?_ _) | (with_reducible refine Kd.C_drew ?_))); (case side2 => exact (Kd.S_reads' HO_597000.out).2.1); rintro e w27 ⟨v608, rfl, ho0, hb⟩; refine ⟨_, rfl, ?_⟩; have n0_ := Aside0.mk (Kd.S_elder' (by (with_reducible repeat (first | apply Kd.S_alloc | apply Kd.S_drewN | apply Kd.S_drew)); exact HO_597000.out) (Kd.R_base ho0) hb); have n1_ := Aside0.mk (Kd.R_elder' (by (with_reducible repeat (first | apply Kd.R_alloc | apply Kd.R_drewN | apply Kd.R_drew)); exact HO605.out) (Kd.R_base ho0) hb); have n2_ := Aside0.mk (Kd.R_lower (Kd.R_new' ho0 (Kd.R_lt (by (with_reducible repeat (first | apply Kd.R_alloc | apply Kd.R_drewN | apply Kd.R_drew)); exact HO605.out))) (below_size (by repeat (first | (with_reducible first | exact HB.out | apply below_alloc | apply pw_below_drewN | apply below_drew1 | refine below_set ?_ GE596.out) | exact HB.out)))); have n3_ := Aside0.mk (blk_below (g := gb596) (o := .cells #[.slice Ao24 x597000_1.length co24] 24 (0, 0)) (by (with_reducible repeat (first | refine blk_drewN ?_ _ | refine blk_drew ?_ | refine blk_alloc ?_ _)); exact BK596.out) hb); have n4_ := Aside0.mk (below_step (by repeat (first | (with_reducible first | exact HB.out | apply below_alloc | apply pw_below_drewN | apply below_drew1 | refine below_set ?_ GE596.out) | exact HB.out)) hb); clear HO_597000; clear HO605; clear BK596; clear HB; have HO_597000 := n0_; have HO605 := n1_; have HO609 := n2_; have BK596 := n3_; have HB := n4_; clear n0_ n1_ n2_ n3_ n4_; (try clear hb); (try clear hb2); (try clear hk); (try clear hi); (try clear ho0); obtain ⟨Ao28, co28, eo28⟩ := Kd.R_slice HO605.out; subst eo28; obtain ⟨Ao29, co29, eo29⟩ := Kd.R_slice HO609.out; subst eo29) | (go_at_call 20; (with_reducible refine (mizmazelaw04_awake.calls k1  t611 _ A22.out).mono ?_); rintro e w30 ⟨rfl, hb⟩; have n0_ := Aside0.mk (Kd.S_below (by (with_reducible repeat (first | apply Kd.S_alloc | apply Kd.S_drewN | apply Kd.S_drew)); exact HO_597000.out) hb); have n1_ := Aside0.mk (Kd.R_below (by (with_reducible repeat (first | apply Kd.R_alloc | apply Kd.R_drewN | apply Kd.R_drew)); exact HO605.out) hb); have n2_ := Aside0.mk (Kd.R_below (by (with_reducible repeat (first | apply Kd.R_alloc | apply Kd.R_drewN | apply Kd.R_drew)); exact HO609.out) hb); have n3_ := Aside0.mk (blk_below (g := gb596) (o := .cells #[.slice Ao24 x597000_1.length co24] 24 (0, 0)) (by (with_reducible repeat (first | refine blk_drewN ?_ _ | refine blk_drew ?_ | refine blk_alloc ?_ _)); exact BK596.out) hb); have n4_ := Aside0.mk (below_step (by repeat (first | (with_reducible first | exact HB.out | apply below_alloc | apply pw_below_drewN | apply below_drew1 | refine below_set ?_ GE596.out) | exact HB.out)) hb); clear HO_597000; clear HO605; clear HO609; clear BK596; clear HB; have HO_597000 := n0_; have HO605 := n1_; have HO609 := n2_; have BK596 := n3_; have HB := n4_; clear n0_ n1_ n2_ n3_ n4_; (try clear hb); (try clear hb2); (try clear hk); (try clear hi)))
                go_ret
                exact ⟨by first | rfl | (simp [errW_none, errW_some] <;> rfl) | (simp [*, errW_none, errW_some] <;> rfl), by repeat (first | (with_reducible first | exact HB.out | apply below_alloc | apply pw_below_drewN | apply below_drew1 | refine below_set ?_ GE596.out) | exact HB.out)⟩
              · rw [if_neg c21] at H
                have c21b0 : decide ((t603.length : Int) ≤ (t607.length : Int)) = false := decide_eq_false c21
                have c21b1 : decide (t603.length ≤ t607.length) = false := decide_eq_false (fun h => c21 (Int.ofNat_le.mpr h))
                clear c21
                obtain rfl := Option.some.inj H
                have hcz31_0 : wr.cell? ⟨gb596, 0, none⟩ = some (u597000) := (blk_cell BK596.out 0).trans rfl
                have hfz31_0 := blk_frozen BK596.out 0
                obtain ⟨Ao32, co32, eo32⟩ := Kd.S_slice HO_597000.out
                subst eo32
                go_wp2_with (first | ((with_reducible refine gate_callee (f := 15) rfl ?_); refine goesL_ (some 46) rfl rfl Try.func15 (by kernel_rfl) rfl #[.agg #[.slice Ao32 x597000_1.length co32]] rfl (by (try simp only [List.map_toArray, List.map_cons, List.map_nil]); first | done | rfl | (simp only [List.length_drop, List.length_take]; rfl)) ?_; (with_reducible refine (short_Shortest.calls k1 _ _ x597000_1 t603 t606 _ ?side1 ?side2 A16.out).mono ?_); (case side1 => repeat (first | exact (Kd.S_reads' HO_597000.out).2.2 | (with_reducible refine Kd.C_alloc ?_ _) | (with_reducible refine Kd.C_drewN ?_ _) | (with_reducible refine Kd.C_drew ?_))); (case side2 => exact (Kd.S_reads' HO_597000.out).2.1); rintro e w33 ⟨v604, rfl, ho0, hb⟩; refine ⟨_, rfl, ?_⟩; have n0_ := Aside0.mk (Kd.S_elder' (by (with_reducible repeat (first | apply Kd.S_alloc | apply Kd.S_drewN | apply Kd.S_drew)); exact HO_597000.out) (Kd.R_base ho0) hb); have n1_ := Aside0.mk (Kd.R_lower ho0 (below_size (by repeat (first | (with_reducible first | exact HB.out | apply below_alloc | apply pw_below_drewN | apply below_drew1 | refine below_set ?_ GE596.out) | exact HB.out)))); have n2_ := Aside0.mk (blk_below (g := gb596) (o := .cells #[.slice Ao32 x597000_1.length co32] 24 (0, 0)) (by (with_reducible repeat (first | refine blk_drewN ?_ _ | refine blk_drew ?_ | refine blk_alloc ?_ _)); exact BK596.out) hb); have n3_ := Aside0.mk (below_step (by repeat (first | (with_reducible first | exact HB.out | apply below_alloc | apply pw_below_drewN | apply below_drew1 | refine below_set ?_ GE596.out) | exact HB.out)) hb); clear HO_597000; clear BK596; clear HB; have HO_597000 := n0_; have HO605 := n1_; have BK596 := n2_; have HB := n3_; clear n0_ n1_ n2_ n3_; (try clear hb); (try clear hb2); (try clear hk); (try clear hi); (try clear ho0); have hcz34_0 : w33.cell? ⟨gb596, 0, none⟩ = some (.slice Ao32 x597000_1.length co32) := (blk_cell BK596.out 0).trans rfl; have hfz34_0 := blk_frozen BK596.out 0) | ((with_reducible refine gate_callee (f := 29) rfl ?_); refine goesL_ (some 51) rfl rfl Try.func29 (by kernel_rfl) rfl #[.agg #[.slice Ao32 x597000_1.length co32]] rfl (by (try simp only [List.map_toArray, List.map_cons, List.map_nil]); first | done | rfl | (simp only [List.length_drop, List.length_take]; rfl)) ?_; (with_reducible refine (reset_Reset.calls k1 _ _ x597000_1 t607 t610 _ ?side1 ?side2 A17.out).mono ?_); (case side1 => repeat (first | exact (Kd.S_reads' HO_597000.out).2.2 | (with_reducible refine Kd.C_alloc ?_ _) | (with_reducible refine Kd.C_drewN ?_ _) | (with_reducible refine Kd.C_drew ?_))); (case side2 => exact (Kd.S_reads' HO_597000.out).2.1); rintro e w35 ⟨v608, rfl, ho0, hb⟩; refine ⟨_, rfl, ?_⟩; have n0_ := Aside0.mk (Kd.S_elder' (by (with_reducible repeat (first | apply Kd.S_alloc | apply Kd.S_drewN | apply Kd.S_drew)); exact HO_597000.out) (Kd.R_base ho0) hb); have n1_ := Aside0.mk (Kd.R_elder' (by (with_reducible repeat (first | apply Kd.R_alloc | apply Kd.R_drewN | apply Kd.R_drew)); exact HO605.out) (Kd.R_base ho0) hb); have n2_ := Aside0.mk (Kd.R_lower (Kd.R_new' ho0 (Kd.R_lt (by (with_reducible repeat (first | apply Kd.R_alloc | apply Kd.R_drewN | apply Kd.R_drew)); exact HO605.out))) (below_size (by repeat (first | (with_reducible first | exact HB.out | apply below_alloc | apply pw_below_drewN | apply below_drew1 | refine below_set ?_ GE596.out) | exact HB.out)))); have n3_ := Aside0.mk (blk_below (g := gb596) (o := .cells #[.slice Ao32 x597000_1.length co32] 24 (0, 0)) (by (with_reducible repeat (first | refine blk_drewN ?_ _ | refine blk_drew ?_ | refine blk_alloc ?_ _)); exact BK596.out) hb); have n4_ := Aside0.mk (below_step (by repeat (first | (with_reducible first | exact HB.out | apply below_alloc | apply pw_below_drewN | apply below_drew1 | refine below_set ?_ GE596.out) | exact HB.out)) hb); clear HO_597000; clear HO605; clear BK596; clear HB; have HO_597000 := n0_; have HO605 := n1_; have HO609 := n2_; have BK596 := n3_; have HB := n4_; clear n0_ n1_ n2_ n3_ n4_; (try clear hb); (try clear hb2); (try clear hk); (try clear hi); (try clear ho0); obtain ⟨Ao36, co36, eo36⟩ := Kd.R_slice HO605.out; subst eo36; obtain ⟨Ao37, co37, eo37⟩ := Kd.R_slice HO609.out; subst eo37))
                go_ret
                exact ⟨by first | rfl | (simp [errW_none, errW_some] <;> rfl) | (simp [*, errW_none, errW_some] <;> rfl), by repeat (first | (with_reducible first | exact HB.out | apply below_alloc | apply pw_below_drewN | apply below_drew1 | refine below_set ?_ GE596.out) | exact HB.out)⟩
            · rw [if_neg c20] at H
              have c20b0 : decide ((t603.length : Int) ≤ (wrap64 ((wrap64 ((wrap64 (1 + (Int.tmod (wrap64 (a0)) 4))) - 1)) * (wrap64 ((wrap64 (1 + (Int.tmod (wrap64 (a0)) 4))) - 1))))) = false := decide_eq_false c20
              clear c20
              obtain rfl := Option.some.inj H
              have hcz38_0 : wr.cell? ⟨gb596, 0, none⟩ = some (u597000) := (blk_cell BK596.out 0).trans rfl
              have hfz38_0 := blk_frozen BK596.out 0
              obtain ⟨Ao39, co39, eo39⟩ := Kd.S_slice HO_597000.out
              subst eo39
              go_wp2_with (first | ((with_reducible refine gate_callee (f := 15) rfl ?_); refine goesL_ (some 46) rfl rfl Try.func15 (by kernel_rfl) rfl #[.agg #[.slice Ao39 x597000_1.length co39]] rfl (by (try simp only [List.map_toArray, List.map_cons, List.map_nil]); first | done | rfl | (simp only [List.length_drop, List.length_take]; rfl)) ?_; (with_reducible refine (short_Shortest.calls k1 _ _ x597000_1 t603 t606 _ ?side1 ?side2 A16.out).mono ?_); (case side1 => repeat (first | exact (Kd.S_reads' HO_597000.out).2.2 | (with_reducible refine Kd.C_alloc ?_ _) | (with_reducible refine Kd.C_drewN ?_ _) | (with_reducible refine Kd.C_drew ?_))); (case side2 => exact (Kd.S_reads' HO_597000.out).2.1); rintro e w40 ⟨v604, rfl, ho0, hb⟩; refine ⟨_, rfl, ?_⟩; have n0_ := Aside0.mk (Kd.S_elder' (by (with_reducible repeat (first | apply Kd.S_alloc | apply Kd.S_drewN | apply Kd.S_drew)); exact HO_597000.out) (Kd.R_base ho0) hb); have n1_ := Aside0.mk (Kd.R_lower ho0 (below_size (by repeat (first | (with_reducible first | exact HB.out | apply below_alloc | apply pw_below_drewN | apply below_drew1 | refine below_set ?_ GE596.out) | exact HB.out)))); have n2_ := Aside0.mk (blk_below (g := gb596) (o := .cells #[.slice Ao39 x597000_1.length co39] 24 (0, 0)) (by (with_reducible repeat (first | refine blk_drewN ?_ _ | refine blk_drew ?_ | refine blk_alloc ?_ _)); exact BK596.out) hb); have n3_ := Aside0.mk (below_step (by repeat (first | (with_reducible first | exact HB.out | apply below_alloc | apply pw_below_drewN | apply below_drew1 | refine below_set ?_ GE596.out) | exact HB.out)) hb); clear HO_597000; clear BK596; clear HB; have HO_597000 := n0_; have HO605 := n1_; have BK596 := n2_; have HB := n3_; clear n0_ n1_ n2_ n3_; (try clear hb); (try clear hb2); (try clear hk); (try clear hi); (try clear ho0); have hcz41_0 : w40.cell? ⟨gb596, 0, none⟩ = some (.slice Ao39 x597000_1.length co39) := (blk_cell BK596.out 0).trans rfl; have hfz41_0 := blk_frozen BK596.out 0) | ((with_reducible refine gate_callee (f := 29) rfl ?_); refine goesL_ (some 51) rfl rfl Try.func29 (by kernel_rfl) rfl #[.agg #[.slice Ao39 x597000_1.length co39]] rfl (by (try simp only [List.map_toArray, List.map_cons, List.map_nil]); first | done | rfl | (simp only [List.length_drop, List.length_take]; rfl)) ?_; (with_reducible refine (reset_Reset.calls k1 _ _ x597000_1 t607 t610 _ ?side1 ?side2 A17.out).mono ?_); (case side1 => repeat (first | exact (Kd.S_reads' HO_597000.out).2.2 | (with_reducible refine Kd.C_alloc ?_ _) | (with_reducible refine Kd.C_drewN ?_ _) | (with_reducible refine Kd.C_drew ?_))); (case side2 => exact (Kd.S_reads' HO_597000.out).2.1); rintro e w42 ⟨v608, rfl, ho0, hb⟩; refine ⟨_, rfl, ?_⟩; have n0_ := Aside0.mk (Kd.S_elder' (by (with_reducible repeat (first | apply Kd.S_alloc | apply Kd.S_drewN | apply Kd.S_drew)); exact HO_597000.out) (Kd.R_base ho0) hb); have n1_ := Aside0.mk (Kd.R_elder' (by (with_reducible repeat (first | apply Kd.R_alloc | apply Kd.R_drewN | apply Kd.R_drew)); exact HO605.out) (Kd.R_base ho0) hb); have n2_ := Aside0.mk (Kd.R_lower (Kd.R_new' ho0 (Kd.R_lt (by (with_reducible repeat (first | apply Kd.R_alloc | apply Kd.R_drewN | apply Kd.R_drew)); exact HO605.out))) (below_size (by repeat (first | (with_reducible first | exact HB.out | apply below_alloc | apply pw_below_drewN | apply below_drew1 | refine below_set ?_ GE596.out) | exact HB.out)))); have n3_ := Aside0.mk (blk_below (g := gb596) (o := .cells #[.slice Ao39 x597000_1.length co39] 24 (0, 0)) (by (with_reducible repeat (first | refine blk_drewN ?_ _ | refine blk_drew ?_ | refine blk_alloc ?_ _)); exact BK596.out) hb); have n4_ := Aside0.mk (below_step (by repeat (first | (with_reducible first | exact HB.out | apply below_alloc | apply pw_below_drewN | apply below_drew1 | refine below_set ?_ GE596.out) | exact HB.out)) hb); clear HO_597000; clear HO605; clear BK596; clear HB; have HO_597000 := n0_; have HO605 := n1_; have HO609 := n2_; have BK596 := n3_; have HB := n4_; clear n0_ n1_ n2_ n3_ n4_; (try clear hb); (try clear hb2); (try clear hk); (try clear hi); (try clear ho0); obtain ⟨Ao43, co43, eo43⟩ := Kd.R_slice HO605.out; subst eo43))
              go_ret
              exact ⟨by first | rfl | (simp [errW_none, errW_some] <;> rfl) | (simp [*, errW_none, errW_some] <;> rfl), by repeat (first | (with_reducible first | exact HB.out | apply below_alloc | apply pw_below_drewN | apply below_drew1 | refine below_set ?_ GE596.out) | exact HB.out)⟩
          · rw [if_neg c19] at H
            have c19b0 : (t606 == 0) = false := beq_eq_false_iff_ne.mpr c19
            have c19b1 : (t606 != 0) = true := bne_iff_ne.mpr c19
            by_cases c44 : t606 = 4
            · rw [if_pos c44] at H
              have c44b0 : (t606 == 4) = true := beq_iff_eq.mpr c44
              have c44b1 : (t606 != 4) = false := bne_eq_false_iff_eq.mpr c44
              clear c44
              replace H := Option.bind_eq_some_iff.mp H
              obtain ⟨t612, A450, H⟩ := H
              replace H : (some t612) = some r := H
              have A45 := Aside0.mk A450
              clear A450
              obtain rfl := Option.some.inj H
              have hcz46_0 : wr.cell? ⟨gb596, 0, none⟩ = some (u597000) := (blk_cell BK596.out 0).trans rfl
              have hfz46_0 := blk_frozen BK596.out 0
              obtain ⟨Ao47, co47, eo47⟩ := Kd.S_slice HO_597000.out
              subst eo47
              go_wp2_with (first | ((with_reducible refine gate_callee (f := 15) rfl ?_); refine goesL_ (some 46) rfl rfl Try.func15 (by kernel_rfl) rfl #[.agg #[.slice Ao47 x597000_1.length co47]] rfl (by (try simp only [List.map_toArray, List.map_cons, List.map_nil]); first | done | rfl | (simp only [List.length_drop, List.length_take]; rfl)) ?_; (with_reducible refine (short_Shortest.calls k1 _ _ x597000_1 t603 t606 _ ?side1 ?side2 A16.out).mono ?_); (case side1 => repeat (first | exact (Kd.S_reads' HO_597000.out).2.2 | (with_reducible refine Kd.C_alloc ?_ _) | (with_reducible refine Kd.C_drewN ?_ _) | (with_reducible refine Kd.C_drew ?_))); (case side2 => exact (Kd.S_reads' HO_597000.out).2.1); rintro e w48 ⟨v604, rfl, ho0, hb⟩; refine ⟨_, rfl, ?_⟩; have n0_ := Aside0.mk (Kd.S_elder' (by (with_reducible repeat (first | apply Kd.S_alloc | apply Kd.S_drewN | apply Kd.S_drew)); exact HO_597000.out) (Kd.R_base ho0) hb); have n1_ := Aside0.mk (Kd.R_lower ho0 (below_size (by repeat (first | (with_reducible first | exact HB.out | apply below_alloc | apply pw_below_drewN | apply below_drew1 | refine below_set ?_ GE596.out) | exact HB.out)))); have n2_ := Aside0.mk (blk_below (g := gb596) (o := .cells #[.slice Ao47 x597000_1.length co47] 24 (0, 0)) (by (with_reducible repeat (first | refine blk_drewN ?_ _ | refine blk_drew ?_ | refine blk_alloc ?_ _)); exact BK596.out) hb); have n3_ := Aside0.mk (below_step (by repeat (first | (with_reducible first | exact HB.out | apply below_alloc | apply pw_below_drewN | apply below_drew1 | refine below_set ?_ GE596.out) | exact HB.out)) hb); clear HO_597000; clear BK596; clear HB; have HO_597000 := n0_; have HO605 := n1_; have BK596 := n2_; have HB := n3_; clear n0_ n1_ n2_ n3_; (try clear hb); (try clear hb2); (try clear hk); (try clear hi); (try clear ho0); have hcz49_0 : w48.cell? ⟨gb596, 0, none⟩ = some (.slice Ao47 x597000_1.length co47) := (blk_cell BK596.out 0).trans rfl; have hfz49_0 := blk_frozen BK596.out 0) | ((with_reducible refine gate_callee (f := 29) rfl ?_); refine goesL_ (some 51) rfl rfl Try.func29 (by kernel_rfl) rfl #[.agg #[.slice Ao47 x597000_1.length co47]] rfl (by (try simp only [List.map_toArray, List.map_cons, List.map_nil]); first | done | rfl | (simp only [List.length_drop, List.length_take]; rfl)) ?_; (with_reducible refine (reset_Reset.calls k1 _ _ x597000_1 t607 t610 _ ?side1 ?side2 A17.out).mono ?_); (case side1 => repeat (first | exact (Kd.S_reads' HO_597000.out).2.2 | (with_reducible refine Kd.C_alloc ?_ _) | (with_reducible refine Kd.C_drewN ?_ _) | (with_reducible refine Kd.C_drew ?_))); (case side2 => exact (Kd.S_reads' HO_597000.out).2.1); rintro e w50 ⟨v608, rfl, ho0, hb⟩; refine ⟨_, rfl, ?_⟩; have n0_ := Aside0.mk (Kd.S_elder' (by (with_reducible repeat (first | apply Kd.S_alloc | apply Kd.S_drewN | apply Kd.S_drew)); exact HO_597000.out) (Kd.R_base ho0) hb); have n1_ := Aside0.mk (Kd.R_elder' (by (with_reducible repeat (first | apply Kd.R_alloc | apply Kd.R_drewN | apply Kd.R_drew)); exact HO605.out) (Kd.R_base ho0) hb); have n2_ := Aside0.mk (Kd.R_lower (Kd.R_new' ho0 (Kd.R_lt (by (with_reducible repeat (first | apply Kd.R_alloc | apply Kd.R_drewN | apply Kd.R_drew)); exact HO605.out))) (below_size (by repeat (first | (with_reducible first | exact HB.out | apply below_alloc | apply pw_below_drewN | apply below_drew1 | refine below_set ?_ GE596.out) | exact HB.out)))); have n3_ := Aside0.mk (blk_below (g := gb596) (o := .cells #[.slice Ao47 x597000_1.length co47] 24 (0, 0)) (by (with_reducible repeat (first | refine blk_drewN ?_ _ | refine blk_drew ?_ | refine blk_alloc ?_ _)); exact BK596.out) hb); have n4_ := Aside0.mk (below_step (by repeat (first | (with_reducible first | exact HB.out | apply below_alloc | apply pw_below_drewN | apply below_drew1 | refine below_set ?_ GE596.out) | exact HB.out)) hb); clear HO_597000; clear HO605; clear BK596; clear HB; have HO_597000 := n0_; have HO605 := n1_; have HO609 := n2_; have BK596 := n3_; have HB := n4_; clear n0_ n1_ n2_ n3_ n4_; (try clear hb); (try clear hb2); (try clear hk); (try clear hi); (try clear ho0)) | (go_at_call 20; (with_reducible refine (mizmazelaw04_awake.calls k1  t612 _ A45.out).mono ?_); rintro e w51 ⟨rfl, hb⟩; have n0_ := Aside0.mk (Kd.S_below (by (with_reducible repeat (first | apply Kd.S_alloc | apply Kd.S_drewN | apply Kd.S_drew)); exact HO_597000.out) hb); have n1_ := Aside0.mk (Kd.R_below (by (with_reducible repeat (first | apply Kd.R_alloc | apply Kd.R_drewN | apply Kd.R_drew)); exact HO605.out) hb); have n2_ := Aside0.mk (Kd.R_below (by (with_reducible repeat (first | apply Kd.R_alloc | apply Kd.R_drewN | apply Kd.R_drew)); exact HO609.out) hb); have n3_ := Aside0.mk (blk_below (g := gb596) (o := .cells #[.slice Ao47 x597000_1.length co47] 24 (0, 0)) (by (with_reducible repeat (first | refine blk_drewN ?_ _ | refine blk_drew ?_ | refine blk_alloc ?_ _)); exact BK596.out) hb); have n4_ := Aside0.mk (below_step (by repeat (first | (with_reducible first | exact HB.out | apply below_alloc | apply pw_below_drewN | apply below_drew1 | refine below_set ?_ GE596.out) | exact HB.out)) hb); clear HO_597000; clear HO605; clear HO609; clear BK596; clear HB; have HO_597000 := n0_; have HO605 := n1_; have HO609 := n2_; have BK596 := n3_; have HB := n4_; clear n0_ n1_ n2_ n3_ n4_; (try clear hb); (try clear hb2); (try clear hk); (try clear hi)))
              go_ret
              exact ⟨by first | rfl | (simp [errW_none, errW_some] <;> rfl) | (simp [*, errW_none, errW_some] <;> rfl), by repeat (first | (with_reducible first | exact HB.out | apply below_alloc | apply pw_below_drewN | apply below_drew1 | refine below_set ?_ GE596.out) | exact HB.out)⟩
            · rw [if_neg c44] at H
              have c44b0 : (t606 == 4) = false := beq_eq_false_iff_ne.mpr c44
              have c44b1 : (t606 != 4) = true := bne_iff_ne.mpr c44
              obtain rfl := Option.some.inj H
              have hcz52_0 : wr.cell? ⟨gb596, 0, none⟩ = some (u597000) := (blk_cell BK596.out 0).trans rfl
              have hfz52_0 := blk_frozen BK596.out 0
              obtain ⟨Ao53, co53, eo53⟩ := Kd.S_slice HO_597000.out
              subst eo53
              go_wp2_with (first | ((with_reducible refine gate_callee (f := 15) rfl ?_); refine goesL_ (some 46) rfl rfl Try.func15 (by kernel_rfl) rfl #[.agg #[.slice Ao53 x597000_1.length co53]] rfl (by (try simp only [List.map_toArray, List.map_cons, List.map_nil]); first | done | rfl | (simp only [List.length_drop, List.length_take]; rfl)) ?_; (with_reducible refine (short_Shortest.calls k1 _ _ x597000_1 t603 t606 _ ?side1 ?side2 A16.out).mono ?_); (case side1 => repeat (first | exact (Kd.S_reads' HO_597000.out).2.2 | (with_reducible refine Kd.C_alloc ?_ _) | (with_reducible refine Kd.C_drewN ?_ _) | (with_reducible refine Kd.C_drew ?_))); (case side2 => exact (Kd.S_reads' HO_597000.out).2.1); rintro e w54 ⟨v604, rfl, ho0, hb⟩; refine ⟨_, rfl, ?_⟩; have n0_ := Aside0.mk (Kd.S_elder' (by (with_reducible repeat (first | apply Kd.S_alloc | apply Kd.S_drewN | apply Kd.S_drew)); exact HO_597000.out) (Kd.R_base ho0) hb); have n1_ := Aside0.mk (Kd.R_lower ho0 (below_size (by repeat (first | (with_reducible first | exact HB.out | apply below_alloc | apply pw_below_drewN | apply below_drew1 | refine below_set ?_ GE596.out) | exact HB.out)))); have n2_ := Aside0.mk (blk_below (g := gb596) (o := .cells #[.slice Ao53 x597000_1.length co53] 24 (0, 0)) (by (with_reducible repeat (first | refine blk_drewN ?_ _ | refine blk_drew ?_ | refine blk_alloc ?_ _)); exact BK596.out) hb); have n3_ := Aside0.mk (below_step (by repeat (first | (with_reducible first | exact HB.out | apply below_alloc | apply pw_below_drewN | apply below_drew1 | refine below_set ?_ GE596.out) | exact HB.out)) hb); clear HO_597000; clear BK596; clear HB; have HO_597000 := n0_; have HO605 := n1_; have BK596 := n2_; have HB := n3_; clear n0_ n1_ n2_ n3_; (try clear hb); (try clear hb2); (try clear hk); (try clear hi); (try clear ho0); have hcz55_0 : w54.cell? ⟨gb596, 0, none⟩ = some (.slice Ao53 x597000_1.length co53) := (blk_cell BK596.out 0).trans rfl; have hfz55_0 := blk_frozen BK596.out 0) | ((with_reducible refine gate_callee (f := 29) rfl ?_); refine goesL_ (some 51) rfl rfl Try.func29 (by kernel_rfl) rfl #[.agg #[.slice Ao53 x597000_1.length co53]] rfl (by (try simp only [List.map_toArray, List.map_cons, List.map_nil]); first | done | rfl | (simp only [List.length_drop, List.length_take]; rfl)) ?_; (with_reducible refine (reset_Reset.calls k1 _ _ x597000_1 t607 t610 _ ?side1 ?side2 A17.out).mono ?_); (case side1 => repeat (first | exact (Kd.S_reads' HO_597000.out).2.2 | (with_reducible refine Kd.C_alloc ?_ _) | (with_reducible refine Kd.C_drewN ?_ _) | (with_reducible refine Kd.C_drew ?_))); (case side2 => exact (Kd.S_reads' HO_597000.out).2.1); rintro e w56 ⟨v608, rfl, ho0, hb⟩; refine ⟨_, rfl, ?_⟩; have n0_ := Aside0.mk (Kd.S_elder' (by (with_reducible repeat (first | apply Kd.S_alloc | apply Kd.S_drewN | apply Kd.S_drew)); exact HO_597000.out) (Kd.R_base ho0) hb); have n1_ := Aside0.mk (Kd.R_elder' (by (with_reducible repeat (first | apply Kd.R_alloc | apply Kd.R_drewN | apply Kd.R_drew)); exact HO605.out) (Kd.R_base ho0) hb); have n2_ := Aside0.mk (Kd.R_lower (Kd.R_new' ho0 (Kd.R_lt (by (with_reducible repeat (first | apply Kd.R_alloc | apply Kd.R_drewN | apply Kd.R_drew)); exact HO605.out))) (below_size (by repeat (first | (with_reducible first | exact HB.out | apply below_alloc | apply pw_below_drewN | apply below_drew1 | refine below_set ?_ GE596.out) | exact HB.out)))); have n3_ := Aside0.mk (blk_below (g := gb596) (o := .cells #[.slice Ao53 x597000_1.length co53] 24 (0, 0)) (by (with_reducible repeat (first | refine blk_drewN ?_ _ | refine blk_drew ?_ | refine blk_alloc ?_ _)); exact BK596.out) hb); have n4_ := Aside0.mk (below_step (by repeat (first | (with_reducible first | exact HB.out | apply below_alloc | apply pw_below_drewN | apply below_drew1 | refine below_set ?_ GE596.out) | exact HB.out)) hb); clear HO_597000; clear HO605; clear BK596; clear HB; have HO_597000 := n0_; have HO605 := n1_; have HO609 := n2_; have BK596 := n3_; have HB := n4_; clear n0_ n1_ n2_ n3_ n4_; (try clear hb); (try clear hb2); (try clear hk); (try clear hi); (try clear ho0)))
              go_ret
              exact ⟨by first | rfl | (simp [errW_none, errW_some] <;> rfl) | (simp [*, errW_none, errW_some] <;> rfl), by repeat (first | (with_reducible first | exact HB.out | apply below_alloc | apply pw_below_drewN | apply below_drew1 | refine below_set ?_ GE596.out) | exact HB.out)⟩
        · rw [if_neg c18] at H
          have c18b0 : (t606 == t610) = false := beq_eq_false_iff_ne.mpr c18
          have c18b1 : (t606 != t610) = true := bne_iff_ne.mpr c18
          obtain rfl := Option.some.inj H
          have hcz57_0 : wr.cell? ⟨gb596, 0, none⟩ = some (u597000) := (blk_cell BK596.out 0).trans rfl
          have hfz57_0 := blk_frozen BK596.out 0
          obtain ⟨Ao58, co58, eo58⟩ := Kd.S_slice HO_597000.out
          subst eo58
          go_wp2_with (first | ((with_reducible refine gate_callee (f := 15) rfl ?_); refine goesL_ (some 46) rfl rfl Try.func15 (by kernel_rfl) rfl #[.agg #[.slice Ao58 x597000_1.length co58]] rfl (by (try simp only [List.map_toArray, List.map_cons, List.map_nil]); first | done | rfl | (simp only [List.length_drop, List.length_take]; rfl)) ?_; (with_reducible refine (short_Shortest.calls k1 _ _ x597000_1 t603 t606 _ ?side1 ?side2 A16.out).mono ?_); (case side1 => repeat (first | exact (Kd.S_reads' HO_597000.out).2.2 | (with_reducible refine Kd.C_alloc ?_ _) | (with_reducible refine Kd.C_drewN ?_ _) | (with_reducible refine Kd.C_drew ?_))); (case side2 => exact (Kd.S_reads' HO_597000.out).2.1); rintro e w59 ⟨v604, rfl, ho0, hb⟩; refine ⟨_, rfl, ?_⟩; have n0_ := Aside0.mk (Kd.S_elder' (by (with_reducible repeat (first | apply Kd.S_alloc | apply Kd.S_drewN | apply Kd.S_drew)); exact HO_597000.out) (Kd.R_base ho0) hb); have n1_ := Aside0.mk (Kd.R_lower ho0 (below_size (by repeat (first | (with_reducible first | exact HB.out | apply below_alloc | apply pw_below_drewN | apply below_drew1 | refine below_set ?_ GE596.out) | exact HB.out)))); have n2_ := Aside0.mk (blk_below (g := gb596) (o := .cells #[.slice Ao58 x597000_1.length co58] 24 (0, 0)) (by (with_reducible repeat (first | refine blk_drewN ?_ _ | refine blk_drew ?_ | refine blk_alloc ?_ _)); exact BK596.out) hb); have n3_ := Aside0.mk (below_step (by repeat (first | (with_reducible first | exact HB.out | apply below_alloc | apply pw_below_drewN | apply below_drew1 | refine below_set ?_ GE596.out) | exact HB.out)) hb); clear HO_597000; clear BK596; clear HB; have HO_597000 := n0_; have HO605 := n1_; have BK596 := n2_; have HB := n3_; clear n0_ n1_ n2_ n3_; (try clear hb); (try clear hb2); (try clear hk); (try clear hi); (try clear ho0); have hcz60_0 : w59.cell? ⟨gb596, 0, none⟩ = some (.slice Ao58 x597000_1.length co58) := (blk_cell BK596.out 0).trans rfl; have hfz60_0 := blk_frozen BK596.out 0) | ((with_reducible refine gate_callee (f := 29) rfl ?_); refine goesL_ (some 51) rfl rfl Try.func29 (by kernel_rfl) rfl #[.agg #[.slice Ao58 x597000_1.length co58]] rfl (by (try simp only [List.map_toArray, List.map_cons, List.map_nil]); first | done | rfl | (simp only [List.length_drop, List.length_take]; rfl)) ?_; (with_reducible refine (reset_Reset.calls k1 _ _ x597000_1 t607 t610 _ ?side1 ?side2 A17.out).mono ?_); (case side1 => repeat (first | exact (Kd.S_reads' HO_597000.out).2.2 | (with_reducible refine Kd.C_alloc ?_ _) | (with_reducible refine Kd.C_drewN ?_ _) | (with_reducible refine Kd.C_drew ?_))); (case side2 => exact (Kd.S_reads' HO_597000.out).2.1); rintro e w61 ⟨v608, rfl, ho0, hb⟩; refine ⟨_, rfl, ?_⟩; have n0_ := Aside0.mk (Kd.S_elder' (by (with_reducible repeat (first | apply Kd.S_alloc | apply Kd.S_drewN | apply Kd.S_drew)); exact HO_597000.out) (Kd.R_base ho0) hb); have n1_ := Aside0.mk (Kd.R_elder' (by (with_reducible repeat (first | apply Kd.R_alloc | apply Kd.R_drewN | apply Kd.R_drew)); exact HO605.out) (Kd.R_base ho0) hb); have n2_ := Aside0.mk (Kd.R_lower (Kd.R_new' ho0 (Kd.R_lt (by (with_reducible repeat (first | apply Kd.R_alloc | apply Kd.R_drewN | apply Kd.R_drew)); exact HO605.out))) (below_size (by repeat (first | (with_reducible first | exact HB.out | apply below_alloc | apply pw_below_drewN | apply below_drew1 | refine below_set ?_ GE596.out) | exact HB.out)))); have n3_ := Aside0.mk (blk_below (g := gb596) (o := .cells #[.slice Ao58 x597000_1.length co58] 24 (0, 0)) (by (with_reducible repeat (first | refine blk_drewN ?_ _ | refine blk_drew ?_ | refine blk_alloc ?_ _)); exact BK596.out) hb); have n4_ := Aside0.mk (below_step (by repeat (first | (with_reducible first | exact HB.out | apply below_alloc | apply pw_below_drewN | apply below_drew1 | refine below_set ?_ GE596.out) | exact HB.out)) hb); clear HO_597000; clear HO605; clear BK596; clear HB; have HO_597000 := n0_; have HO605 := n1_; have HO609 := n2_; have BK596 := n3_; have HB := n4_; clear n0_ n1_ n2_ n3_ n4_; (try clear hb); (try clear hb2); (try clear hk); (try clear hi); (try clear ho0)))
          go_ret
          exact ⟨by first | rfl | (simp [errW_none, errW_some] <;> rfl) | (simp [*, errW_none, errW_some] <;> rfl), by repeat (first | (with_reducible first | exact HB.out | apply below_alloc | apply pw_below_drewN | apply below_drew1 | refine below_set ?_ GE596.out) | exact HB.out)⟩

end Go.Proofs.Ytogoppejcmaocaa.Q
end
