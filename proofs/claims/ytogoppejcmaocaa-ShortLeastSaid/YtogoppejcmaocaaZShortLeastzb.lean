/- No word leads from all states to fewer states than the rank; a reset word is not shorter than the shortest one and does not come before it; the rank is 1 exactly if there is a reset word, for any automaton and word. (text 28 of 35) -/
import Derived.Test.YtogoppejcmaocaaZShortLeastg
import Derived.Test.YtogoppejcmaocaaZShortLeastz
import Derived.Test.YtogoppejcmaocaaZShortLeastw
/-! Part QLaw04ShortLeast -/
section
-- Written by xprint.py, a program of this session's, over the kit's print. Lean checks it.
namespace Go.Proofs.Ytogoppejcmaocaa.Q
open Go.RowKit Go.Proofs.YtogoppejcmaocaaW.PrintWords Go.Proofs.YtogoppejcmaocaaW.PrintLast Go.Proofs.YtogoppejcmaocaaW.PrintMore
attribute [local go_sem] max2_int min2_int max_two min_two max_three min_three max_four min_four
set_option linter.unusedVariables false
set_option linter.unusedSimpArgs false

/-! ### mizmazelaw04_ShortLeast: function 11 -/
mutual
def mizmazelaw04_ShortLeast.j0 : Nat → List Int → Bool → List (List Int) → Option (Bool)
  | 0, _, _, _ => none
  | k + 1, x1, x27, x834000 => if x27 = true then ((mizmazelaw04_awake.f k).bind fun t836 => (some t836)) else ((mizmazeref01_All.f k (x834000.length : Int)).bind fun t837 => ((short_Shortest.f k x834000).bind fun bt840 => ((short_Rank.f k x834000).bind fun bt844 => (if bt844.2.2 = 0 then (if bt840.2 = 0 then (mizmazelaw04_ShortLeast.j1 k x1 t837 bt840.1 bt840.2 bt844.1 bt844.2.1 ((bt840.2 == 0) != (bt844.1 == 1)) x834000) else (if bt840.2 = 4 then (mizmazelaw04_ShortLeast.j1 k x1 t837 bt840.1 bt840.2 bt844.1 bt844.2.1 ((bt840.2 == 0) != (bt844.1 == 1)) x834000) else (mizmazelaw04_ShortLeast.j1 k x1 t837 bt840.1 bt840.2 bt844.1 bt844.2.1 true x834000))) else (mizmazelaw04_ShortLeast.j1 k x1 t837 bt840.1 bt840.2 bt844.1 bt844.2.1 true x834000)))))
def mizmazelaw04_ShortLeast.j1 : Nat → List Int → List Int → List Int → Int → Int → List Int → Bool → List (List Int) → Option (Bool)
  | 0, _, _, _, _, _, _, _, _ => none
  | k + 1, x1, x5, x6, x7, x8, x9, x60, x834000 => if x60 = true then (some false) else ((auto_Image.f k x834000 x5 x9).bind fun bt849 => (if bt849.2 = 0 then (mizmazelaw04_ShortLeast.j2 k x1 x5 x6 x7 x8 x9 ((bt849.1.length : Int) != x8) x834000) else (mizmazelaw04_ShortLeast.j2 k x1 x5 x6 x7 x8 x9 true x834000)))
def mizmazelaw04_ShortLeast.j2 : Nat → List Int → List Int → List Int → Int → Int → List Int → Bool → List (List Int) → Option (Bool)
  | 0, _, _, _, _, _, _, _, _ => none
  | k + 1, x1, x5, x6, x7, x8, x9, x75, x834000 => if x75 = true then (some false) else (if x7 = 0 then ((mizmazeref01_Same.f k x6 x9).bind fun t853 => (mizmazelaw04_ShortLeast.j3 k x1 x5 x8 x9 (!t853) x834000)) else (mizmazelaw04_ShortLeast.j3 k x1 x5 x8 x9 false x834000))
def mizmazelaw04_ShortLeast.j3 : Nat → List Int → List Int → Int → List Int → Bool → List (List Int) → Option (Bool)
  | 0, _, _, _, _, _, _ => none
  | k + 1, x1, x5, x8, x9, x83, x834000 => if x83 = true then (some false) else ((auto_Image.f k x834000 x5 x1).bind fun bt854 => (if bt854.2 = 0 then (mizmazelaw04_ShortLeast.j4 k x1 x8 x9 bt854.1 (decide ((bt854.1.length : Int) < x8))) else (mizmazelaw04_ShortLeast.j4 k x1 x8 x9 bt854.1 true)))
def mizmazelaw04_ShortLeast.j4 : Nat → List Int → Int → List Int → List Int → Bool → Option (Bool)
  | 0, _, _, _, _, _ => none
  | k + 1, x1, x8, x9, x11, x98 => if x98 = true then (some false) else (if (x11.length : Int) > x8 then ((mizmazelaw04_awake.f k).bind fun t858 => (some t858)) else (if (x1.length : Int) > (x9.length : Int) then ((mizmazelaw04_awake.f k).bind fun t859 => (some t859)) else (if (x1.length : Int) = (x9.length : Int) then ((mizmazeref01_Before.f k x1 x9).bind fun t860 => (if t860 = true then (some false) else ((mizmazelaw04_awake.f k).bind fun t861 => (some t861)))) else (some false))))
end
def mizmazelaw04_ShortLeast.f (k : Nat) (l0_0 : List (List Int)) (l1 : List Int) : Option (Bool) := (mizmazeref01_Valid.f k l0_0).bind fun t834 => (if t834 = true then (if (l0_0.length : Int) > 12 then (mizmazelaw04_ShortLeast.j0 k l1 true l0_0) else ((mizmazeref01_Word.f k l0_0 l1).bind fun t835 => (mizmazelaw04_ShortLeast.j0 k l1 (!t835) l0_0))) else (mizmazelaw04_ShortLeast.j0 k l1 true l0_0))
theorem mizmazelaw04_ShortLeast.mono_l : ∀ k, (∀ y0 y1 y2, LeO (mizmazelaw04_ShortLeast.j0 k y0 y1 y2) (mizmazelaw04_ShortLeast.j0 (k + 1) y0 y1 y2)) ∧ (∀ y0 y1 y2 y3 y4 y5 y6 y7, LeO (mizmazelaw04_ShortLeast.j1 k y0 y1 y2 y3 y4 y5 y6 y7) (mizmazelaw04_ShortLeast.j1 (k + 1) y0 y1 y2 y3 y4 y5 y6 y7)) ∧ (∀ y0 y1 y2 y3 y4 y5 y6 y7, LeO (mizmazelaw04_ShortLeast.j2 k y0 y1 y2 y3 y4 y5 y6 y7) (mizmazelaw04_ShortLeast.j2 (k + 1) y0 y1 y2 y3 y4 y5 y6 y7)) ∧ (∀ y0 y1 y2 y3 y4 y5, LeO (mizmazelaw04_ShortLeast.j3 k y0 y1 y2 y3 y4 y5) (mizmazelaw04_ShortLeast.j3 (k + 1) y0 y1 y2 y3 y4 y5)) ∧ (∀ y0 y1 y2 y3 y4, LeO (mizmazelaw04_ShortLeast.j4 k y0 y1 y2 y3 y4) (mizmazelaw04_ShortLeast.j4 (k + 1) y0 y1 y2 y3 y4))
  | 0 => ⟨fun _ _ _ r h => by simp [mizmazelaw04_ShortLeast.j0] at h, fun _ _ _ _ _ _ _ _ r h => by simp [mizmazelaw04_ShortLeast.j1] at h, fun _ _ _ _ _ _ _ _ r h => by simp [mizmazelaw04_ShortLeast.j2] at h, fun _ _ _ _ _ _ r h => by simp [mizmazelaw04_ShortLeast.j3] at h, fun _ _ _ _ _ r h => by simp [mizmazelaw04_ShortLeast.j4] at h⟩
  | k + 1 => by
    obtain ⟨ih0, ih1, ih2, ih3, ih4⟩ := mizmazelaw04_ShortLeast.mono_l k
    refine ⟨?_, ?_, ?_, ?_, ?_⟩
    · intro y0 y1 y2
      unfold mizmazelaw04_ShortLeast.j0
      repeat' first
      | (with_reducible exact ih0 _ _ _)
      | (with_reducible exact ih1 _ _ _ _ _ _ _ _)
      | (with_reducible exact ih2 _ _ _ _ _ _ _ _)
      | (with_reducible exact ih3 _ _ _ _ _ _)
      | (with_reducible exact ih4 _ _ _ _ _)
      | (with_reducible exact auto_Image.mono _ _ _ _)
      | (with_reducible exact mizmazelaw04_awake.mono _)
      | (with_reducible exact mizmazeref01_All.mono _ _)
      | (with_reducible exact mizmazeref01_Before.mono _ _ _)
      | (with_reducible exact mizmazeref01_Same.mono _ _ _)
      | (with_reducible exact mizmazeref01_Valid.mono _ _)
      | (with_reducible exact mizmazeref01_Word.mono _ _ _)
      | (with_reducible exact short_Rank.mono _ _)
      | (with_reducible exact short_Shortest.mono _ _)
      | (with_reducible exact LeO.refl _)
      | (with_reducible exact LeO.none _)
      | (with_reducible refine LeO.ite ?_ ?_)
      | (with_reducible refine LeO.bind ?_ (fun _ => ?_))
      | exact ih0 _ _ _
      | exact ih1 _ _ _ _ _ _ _ _
      | exact ih2 _ _ _ _ _ _ _ _
      | exact ih3 _ _ _ _ _ _
      | exact ih4 _ _ _ _ _
      | exact auto_Image.mono _ _ _ _
      | exact mizmazelaw04_awake.mono _
      | exact mizmazeref01_All.mono _ _
      | exact mizmazeref01_Before.mono _ _ _
      | exact mizmazeref01_Same.mono _ _ _
      | exact mizmazeref01_Valid.mono _ _
      | exact mizmazeref01_Word.mono _ _ _
      | exact short_Rank.mono _ _
      | exact short_Shortest.mono _ _
      | exact LeO.none _
      | refine LeO.ite ?_ ?_
      | refine LeO.bind ?_ (fun _ => ?_)
    · intro y0 y1 y2 y3 y4 y5 y6 y7
      unfold mizmazelaw04_ShortLeast.j1
      repeat' first
      | (with_reducible exact ih0 _ _ _)
      | (with_reducible exact ih1 _ _ _ _ _ _ _ _)
      | (with_reducible exact ih2 _ _ _ _ _ _ _ _)
      | (with_reducible exact ih3 _ _ _ _ _ _)
      | (with_reducible exact ih4 _ _ _ _ _)
      | (with_reducible exact auto_Image.mono _ _ _ _)
      | (with_reducible exact mizmazelaw04_awake.mono _)
      | (with_reducible exact mizmazeref01_All.mono _ _)
      | (with_reducible exact mizmazeref01_Before.mono _ _ _)
      | (with_reducible exact mizmazeref01_Same.mono _ _ _)
      | (with_reducible exact mizmazeref01_Valid.mono _ _)
      | (with_reducible exact mizmazeref01_Word.mono _ _ _)
      | (with_reducible exact short_Rank.mono _ _)
      | (with_reducible exact short_Shortest.mono _ _)
      | (with_reducible exact LeO.refl _)
      | (with_reducible exact LeO.none _)
      | (with_reducible refine LeO.ite ?_ ?_)
      | (with_reducible refine LeO.bind ?_ (fun _ => ?_))
      | exact ih0 _ _ _
      | exact ih1 _ _ _ _ _ _ _ _
      | exact ih2 _ _ _ _ _ _ _ _
      | exact ih3 _ _ _ _ _ _
      | exact ih4 _ _ _ _ _
      | exact auto_Image.mono _ _ _ _
      | exact mizmazelaw04_awake.mono _
      | exact mizmazeref01_All.mono _ _
      | exact mizmazeref01_Before.mono _ _ _
      | exact mizmazeref01_Same.mono _ _ _
      | exact mizmazeref01_Valid.mono _ _
      | exact mizmazeref01_Word.mono _ _ _
      | exact short_Rank.mono _ _
      | exact short_Shortest.mono _ _
      | exact LeO.none _
      | refine LeO.ite ?_ ?_
      | refine LeO.bind ?_ (fun _ => ?_)
    · intro y0 y1 y2 y3 y4 y5 y6 y7
      unfold mizmazelaw04_ShortLeast.j2
      repeat' first
      | (with_reducible exact ih0 _ _ _)
      | (with_reducible exact ih1 _ _ _ _ _ _ _ _)
      | (with_reducible exact ih2 _ _ _ _ _ _ _ _)
      | (with_reducible exact ih3 _ _ _ _ _ _)
      | (with_reducible exact ih4 _ _ _ _ _)
      | (with_reducible exact auto_Image.mono _ _ _ _)
      | (with_reducible exact mizmazelaw04_awake.mono _)
      | (with_reducible exact mizmazeref01_All.mono _ _)
      | (with_reducible exact mizmazeref01_Before.mono _ _ _)
      | (with_reducible exact mizmazeref01_Same.mono _ _ _)
      | (with_reducible exact mizmazeref01_Valid.mono _ _)
      | (with_reducible exact mizmazeref01_Word.mono _ _ _)
      | (with_reducible exact short_Rank.mono _ _)
      | (with_reducible exact short_Shortest.mono _ _)
      | (with_reducible exact LeO.refl _)
      | (with_reducible exact LeO.none _)
      | (with_reducible refine LeO.ite ?_ ?_)
      | (with_reducible refine LeO.bind ?_ (fun _ => ?_))
      | exact ih0 _ _ _
      | exact ih1 _ _ _ _ _ _ _ _
      | exact ih2 _ _ _ _ _ _ _ _
      | exact ih3 _ _ _ _ _ _
      | exact ih4 _ _ _ _ _
      | exact auto_Image.mono _ _ _ _
      | exact mizmazelaw04_awake.mono _
      | exact mizmazeref01_All.mono _ _
      | exact mizmazeref01_Before.mono _ _ _
      | exact mizmazeref01_Same.mono _ _ _
      | exact mizmazeref01_Valid.mono _ _
      | exact mizmazeref01_Word.mono _ _ _
      | exact short_Rank.mono _ _
      | exact short_Shortest.mono _ _
      | exact LeO.none _
      | refine LeO.ite ?_ ?_
      | refine LeO.bind ?_ (fun _ => ?_)
    · intro y0 y1 y2 y3 y4 y5
      unfold mizmazelaw04_ShortLeast.j3
      repeat' first
      | (with_reducible exact ih0 _ _ _)
      | (with_reducible exact ih1 _ _ _ _ _ _ _ _)
      | (with_reducible exact ih2 _ _ _ _ _ _ _ _)
      | (with_reducible exact ih3 _ _ _ _ _ _)
      | (with_reducible exact ih4 _ _ _ _ _)
      | (with_reducible exact auto_Image.mono _ _ _ _)
      | (with_reducible exact mizmazelaw04_awake.mono _)
      | (with_reducible exact mizmazeref01_All.mono _ _)
      | (with_reducible exact mizmazeref01_Before.mono _ _ _)
      | (with_reducible exact mizmazeref01_Same.mono _ _ _)
      | (with_reducible exact mizmazeref01_Valid.mono _ _)
      | (with_reducible exact mizmazeref01_Word.mono _ _ _)
      | (with_reducible exact short_Rank.mono _ _)
      | (with_reducible exact short_Shortest.mono _ _)
      | (with_reducible exact LeO.refl _)
      | (with_reducible exact LeO.none _)
      | (with_reducible refine LeO.ite ?_ ?_)
      | (with_reducible refine LeO.bind ?_ (fun _ => ?_))
      | exact ih0 _ _ _
      | exact ih1 _ _ _ _ _ _ _ _
      | exact ih2 _ _ _ _ _ _ _ _
      | exact ih3 _ _ _ _ _ _
      | exact ih4 _ _ _ _ _
      | exact auto_Image.mono _ _ _ _
      | exact mizmazelaw04_awake.mono _
      | exact mizmazeref01_All.mono _ _
      | exact mizmazeref01_Before.mono _ _ _
      | exact mizmazeref01_Same.mono _ _ _
      | exact mizmazeref01_Valid.mono _ _
      | exact mizmazeref01_Word.mono _ _ _
      | exact short_Rank.mono _ _
      | exact short_Shortest.mono _ _
      | exact LeO.none _
      | refine LeO.ite ?_ ?_
      | refine LeO.bind ?_ (fun _ => ?_)
    · intro y0 y1 y2 y3 y4
      unfold mizmazelaw04_ShortLeast.j4
      repeat' first
      | (with_reducible exact ih0 _ _ _)
      | (with_reducible exact ih1 _ _ _ _ _ _ _ _)
      | (with_reducible exact ih2 _ _ _ _ _ _ _ _)
      | (with_reducible exact ih3 _ _ _ _ _ _)
      | (with_reducible exact ih4 _ _ _ _ _)
      | (with_reducible exact auto_Image.mono _ _ _ _)
      | (with_reducible exact mizmazelaw04_awake.mono _)
      | (with_reducible exact mizmazeref01_All.mono _ _)
      | (with_reducible exact mizmazeref01_Before.mono _ _ _)
      | (with_reducible exact mizmazeref01_Same.mono _ _ _)
      | (with_reducible exact mizmazeref01_Valid.mono _ _)
      | (with_reducible exact mizmazeref01_Word.mono _ _ _)
      | (with_reducible exact short_Rank.mono _ _)
      | (with_reducible exact short_Shortest.mono _ _)
      | (with_reducible exact LeO.refl _)
      | (with_reducible exact LeO.none _)
      | (with_reducible refine LeO.ite ?_ ?_)
      | (with_reducible refine LeO.bind ?_ (fun _ => ?_))
      | exact ih0 _ _ _
      | exact ih1 _ _ _ _ _ _ _ _
      | exact ih2 _ _ _ _ _ _ _ _
      | exact ih3 _ _ _ _ _ _
      | exact ih4 _ _ _ _ _
      | exact auto_Image.mono _ _ _ _
      | exact mizmazelaw04_awake.mono _
      | exact mizmazeref01_All.mono _ _
      | exact mizmazeref01_Before.mono _ _ _
      | exact mizmazeref01_Same.mono _ _ _
      | exact mizmazeref01_Valid.mono _ _
      | exact mizmazeref01_Word.mono _ _ _
      | exact short_Rank.mono _ _
      | exact short_Shortest.mono _ _
      | exact LeO.none _
      | refine LeO.ite ?_ ?_
      | refine LeO.bind ?_ (fun _ => ?_)
theorem mizmazelaw04_ShortLeast.mono : ∀ a0 a1 k, LeO (mizmazelaw04_ShortLeast.f k a0 a1) (mizmazelaw04_ShortLeast.f (k + 1) a0 a1) := by
  intro a0 a1 k
  obtain ⟨ih0, ih1, ih2, ih3, ih4⟩ := mizmazelaw04_ShortLeast.mono_l k
  unfold mizmazelaw04_ShortLeast.f
  repeat' first
      | (with_reducible exact ih0 _ _ _)
      | (with_reducible exact ih1 _ _ _ _ _ _ _ _)
      | (with_reducible exact ih2 _ _ _ _ _ _ _ _)
      | (with_reducible exact ih3 _ _ _ _ _ _)
      | (with_reducible exact ih4 _ _ _ _ _)
      | (with_reducible exact auto_Image.mono _ _ _ _)
      | (with_reducible exact mizmazelaw04_awake.mono _)
      | (with_reducible exact mizmazeref01_All.mono _ _)
      | (with_reducible exact mizmazeref01_Before.mono _ _ _)
      | (with_reducible exact mizmazeref01_Same.mono _ _ _)
      | (with_reducible exact mizmazeref01_Valid.mono _ _)
      | (with_reducible exact mizmazeref01_Word.mono _ _ _)
      | (with_reducible exact short_Rank.mono _ _)
      | (with_reducible exact short_Shortest.mono _ _)
      | (with_reducible exact LeO.refl _)
      | (with_reducible exact LeO.none _)
      | (with_reducible refine LeO.ite ?_ ?_)
      | (with_reducible refine LeO.bind ?_ (fun _ => ?_))
      | exact ih0 _ _ _
      | exact ih1 _ _ _ _ _ _ _ _
      | exact ih2 _ _ _ _ _ _ _ _
      | exact ih3 _ _ _ _ _ _
      | exact ih4 _ _ _ _ _
      | exact auto_Image.mono _ _ _ _
      | exact mizmazelaw04_awake.mono _
      | exact mizmazeref01_All.mono _ _
      | exact mizmazeref01_Before.mono _ _ _
      | exact mizmazeref01_Same.mono _ _ _
      | exact mizmazeref01_Valid.mono _ _
      | exact mizmazeref01_Word.mono _ _ _
      | exact short_Rank.mono _ _
      | exact short_Shortest.mono _ _
      | exact LeO.none _
      | refine LeO.ite ?_ ?_
      | refine LeO.bind ?_ (fun _ => ?_)
set_option maxHeartbeats 8000000 in
set_option maxRecDepth 100000 in
theorem mizmazelaw04_ShortLeast.calls (k : Nat) (A0_0 : Option Addr) (c0_0 : Nat) (l0_0 : List (List Int)) (A1 : Option Addr) (c1 : Nat) (l1 : List Int) (r : Bool) (w : World) (hr0_0 : Kd.C (Kd.slice 3 (Kd.int .i64)) w A0_0 l0_0.length l0_0) (hc0_0 : l0_0.length ≤ c0_0) (hr1 : Kd.C (Kd.int .i64) w A1 l1.length l1) (hc1 : l1.length ≤ c1) (h : mizmazelaw04_ShortLeast.f k l0_0 l1 = some r) :
    Calls Try.prog 11 #[.agg #[.slice A0_0 l0_0.length c0_0], .slice A1 l1.length c1] w fun e w' => e = .returned (.bool r) ∧ Below w.heap.size w w' := by
  have hu24 := Try.underlying24
  have HR0_0 := Aside0.mk hr0_0
  have HC0_0 := Aside0.mk hc0_0
  clear hr0_0 hc0_0
  have HR1 := Aside0.mk hr1
  have HC1 := Aside0.mk hc1
  clear hr1 hc1
  have HB := Aside0.mk (Below.refl w.heap.size w)
  have H : ((mizmazeref01_Valid.f k l0_0).bind fun t834 => (if t834 = true then (if (l0_0.length : Int) > 12 then (mizmazelaw04_ShortLeast.j0 k l1 true l0_0) else ((mizmazeref01_Word.f k l0_0 l1).bind fun t835 => (mizmazelaw04_ShortLeast.j0 k l1 (!t835) l0_0))) else (mizmazelaw04_ShortLeast.j0 k l1 true l0_0))) = some r := h
  clear h
  have HC3 := Aside0.mk H
  clear H
  go_enter Try.func11, Try.ntmps11
  go_upto_region 1 with (first | ((with_reducible refine gate_dst (N := 2) rfl ?_); (try (refine gate_guard (by rfl) ?_; dsimp only)); refine box_event ?hg (N := 2) ?hd (cs := #[.slice A0_0 l0_0.length c0_0]) (t := 24) ?hr ?_; (case hd => rfl); (case hg => rfl); (case hr => first | (go_simp; done) | (go_simp; rfl)); intro gb833 hg w4 hbox hb; have n0_ := Aside0.mk (below_step (by repeat (first | (with_reducible first | exact HB.out | apply below_alloc | apply pw_below_drewN | apply below_drew1) | exact HB.out)) hb); have n1_ := Aside0.mk (hbox); have n2_ := Aside0.mk ((by rw [hg]; exact (below_size (by repeat (first | (with_reducible first | exact HB.out | apply below_alloc | apply pw_below_drewN | apply below_drew1) | exact HB.out))) : w.heap.size ≤ gb833)); have n3_ := Aside0.mk ((by rw [hg]; exact (below_size (by repeat (first | (with_reducible first | exact HB.out | apply below_alloc | apply pw_below_drewN | apply below_drew1) | exact HB.out))) : w.heap.size ≤ gb833)); clear HB; have HB := n0_; have BK833 := n1_; have GW833 := n2_; have GE833 := n3_; clear n0_ n1_ n2_ n3_; clear hb hbox hg))
  (try simp only [Act.put, List.setIfInBounds_toArray, List.set_cons_zero, List.set_cons_succ])
  go_cut [27] (fun v27 wc => ∃ (kq : Nat) (x27_2 : Bool), v27 = .bool x27_2 ∧ Aside0 (mizmazelaw04_ShortLeast.j0 kq l1 x27_2 l0_0 = some r) ∧ Aside0 (kq ≤ k) ∧ Aside0 (wc.heap[gb833]? = some (.cells #[(.slice A0_0 l0_0.length c0_0)] 24 (0, 0))) ∧ Aside0 (Below w.heap.size w wc))
  case first =>
    have H := HC3.out
    clear HC3
    replace H := Option.bind_eq_some_iff.mp H
    obtain ⟨t834, A50, H⟩ := H
    replace H : (if t834 = true then (if (l0_0.length : Int) > 12 then (mizmazelaw04_ShortLeast.j0 k l1 true l0_0) else ((mizmazeref01_Word.f k l0_0 l1).bind fun t835 => (mizmazelaw04_ShortLeast.j0 k l1 (!t835) l0_0))) else (mizmazelaw04_ShortLeast.j0 k l1 true l0_0)) = some r := H
    have A5 := Aside0.mk A50
    clear A50
    by_cases c6 : t834 = true
    · subst c6
      have H1 : (if (l0_0.length : Int) > 12 then (mizmazelaw04_ShortLeast.j0 k l1 true l0_0) else ((mizmazeref01_Word.f k l0_0 l1).bind fun t835 => (mizmazelaw04_ShortLeast.j0 k l1 (!t835) l0_0))) = some r := by rw [if_pos rfl] at H; exact H
      clear H
      have H := H1
      clear H1
      by_cases c7 : (l0_0.length : Int) > 12
      · rw [if_pos c7] at H
        have c7b0 : decide (12 < (l0_0.length : Int)) = true := decide_eq_true c7
        have c7b1 : decide (12 < l0_0.length) = true := decide_eq_true (by omega)
        clear c7
        (first | rw [c7b0] | (simp only [i64_w, i32_w]; rw [c7b0]) | skip)
        have H' := Aside0.mk H
        clear H
        have hcz8_0 : w4.cell? ⟨gb833, 0, none⟩ = some (.slice A0_0 l0_0.length c0_0) := (blk_cell BK833.out 0).trans rfl
        have hfz8_0 := blk_frozen BK833.out 0
        go_wp2_with (first | ((with_reducible refine gate_callee (f := 16) rfl ?_); refine goesL_ (some 14) rfl rfl Try.func16 (by kernel_rfl) rfl #[.agg #[.slice A0_0 l0_0.length c0_0]] rfl (by (try simp only [List.map_toArray, List.map_cons, List.map_nil]); first | done | rfl | (simp only [List.length_drop, List.length_take]; rfl)) ?_; (with_reducible refine (mizmazeref01_Valid.calls k _ _ l0_0 true _ ?side1 ?side2 A5.out).mono ?_); (case side1 => repeat (first | exact (Kd.C_below HR0_0.out HB.out) | (with_reducible refine Kd.C_alloc ?_ _) | (with_reducible refine Kd.C_drewN ?_ _) | (with_reducible refine Kd.C_drew ?_))); (case side2 => exact HC0_0.out); rintro e w9 ⟨rfl, hb⟩; refine ⟨_, rfl, ?_⟩; have n0_ := Aside0.mk (blk_below (g := gb833) (o := .cells #[.slice A0_0 l0_0.length c0_0] 24 (0, 0)) (by (with_reducible repeat (first | refine blk_drewN ?_ _ | refine blk_drew ?_ | refine blk_alloc ?_ _)); exact BK833.out) hb); have n1_ := Aside0.mk (below_step (by repeat (first | (with_reducible first | exact HB.out | apply below_alloc | apply pw_below_drewN | apply below_drew1 | refine below_set ?_ GE833.out) | exact HB.out)) hb); clear BK833; clear HB; have BK833 := n0_; have HB := n1_; clear n0_ n1_; (try clear hb); (try clear hb2); (try clear hk); (try clear hi); have hcz10_0 : w9.cell? ⟨gb833, 0, none⟩ = some (.slice A0_0 l0_0.length c0_0) := (blk_cell BK833.out 0).trans rfl; have hfz10_0 := blk_frozen BK833.out 0))
        go_meet
        case rel => exact ⟨_, (true), (by first | rfl | (simp; done) | (simp [*]; done)), H', ⟨by first | omega | exact Nat.le_refl _⟩, ⟨by (with_reducible repeat (first | refine blk_drewN ?_ _ | refine blk_drew ?_ | refine blk_alloc ?_ _)); exact BK833.out⟩, ⟨by repeat (first | (with_reducible first | exact HB.out | apply below_alloc | apply pw_below_drewN | apply below_drew1 | refine below_set ?_ GE833.out) | exact HB.out)⟩⟩
      · rw [if_neg c7] at H
        have c7b0 : decide (12 < (l0_0.length : Int)) = false := decide_eq_false c7
        have c7b1 : decide (12 < l0_0.length) = false := decide_eq_false (by omega)
        clear c7
        (first | rw [c7b0] | (simp only [i64_w, i32_w]; rw [c7b0]) | skip)
        replace H := Option.bind_eq_some_iff.mp H
        obtain ⟨t835, A110, H⟩ := H
        replace H : (mizmazelaw04_ShortLeast.j0 k l1 (!t835) l0_0) = some r := H
        have A11 := Aside0.mk A110
        clear A110
        have H' := Aside0.mk H
        clear H
        have hcz12_0 : w4.cell? ⟨gb833, 0, none⟩ = some (.slice A0_0 l0_0.length c0_0) := (blk_cell BK833.out 0).trans rfl
        have hfz12_0 := blk_frozen BK833.out 0
        go_wp2_with (first | ((with_reducible refine gate_callee (f := 16) rfl ?_); refine goesL_ (some 14) rfl rfl Try.func16 (by kernel_rfl) rfl #[.agg #[.slice A0_0 l0_0.length c0_0]] rfl (by (try simp only [List.map_toArray, List.map_cons, List.map_nil]); first | done | rfl | (simp only [List.length_drop, List.length_take]; rfl)) ?_; (with_reducible refine (mizmazeref01_Valid.calls k _ _ l0_0 true _ ?side1 ?side2 A5.out).mono ?_); (case side1 => repeat (first | exact (Kd.C_below HR0_0.out HB.out) | (with_reducible refine Kd.C_alloc ?_ _) | (with_reducible refine Kd.C_drewN ?_ _) | (with_reducible refine Kd.C_drew ?_))); (case side2 => exact HC0_0.out); rintro e w13 ⟨rfl, hb⟩; refine ⟨_, rfl, ?_⟩; have n0_ := Aside0.mk (blk_below (g := gb833) (o := .cells #[.slice A0_0 l0_0.length c0_0] 24 (0, 0)) (by (with_reducible repeat (first | refine blk_drewN ?_ _ | refine blk_drew ?_ | refine blk_alloc ?_ _)); exact BK833.out) hb); have n1_ := Aside0.mk (below_step (by repeat (first | (with_reducible first | exact HB.out | apply below_alloc | apply pw_below_drewN | apply below_drew1 | refine below_set ?_ GE833.out) | exact HB.out)) hb); clear BK833; clear HB; have BK833 := n0_; have HB := n1_; clear n0_ n1_; (try clear hb); (try clear hb2); (try clear hk); (try clear hi); have hcz14_0 : w13.cell? ⟨gb833, 0, none⟩ = some (.slice A0_0 l0_0.length c0_0) := (blk_cell BK833.out 0).trans rfl; have hfz14_0 := blk_frozen BK833.out 0) | (go_at_call 46; (with_reducible refine (mizmazeref01_Word.calls k _ _ l0_0 _ _ l1 t835 _ ?side1 ?side2 ?side3 ?side4 A11.out).mono ?_); (case side1 => repeat (first | exact (Kd.C_below HR0_0.out HB.out) | (with_reducible refine Kd.C_alloc ?_ _) | (with_reducible refine Kd.C_drewN ?_ _) | (with_reducible refine Kd.C_drew ?_))); (case side2 => exact HC0_0.out); (case side3 => repeat (first | exact (Kd.C_below HR1.out HB.out) | (with_reducible refine Kd.C_alloc ?_ _) | (with_reducible refine Kd.C_drewN ?_ _) | (with_reducible refine Kd.C_drew ?_))); (case side4 => exact HC1.out); rintro e w15 ⟨rfl, hb⟩; have n0_ := Aside0.mk (blk_below (g := gb833) (o := .cells #[.slice A0_0 l0_0.length c0_0] 24 (0, 0)) (by (with_reducible repeat (first | refine blk_drewN ?_ _ | refine blk_drew ?_ | refine blk_alloc ?_ _)); exact BK833.out) hb); have n1_ := Aside0.mk (below_step (by repeat (first | (with_reducible first | exact HB.out | apply below_alloc | apply pw_below_drewN | apply below_drew1 | refine below_set ?_ GE833.out) | exact HB.out)) hb); clear BK833; clear HB; have BK833 := n0_; have HB := n1_; clear n0_ n1_; (try clear hb); (try clear hb2); (try clear hk); (try clear hi)))
        go_meet
        case rel => exact ⟨_, (!t835), (by first | rfl | (simp; done) | (simp [*]; done)), H', ⟨by first | omega | exact Nat.le_refl _⟩, ⟨by (with_reducible repeat (first | refine blk_drewN ?_ _ | refine blk_drew ?_ | refine blk_alloc ?_ _)); exact BK833.out⟩, ⟨by repeat (first | (with_reducible first | exact HB.out | apply below_alloc | apply pw_below_drewN | apply below_drew1 | refine below_set ?_ GE833.out) | exact HB.out)⟩⟩
    · replace c6 := Bool.eq_false_iff.mpr c6
      subst c6
      have H1 : (mizmazelaw04_ShortLeast.j0 k l1 true l0_0) = some r := by rw [if_neg (show ¬ (false = true) by decide)] at H; exact H
      clear H
      have H := H1
      clear H1
      have H' := Aside0.mk H
      clear H
      have hcz16_0 : w4.cell? ⟨gb833, 0, none⟩ = some (.slice A0_0 l0_0.length c0_0) := (blk_cell BK833.out 0).trans rfl
      have hfz16_0 := blk_frozen BK833.out 0
      go_wp2_with (first | ((with_reducible refine gate_callee (f := 16) rfl ?_); refine goesL_ (some 14) rfl rfl Try.func16 (by kernel_rfl) rfl #[.agg #[.slice A0_0 l0_0.length c0_0]] rfl (by (try simp only [List.map_toArray, List.map_cons, List.map_nil]); first | done | rfl | (simp only [List.length_drop, List.length_take]; rfl)) ?_; (with_reducible refine (mizmazeref01_Valid.calls k _ _ l0_0 false _ ?side1 ?side2 A5.out).mono ?_); (case side1 => repeat (first | exact (Kd.C_below HR0_0.out HB.out) | (with_reducible refine Kd.C_alloc ?_ _) | (with_reducible refine Kd.C_drewN ?_ _) | (with_reducible refine Kd.C_drew ?_))); (case side2 => exact HC0_0.out); rintro e w17 ⟨rfl, hb⟩; refine ⟨_, rfl, ?_⟩; have n0_ := Aside0.mk (blk_below (g := gb833) (o := .cells #[.slice A0_0 l0_0.length c0_0] 24 (0, 0)) (by (with_reducible repeat (first | refine blk_drewN ?_ _ | refine blk_drew ?_ | refine blk_alloc ?_ _)); exact BK833.out) hb); have n1_ := Aside0.mk (below_step (by repeat (first | (with_reducible first | exact HB.out | apply below_alloc | apply pw_below_drewN | apply below_drew1 | refine below_set ?_ GE833.out) | exact HB.out)) hb); clear BK833; clear HB; have BK833 := n0_; have HB := n1_; clear n0_ n1_; (try clear hb); (try clear hb2); (try clear hk); (try clear hi)))
      go_meet
      case rel => exact ⟨_, (true), (by first | rfl | (simp; done) | (simp [*]; done)), H', ⟨by first | omega | exact Nat.le_refl _⟩, ⟨by (with_reducible repeat (first | refine blk_drewN ?_ _ | refine blk_drew ?_ | refine blk_alloc ?_ _)); exact BK833.out⟩, ⟨by repeat (first | (with_reducible first | exact HB.out | apply below_alloc | apply pw_below_drewN | apply below_drew1 | refine below_set ?_ GE833.out) | exact HB.out)⟩⟩
  case rest =>
    clear HC3
    try clear c1
    try clear p2
    try clear c6
    try clear c7
    try clear c7b0
    try clear c7b1
    try clear c11
    try clear c16
    try clear hcz10_0
    try clear hcz12_0
    try clear hcz14_0
    try clear hcz16_0
    try clear hcz8_0
    try clear hfz10_0
    try clear hfz12_0
    try clear hfz14_0
    try clear hfz16_0
    try clear hfz8_0
    obtain ⟨kq, x27_2, rfl, HA, HJ2, BK833, HB⟩ := hcut
    cases kq with
    | zero => exact absurd HA.out (by simp [mizmazelaw04_ShortLeast.j0])
    | succ kj2 =>
      have H := HA.out
      clear HA
      simp only [mizmazelaw04_ShortLeast.j0] at H
      by_cases c18 : x27_2 = true
      · subst c18
        have H1 : ((mizmazelaw04_awake.f kj2).bind fun t836 => (some t836)) = some r := by rw [if_pos rfl] at H; exact H
        clear H
        have H := H1
        clear H1
        replace H := Option.bind_eq_some_iff.mp H
        obtain ⟨t836, A190, H⟩ := H
        replace H : (some t836) = some r := H
        have A19 := Aside0.mk A190
        clear A190
        obtain rfl := Option.some.inj H
        go_wp2_with (first | ((with_reducible refine gate_callee (f := 20) rfl ?_); refine goesL_ (some 28) rfl rfl Try.func20 (by kernel_rfl) rfl #[] rfl (by (try simp only [List.map_toArray, List.map_cons, List.map_nil]); first | done | rfl | (simp only [List.length_drop, List.length_take]; rfl)) ?_; (with_reducible refine (mizmazelaw04_awake.calls kj2  t836 _ A19.out).mono ?_); rintro e w20 ⟨rfl, hb⟩; refine ⟨_, rfl, ?_⟩; have n0_ := Aside0.mk (blk_below (g := gb833) (o := .cells #[.slice A0_0 l0_0.length c0_0] 24 (0, 0)) (by (with_reducible repeat (first | refine blk_drewN ?_ _ | refine blk_drew ?_ | refine blk_alloc ?_ _)); exact BK833.out) hb); have n1_ := Aside0.mk (below_step (by repeat (first | (with_reducible first | exact HB.out | apply below_alloc | apply pw_below_drewN | apply below_drew1 | refine below_set ?_ GE833.out) | exact HB.out)) hb); clear BK833; clear HB; have BK833 := n0_; have HB := n1_; clear n0_ n1_; (try clear hb); (try clear hb2); (try clear hk); (try clear hi)))
        go_ret
        exact ⟨by first | rfl | (simp [errW_none, errW_some] <;> rfl) | (simp [*, errW_none, errW_some] <;> rfl), by repeat (first | (with_reducible first | exact HB.out | apply below_alloc | apply pw_below_drewN | apply below_drew1 | refine below_set ?_ GE833.out) | exact HB.out)⟩
      · replace c18 := Bool.eq_false_iff.mpr c18
        subst c18
        have H1 : ((mizmazeref01_All.f kj2 (l0_0.length : Int)).bind fun t837 => ((short_Shortest.f kj2 l0_0).bind fun bt840 => ((short_Rank.f kj2 l0_0).bind fun bt844 => (if bt844.2.2 = 0 then (if bt840.2 = 0 then (mizmazelaw04_ShortLeast.j1 kj2 l1 t837 bt840.1 bt840.2 bt844.1 bt844.2.1 ((bt840.2 == 0) != (bt844.1 == 1)) l0_0) else (if bt840.2 = 4 then (mizmazelaw04_ShortLeast.j1 kj2 l1 t837 bt840.1 bt840.2 bt844.1 bt844.2.1 ((bt840.2 == 0) != (bt844.1 == 1)) l0_0) else (mizmazelaw04_ShortLeast.j1 kj2 l1 t837 bt840.1 bt840.2 bt844.1 bt844.2.1 true l0_0))) else (mizmazelaw04_ShortLeast.j1 kj2 l1 t837 bt840.1 bt840.2 bt844.1 bt844.2.1 true l0_0))))) = some r := by rw [if_neg (show ¬ (false = true) by decide)] at H; exact H
        clear H
        have H := H1
        clear H1
        replace H := Option.bind_eq_some_iff.mp H
        obtain ⟨t837, A210, H⟩ := H
        replace H : ((short_Shortest.f kj2 l0_0).bind fun bt840 => ((short_Rank.f kj2 l0_0).bind fun bt844 => (if bt844.2.2 = 0 then (if bt840.2 = 0 then (mizmazelaw04_ShortLeast.j1 kj2 l1 t837 bt840.1 bt840.2 bt844.1 bt844.2.1 ((bt840.2 == 0) != (bt844.1 == 1)) l0_0) else (if bt840.2 = 4 then (mizmazelaw04_ShortLeast.j1 kj2 l1 t837 bt840.1 bt840.2 bt844.1 bt844.2.1 ((bt840.2 == 0) != (bt844.1 == 1)) l0_0) else (mizmazelaw04_ShortLeast.j1 kj2 l1 t837 bt840.1 bt840.2 bt844.1 bt844.2.1 true l0_0))) else (mizmazelaw04_ShortLeast.j1 kj2 l1 t837 bt840.1 bt840.2 bt844.1 bt844.2.1 true l0_0)))) = some r := H
        have A21 := Aside0.mk A210
        clear A210
        replace H := Option.bind_eq_some_iff.mp H
        obtain ⟨⟨t840, t843⟩, A220, H⟩ := H
        replace H : ((short_Rank.f kj2 l0_0).bind fun bt844 => (if bt844.2.2 = 0 then (if t843 = 0 then (mizmazelaw04_ShortLeast.j1 kj2 l1 t837 t840 t843 bt844.1 bt844.2.1 ((t843 == 0) != (bt844.1 == 1)) l0_0) else (if t843 = 4 then (mizmazelaw04_ShortLeast.j1 kj2 l1 t837 t840 t843 bt844.1 bt844.2.1 ((t843 == 0) != (bt844.1 == 1)) l0_0) else (mizmazelaw04_ShortLeast.j1 kj2 l1 t837 t840 t843 bt844.1 bt844.2.1 true l0_0))) else (mizmazelaw04_ShortLeast.j1 kj2 l1 t837 t840 t843 bt844.1 bt844.2.1 true l0_0))) = some r := H
        have A22 := Aside0.mk A220
        clear A220
        replace H := Option.bind_eq_some_iff.mp H
        obtain ⟨⟨t844, t845, t848⟩, A230, H⟩ := H
        replace H : (if t848 = 0 then (if t843 = 0 then (mizmazelaw04_ShortLeast.j1 kj2 l1 t837 t840 t843 t844 t845 ((t843 == 0) != (t844 == 1)) l0_0) else (if t843 = 4 then (mizmazelaw04_ShortLeast.j1 kj2 l1 t837 t840 t843 t844 t845 ((t843 == 0) != (t844 == 1)) l0_0) else (mizmazelaw04_ShortLeast.j1 kj2 l1 t837 t840 t843 t844 t845 true l0_0))) else (mizmazelaw04_ShortLeast.j1 kj2 l1 t837 t840 t843 t844 t845 true l0_0)) = some r := H
        have A23 := Aside0.mk A230
        clear A230
        have HC24 := Aside0.mk H
        clear H
        have hcz25_0 : wc.cell? ⟨gb833, 0, none⟩ = some (.slice A0_0 l0_0.length c0_0) := (blk_cell BK833.out 0).trans rfl
        have hfz25_0 := blk_frozen BK833.out 0
        go_upto_region 6 with (first | ((with_reducible refine gate_callee (f := 47) rfl ?_); refine goesL_ (some 32) rfl rfl Try.func47 (by kernel_rfl) rfl #[.int .i64 (l0_0.length : Int)] rfl (by (try simp only [List.map_toArray, List.map_cons, List.map_nil]); first | done | rfl | (simp only [List.length_drop, List.length_take]; rfl)) ?_; (with_reducible refine (mizmazeref01_All.calls kj2 (l0_0.length : Int) t837 _ A21.out).mono ?_); rintro e w26 ⟨v838, rfl, ho0, hb⟩; refine ⟨_, rfl, ?_⟩; have n0_ := Aside0.mk (Kd.R_lower ho0 (below_size (by repeat (first | (with_reducible first | exact HB.out | apply below_alloc | apply pw_below_drewN | apply below_drew1 | refine below_set ?_ GE833.out) | exact HB.out)))); have n1_ := Aside0.mk (blk_below (g := gb833) (o := .cells #[.slice A0_0 l0_0.length c0_0] 24 (0, 0)) (by (with_reducible repeat (first | refine blk_drewN ?_ _ | refine blk_drew ?_ | refine blk_alloc ?_ _)); exact BK833.out) hb); have n2_ := Aside0.mk (below_step (by repeat (first | (with_reducible first | exact HB.out | apply below_alloc | apply pw_below_drewN | apply below_drew1 | refine below_set ?_ GE833.out) | exact HB.out)) hb); clear BK833; clear HB; have HO839 := n0_; have BK833 := n1_; have HB := n2_; clear n0_ n1_ n2_; (try clear hb); (try clear hb2); (try clear hk); (try clear hi); (try clear ho0); have hcz27_0 : w26.cell? ⟨gb833, 0, none⟩ = some (.slice A0_0 l0_0.length c0_0) := (blk_cell BK833.out 0).trans rfl; have hfz27_0 := blk_frozen BK833.out 0) | ((with_reducible refine gate_callee (f := 15) rfl ?_); refine goesL_ (some 35) rfl rfl Try.func15 (by kernel_rfl) rfl #[.agg #[.slice A0_0 l0_0.length c0_0]] rfl (by (try simp only [List.map_toArray, List.map_cons, List.map_nil]); first | done | rfl | (simp only [List.length_drop, List.length_take]; rfl)) ?_; (with_reducible refine (short_Shortest.calls kj2 _ _ l0_0 t840 t843 _ ?side1 ?side2 A22.out).mono ?_); (case side1 => repeat (first | exact (Kd.C_below HR0_0.out HB.out) | (with_reducible refine Kd.C_alloc ?_ _) | (with_reducible refine Kd.C_drewN ?_ _) | (with_reducible refine Kd.C_drew ?_))); (case side2 => exact HC0_0.out); rintro e w28 ⟨v841, rfl, ho0, hb⟩; refine ⟨_, rfl, ?_⟩; have n0_ := Aside0.mk (Kd.R_elder' (by (with_reducible repeat (first | apply Kd.R_alloc | apply Kd.R_drewN | apply Kd.R_drew)); exact HO839.out) (Kd.R_base ho0) hb); have n1_ := Aside0.mk (Kd.R_lower (Kd.R_new' ho0 (Kd.R_lt (by (with_reducible repeat (first | apply Kd.R_alloc | apply Kd.R_drewN | apply Kd.R_drew)); exact HO839.out))) (below_size (by repeat (first | (with_reducible first | exact HB.out | apply below_alloc | apply pw_below_drewN | apply below_drew1 | refine below_set ?_ GE833.out) | exact HB.out)))); have n2_ := Aside0.mk (blk_below (g := gb833) (o := .cells #[.slice A0_0 l0_0.length c0_0] 24 (0, 0)) (by (with_reducible repeat (first | refine blk_drewN ?_ _ | refine blk_drew ?_ | refine blk_alloc ?_ _)); exact BK833.out) hb); have n3_ := Aside0.mk (below_step (by repeat (first | (with_reducible first | exact HB.out | apply below_alloc | apply pw_below_drewN | apply below_drew1 | refine below_set ?_ GE833.out) | exact HB.out)) hb); clear HO839; clear BK833; clear HB; have HO839 := n0_; have HO842 := n1_; have BK833 := n2_; have HB := n3_; clear n0_ n1_ n2_ n3_; (try clear hb); (try clear hb2); (try clear hk); (try clear hi); (try clear ho0); have hcz29_0 : w28.cell? ⟨gb833, 0, none⟩ = some (.slice A0_0 l0_0.length c0_0) := (blk_cell BK833.out 0).trans rfl; have hfz29_0 := blk_frozen BK833.out 0) | ((with_reducible refine gate_callee (f := 21) rfl ?_); refine goesL_ (some 40) rfl rfl Try.func21 (by kernel_rfl) rfl #[.agg #[.slice A0_0 l0_0.length c0_0]] rfl (by (try simp only [List.map_toArray, List.map_cons, List.map_nil]); first | done | rfl | (simp only [List.length_drop, List.length_take]; rfl)) ?_; (with_reducible refine (short_Rank.calls kj2 _ _ l0_0 t844 t845 t848 _ ?side1 ?side2 A23.out).mono ?_); (case side1 => repeat (first | exact (Kd.C_below HR0_0.out HB.out) | (with_reducible refine Kd.C_alloc ?_ _) | (with_reducible refine Kd.C_drewN ?_ _) | (with_reducible refine Kd.C_drew ?_))); (case side2 => exact HC0_0.out); rintro e w30 ⟨v846, rfl, ho0, hb⟩; refine ⟨_, rfl, ?_⟩; have n0_ := Aside0.mk (Kd.R_elder' (by (with_reducible repeat (first | apply Kd.R_alloc | apply Kd.R_drewN | apply Kd.R_drew)); exact HO839.out) (Kd.R_base ho0) hb); have n1_ := Aside0.mk (Kd.R_elder' (by (with_reducible repeat (first | apply Kd.R_alloc | apply Kd.R_drewN | apply Kd.R_drew)); exact HO842.out) (Kd.R_base ho0) hb); have n2_ := Aside0.mk (Kd.R_lower (Kd.R_new' (Kd.R_new' ho0 (Kd.R_lt (by (with_reducible repeat (first | apply Kd.R_alloc | apply Kd.R_drewN | apply Kd.R_drew)); exact HO839.out))) (Kd.R_lt (by (with_reducible repeat (first | apply Kd.R_alloc | apply Kd.R_drewN | apply Kd.R_drew)); exact HO842.out))) (below_size (by repeat (first | (with_reducible first | exact HB.out | apply below_alloc | apply pw_below_drewN | apply below_drew1 | refine below_set ?_ GE833.out) | exact HB.out)))); have n3_ := Aside0.mk (blk_below (g := gb833) (o := .cells #[.slice A0_0 l0_0.length c0_0] 24 (0, 0)) (by (with_reducible repeat (first | refine blk_drewN ?_ _ | refine blk_drew ?_ | refine blk_alloc ?_ _)); exact BK833.out) hb); have n4_ := Aside0.mk (below_step (by repeat (first | (with_reducible first | exact HB.out | apply below_alloc | apply pw_below_drewN | apply below_drew1 | refine below_set ?_ GE833.out) | exact HB.out)) hb); clear HO839; clear HO842; clear BK833; clear HB; have HO839 := n0_; have HO842 := n1_; have HO847 := n2_; have BK833 := n3_; have HB := n4_; clear n0_ n1_ n2_ n3_ n4_; (try clear hb); (try clear hb2); (try clear hk); (try clear hi); (try clear ho0)))
        (try simp only [Act.put, List.setIfInBounds_toArray, List.set_cons_zero, List.set_cons_succ])
        go_cut [60] (fun v60 wc => ∃ (kq : Nat) (x60_23 : Bool), v60 = .bool x60_23 ∧ Aside0 (mizmazelaw04_ShortLeast.j1 kq l1 t837 t840 t843 t844 t845 x60_23 l0_0 = some r) ∧ Aside0 (kq ≤ kj2) ∧ Aside0 (Kd.R (Kd.int .i64) 3 wc w.heap.size (fun k_ => some k_ ≠ (v841 : Value).ownBlock ∧ some k_ ≠ (v846 : Value).ownBlock) v838 t837) ∧ Aside0 (Kd.R (Kd.int .i64) 3 wc w.heap.size (fun k_ => some k_ ≠ (v838 : Value).ownBlock ∧ some k_ ≠ (v846 : Value).ownBlock) v841 t840) ∧ Aside0 (Kd.R (Kd.int .i64) 3 wc w.heap.size (fun k_ => some k_ ≠ (v838 : Value).ownBlock ∧ some k_ ≠ (v841 : Value).ownBlock) v846 t845) ∧ Aside0 (wc.heap[gb833]? = some (.cells #[(.slice A0_0 l0_0.length c0_0)] 24 (0, 0))) ∧ Aside0 (Below w.heap.size w wc))
        case first =>
          have H := HC24.out
          clear HC24
          by_cases c31 : t848 = 0
          · rw [if_pos c31] at H
            have c31b0 : (t848 == 0) = true := beq_iff_eq.mpr c31
            have c31b1 : (t848 != 0) = false := bne_eq_false_iff_eq.mpr c31
            clear c31
            (first | rw [c31b0] | (simp only [i64_w, i32_w]; rw [c31b0]) | skip)
            by_cases c32 : t843 = 0
            · rw [if_pos c32] at H
              have c32b0 : (t843 == 0) = true := beq_iff_eq.mpr c32
              have c32b1 : (t843 != 0) = false := bne_eq_false_iff_eq.mpr c32
              clear c32
              have H' := Aside0.mk H
              clear H
              go_wp2
              go_meet
              case rel => exact ⟨_, (((t843 == 0) != (t844 == 1))), (by first | rfl | (simp; done) | (simp [*]; done)), H', ⟨by have := HJ2.out; first | omega | exact Nat.le_refl _⟩, ⟨by (with_reducible repeat (first | apply Kd.R_alloc | apply Kd.R_drewN | apply Kd.R_drew)); exact Kd.R_mono HO839.out (fun _ hk => ⟨hk.1.2, hk.2⟩)⟩, ⟨by (with_reducible repeat (first | apply Kd.R_alloc | apply Kd.R_drewN | apply Kd.R_drew)); exact Kd.R_mono HO842.out (fun _ hk => ⟨hk.1.2, hk.2⟩)⟩, ⟨by (with_reducible repeat (first | apply Kd.R_alloc | apply Kd.R_drewN | apply Kd.R_drew)); exact Kd.R_mono HO847.out (fun _ hk => ⟨hk.1.2, hk.2⟩)⟩, ⟨by (with_reducible repeat (first | refine blk_drewN ?_ _ | refine blk_drew ?_ | refine blk_alloc ?_ _)); exact BK833.out⟩, ⟨by repeat (first | (with_reducible first | exact HB.out | apply below_alloc | apply pw_below_drewN | apply below_drew1 | refine below_set ?_ GE833.out) | exact HB.out)⟩⟩
            · rw [if_neg c32] at H
              have c32b0 : (t843 == 0) = false := beq_eq_false_iff_ne.mpr c32
              have c32b1 : (t843 != 0) = true := bne_iff_ne.mpr c32
              by_cases c33 : t843 = 4
              · rw [if_pos c33] at H
                have c33b0 : (t843 == 4) = true := beq_iff_eq.mpr c33
                have c33b1 : (t843 != 4) = false := bne_eq_false_iff_eq.mpr c33
                clear c33
                have H' := Aside0.mk H
                clear H
                go_wp2
                go_meet
                case rel => exact ⟨_, (((t843 == 0) != (t844 == 1))), (by first | rfl | (simp; done) | (simp [*]; done)), H', ⟨by have := HJ2.out; first | omega | exact Nat.le_refl _⟩, ⟨by (with_reducible repeat (first | apply Kd.R_alloc | apply Kd.R_drewN | apply Kd.R_drew)); exact Kd.R_mono HO839.out (fun _ hk => ⟨hk.1.2, hk.2⟩)⟩, ⟨by (with_reducible repeat (first | apply Kd.R_alloc | apply Kd.R_drewN | apply Kd.R_drew)); exact Kd.R_mono HO842.out (fun _ hk => ⟨hk.1.2, hk.2⟩)⟩, ⟨by (with_reducible repeat (first | apply Kd.R_alloc | apply Kd.R_drewN | apply Kd.R_drew)); exact Kd.R_mono HO847.out (fun _ hk => ⟨hk.1.2, hk.2⟩)⟩, ⟨by (with_reducible repeat (first | refine blk_drewN ?_ _ | refine blk_drew ?_ | refine blk_alloc ?_ _)); exact BK833.out⟩, ⟨by repeat (first | (with_reducible first | exact HB.out | apply below_alloc | apply pw_below_drewN | apply below_drew1 | refine below_set ?_ GE833.out) | exact HB.out)⟩⟩
              · rw [if_neg c33] at H
                have c33b0 : (t843 == 4) = false := beq_eq_false_iff_ne.mpr c33
                have c33b1 : (t843 != 4) = true := bne_iff_ne.mpr c33
                have H' := Aside0.mk H
                clear H
                go_wp2
                go_meet
                case rel => exact ⟨_, (true), (by first | rfl | (simp; done) | (simp [*]; done)), H', ⟨by have := HJ2.out; first | omega | exact Nat.le_refl _⟩, ⟨by (with_reducible repeat (first | apply Kd.R_alloc | apply Kd.R_drewN | apply Kd.R_drew)); exact Kd.R_mono HO839.out (fun _ hk => ⟨hk.1.2, hk.2⟩)⟩, ⟨by (with_reducible repeat (first | apply Kd.R_alloc | apply Kd.R_drewN | apply Kd.R_drew)); exact Kd.R_mono HO842.out (fun _ hk => ⟨hk.1.2, hk.2⟩)⟩, ⟨by (with_reducible repeat (first | apply Kd.R_alloc | apply Kd.R_drewN | apply Kd.R_drew)); exact Kd.R_mono HO847.out (fun _ hk => ⟨hk.1.2, hk.2⟩)⟩, ⟨by (with_reducible repeat (first | refine blk_drewN ?_ _ | refine blk_drew ?_ | refine blk_alloc ?_ _)); exact BK833.out⟩, ⟨by repeat (first | (with_reducible first | exact HB.out | apply below_alloc | apply pw_below_drewN | apply below_drew1 | refine below_set ?_ GE833.out) | exact HB.out)⟩⟩
          · rw [if_neg c31] at H
            have c31b0 : (t848 == 0) = false := beq_eq_false_iff_ne.mpr c31
            have c31b1 : (t848 != 0) = true := bne_iff_ne.mpr c31
            (first | rw [c31b0] | (simp only [i64_w, i32_w]; rw [c31b0]) | skip)
            have H' := Aside0.mk H
            clear H
            go_wp2
            go_meet
            case rel => exact ⟨_, (true), (by first | rfl | (simp; done) | (simp [*]; done)), H', ⟨by have := HJ2.out; first | omega | exact Nat.le_refl _⟩, ⟨by (with_reducible repeat (first | apply Kd.R_alloc | apply Kd.R_drewN | apply Kd.R_drew)); exact Kd.R_mono HO839.out (fun _ hk => ⟨hk.1.2, hk.2⟩)⟩, ⟨by (with_reducible repeat (first | apply Kd.R_alloc | apply Kd.R_drewN | apply Kd.R_drew)); exact Kd.R_mono HO842.out (fun _ hk => ⟨hk.1.2, hk.2⟩)⟩, ⟨by (with_reducible repeat (first | apply Kd.R_alloc | apply Kd.R_drewN | apply Kd.R_drew)); exact Kd.R_mono HO847.out (fun _ hk => ⟨hk.1.2, hk.2⟩)⟩, ⟨by (with_reducible repeat (first | refine blk_drewN ?_ _ | refine blk_drew ?_ | refine blk_alloc ?_ _)); exact BK833.out⟩, ⟨by repeat (first | (with_reducible first | exact HB.out | apply below_alloc | apply pw_below_drewN | apply below_drew1 | refine below_set ?_ GE833.out) | exact HB.out)⟩⟩
        case rest =>
          clear HC24
          try clear c1
          try clear c2
          try clear p2
          try clear c3
          try clear c4
          try clear c6
          try clear c7
          try clear c7b0
          try clear c7b1
          try clear c11
          try clear c15
          try clear c16
          try clear c18
          try clear c20
          try clear c21
          try clear c31
          try clear c31b0
          try clear c31b1
          try clear c32
          try clear c32b0
          try clear c32b1
          try clear c33
          try clear c33b0
          try clear c33b1
          try clear hcz10_0
          try clear hcz12_0
          try clear hcz14_0
          try clear hcz16_0
          try clear hcz25_0
          try clear hcz27_0
          try clear hcz29_0
          try clear hcz8_0
          try clear hfz10_0
          try clear hfz12_0
          try clear hfz14_0
          try clear hfz16_0
          try clear hfz25_0
          try clear hfz27_0
          try clear hfz29_0
          try clear hfz8_0
          try clear p2
          obtain ⟨kq, x60_23, rfl, HA, HJ23, HO_5, HO_6, HO_9, BK833, HB⟩ := hcut
          cases kq with
          | zero => exact absurd HA.out (by simp [mizmazelaw04_ShortLeast.j1])
          | succ kj23 =>
            have H := HA.out
            clear HA
            simp only [mizmazelaw04_ShortLeast.j1] at H
            by_cases c34 : x60_23 = true
            · subst c34
              have H1 : (some false) = some r := by rw [if_pos rfl] at H; exact H
              clear H
              have H := H1
              clear H1
              obtain rfl := Option.some.inj H
              go_wp2
              go_ret
              exact ⟨by first | rfl | (simp [errW_none, errW_some] <;> rfl) | (simp [*, errW_none, errW_some] <;> rfl), by repeat (first | (with_reducible first | exact HB.out | apply below_alloc | apply pw_below_drewN | apply below_drew1 | refine below_set ?_ GE833.out) | exact HB.out)⟩
            · replace c34 := Bool.eq_false_iff.mpr c34
              subst c34
              have H1 : ((auto_Image.f kj23 l0_0 t837 t845).bind fun bt849 => (if bt849.2 = 0 then (mizmazelaw04_ShortLeast.j2 kj23 l1 t837 t840 t843 t844 t845 ((bt849.1.length : Int) != t844) l0_0) else (mizmazelaw04_ShortLeast.j2 kj23 l1 t837 t840 t843 t844 t845 true l0_0))) = some r := by rw [if_neg (show ¬ (false = true) by decide)] at H; exact H
              clear H
              have H := H1
              clear H1
              replace H := Option.bind_eq_some_iff.mp H
              obtain ⟨⟨t849, t852⟩, A350, H⟩ := H
              replace H : (if t852 = 0 then (mizmazelaw04_ShortLeast.j2 kj23 l1 t837 t840 t843 t844 t845 ((t849.length : Int) != t844) l0_0) else (mizmazelaw04_ShortLeast.j2 kj23 l1 t837 t840 t843 t844 t845 true l0_0)) = some r := H
              have A35 := Aside0.mk A350
              clear A350
              have HC36 := Aside0.mk H
              clear H
              have hcz37_0 : wc.cell? ⟨gb833, 0, none⟩ = some (.slice A0_0 l0_0.length c0_0) := (blk_cell BK833.out 0).trans rfl
              have hfz37_0 := blk_frozen BK833.out 0
              obtain ⟨Ao38, co38, eo38⟩ := Kd.R_slice HO_5.out
              subst eo38
              obtain ⟨Ao39, co39, eo39⟩ := Kd.R_slice HO_9.out
              subst eo39
              go_upto_region 9 with (first | ((with_reducible refine gate_callee (f := 48) rfl ?_); refine goesL_ (some 65) rfl rfl Try.func48 (by kernel_rfl) rfl #[.agg #[.slice A0_0 l0_0.length c0_0], .slice Ao38 t837.length co38, .slice Ao39 t845.length co39] rfl (by (try simp only [List.map_toArray, List.map_cons, List.map_nil]); first | done | rfl | (simp only [List.length_drop, List.length_take]; rfl)) ?_; (with_reducible refine (auto_Image.calls kj23 _ _ l0_0 _ _ t837 _ _ t845 t849 t852 _ ?side1 ?side2 ?side3 ?side4 ?side5 ?side6 A35.out).mono ?_); (case side1 => repeat (first | exact (Kd.C_below HR0_0.out HB.out) | (with_reducible refine Kd.C_alloc ?_ _) | (with_reducible refine Kd.C_drewN ?_ _) | (with_reducible refine Kd.C_drew ?_))); (case side2 => exact HC0_0.out); (case side3 => repeat (first | exact (Kd.R_reads' HO_5.out).2.2 | (with_reducible refine Kd.C_alloc ?_ _) | (with_reducible refine Kd.C_drewN ?_ _) | (with_reducible refine Kd.C_drew ?_))); (case side4 => exact (Kd.R_reads' HO_5.out).2.1); (case side5 => repeat (first | exact (Kd.R_reads' HO_9.out).2.2 | (with_reducible refine Kd.C_alloc ?_ _) | (with_reducible refine Kd.C_drewN ?_ _) | (with_reducible refine Kd.C_drew ?_))); (case side6 => exact (Kd.R_reads' HO_9.out).2.1); rintro e w40 ⟨v850, rfl, ho0, hb⟩; refine ⟨_, rfl, ?_⟩; have n0_ := Aside0.mk (Kd.R_elder' (by (with_reducible repeat (first | apply Kd.R_alloc | apply Kd.R_drewN | apply Kd.R_drew)); exact HO_5.out) (Kd.R_base ho0) hb); have n1_ := Aside0.mk (Kd.R_elder' (by (with_reducible repeat (first | apply Kd.R_alloc | apply Kd.R_drewN | apply Kd.R_drew)); exact HO_6.out) (Kd.R_base ho0) hb); have n2_ := Aside0.mk (Kd.R_elder' (by (with_reducible repeat (first | apply Kd.R_alloc | apply Kd.R_drewN | apply Kd.R_drew)); exact HO_9.out) (Kd.R_base ho0) hb); have n3_ := Aside0.mk (Kd.R_lower (Kd.R_new' (Kd.R_new' (Kd.R_new' ho0 (Kd.R_lt (by (with_reducible repeat (first | apply Kd.R_alloc | apply Kd.R_drewN | apply Kd.R_drew)); exact HO_5.out))) (Kd.R_lt (by (with_reducible repeat (first | apply Kd.R_alloc | apply Kd.R_drewN | apply Kd.R_drew)); exact HO_6.out))) (Kd.R_lt (by (with_reducible repeat (first | apply Kd.R_alloc | apply Kd.R_drewN | apply Kd.R_drew)); exact HO_9.out))) (below_size (by repeat (first | (with_reducible first | exact HB.out | apply below_alloc | apply pw_below_drewN | apply below_drew1 | refine below_set ?_ GE833.out) | exact HB.out)))); have n4_ := Aside0.mk (blk_below (g := gb833) (o := .cells #[.slice A0_0 l0_0.length c0_0] 24 (0, 0)) (by (with_reducible repeat (first | refine blk_drewN ?_ _ | refine blk_drew ?_ | refine blk_alloc ?_ _)); exact BK833.out) hb); have n5_ := Aside0.mk (below_step (by repeat (first | (with_reducible first | exact HB.out | apply below_alloc | apply pw_below_drewN | apply below_drew1 | refine below_set ?_ GE833.out) | exact HB.out)) hb); clear HO_5; clear HO_6; clear HO_9; clear BK833; clear HB; have HO_5 := n0_; have HO_6 := n1_; have HO_9 := n2_; have HO851 := n3_; have BK833 := n4_; have HB := n5_; clear n0_ n1_ n2_ n3_ n4_ n5_; (try clear hb); (try clear hb2); (try clear hk); (try clear hi); (try clear ho0)))
              (try simp only [Act.put, List.setIfInBounds_toArray, List.set_cons_zero, List.set_cons_succ])
              go_cut [75] (fun v75 wc => ∃ (kq : Nat) (x75_35 : Bool), v75 = .bool x75_35 ∧ Aside0 (mizmazelaw04_ShortLeast.j2 kq l1 t837 t840 t843 t844 t845 x75_35 l0_0 = some r) ∧ Aside0 (kq ≤ kj23) ∧ Aside0 (Kd.R (Kd.int .i64) 3 wc w.heap.size (fun k_ => some k_ ≠ (v841 : Value).ownBlock ∧ some k_ ≠ ((.slice Ao39 t845.length co39) : Value).ownBlock) (.slice Ao38 t837.length co38) t837) ∧ Aside0 (Kd.R (Kd.int .i64) 3 wc w.heap.size (fun k_ => some k_ ≠ ((.slice Ao38 t837.length co38) : Value).ownBlock ∧ some k_ ≠ ((.slice Ao39 t845.length co39) : Value).ownBlock) v841 t840) ∧ Aside0 (Kd.R (Kd.int .i64) 3 wc w.heap.size (fun k_ => some k_ ≠ ((.slice Ao38 t837.length co38) : Value).ownBlock ∧ some k_ ≠ (v841 : Value).ownBlock) (.slice Ao39 t845.length co39) t845) ∧ Aside0 (wc.heap[gb833]? = some (.cells #[(.slice A0_0 l0_0.length c0_0)] 24 (0, 0))) ∧ Aside0 (Below w.heap.size w wc))
              case first =>
                have H := HC36.out
                clear HC36
                by_cases c41 : t852 = 0
                · rw [if_pos c41] at H
                  have c41b0 : (t852 == 0) = true := beq_iff_eq.mpr c41
                  have c41b1 : (t852 != 0) = false := bne_eq_false_iff_eq.mpr c41
                  clear c41
                  (first | rw [c41b0] | (simp only [i64_w, i32_w]; rw [c41b0]) | skip)
                  have H' := Aside0.mk H
                  clear H
                  obtain ⟨Ao42, co42, eo42⟩ := Kd.R_slice HO851.out
                  subst eo42
                  go_wp2
                  go_meet
                  case rel => exact ⟨_, (((t849.length : Int) != t844)), (by first | rfl | (simp; done) | (simp [*]; done)), H', ⟨by have := HJ2.out; have := HJ23.out; first | omega | exact Nat.le_refl _⟩, ⟨by (with_reducible repeat (first | apply Kd.R_alloc | apply Kd.R_drewN | apply Kd.R_drew)); exact Kd.R_mono HO_5.out (fun _ hk => ⟨hk.1.1, hk.1.2⟩)⟩, ⟨by (with_reducible repeat (first | apply Kd.R_alloc | apply Kd.R_drewN | apply Kd.R_drew)); exact Kd.R_mono HO_6.out (fun _ hk => ⟨hk.1.1, hk.1.2⟩)⟩, ⟨by (with_reducible repeat (first | apply Kd.R_alloc | apply Kd.R_drewN | apply Kd.R_drew)); exact Kd.R_mono HO_9.out (fun _ hk => ⟨hk.1.1, hk.1.2⟩)⟩, ⟨by (with_reducible repeat (first | refine blk_drewN ?_ _ | refine blk_drew ?_ | refine blk_alloc ?_ _)); exact BK833.out⟩, ⟨by repeat (first | (with_reducible first | exact HB.out | apply below_alloc | apply pw_below_drewN | apply below_drew1 | refine below_set ?_ GE833.out) | exact HB.out)⟩⟩
                · rw [if_neg c41] at H
                  have c41b0 : (t852 == 0) = false := beq_eq_false_iff_ne.mpr c41
                  have c41b1 : (t852 != 0) = true := bne_iff_ne.mpr c41
                  (first | rw [c41b0] | (simp only [i64_w, i32_w]; rw [c41b0]) | skip)
                  have H' := Aside0.mk H
                  clear H
                  go_wp2
                  go_meet
                  case rel => exact ⟨_, (true), (by first | rfl | (simp; done) | (simp [*]; done)), H', ⟨by have := HJ2.out; have := HJ23.out; first | omega | exact Nat.le_refl _⟩, ⟨by (with_reducible repeat (first | apply Kd.R_alloc | apply Kd.R_drewN | apply Kd.R_drew)); exact Kd.R_mono HO_5.out (fun _ hk => ⟨hk.1.1, hk.1.2⟩)⟩, ⟨by (with_reducible repeat (first | apply Kd.R_alloc | apply Kd.R_drewN | apply Kd.R_drew)); exact Kd.R_mono HO_6.out (fun _ hk => ⟨hk.1.1, hk.1.2⟩)⟩, ⟨by (with_reducible repeat (first | apply Kd.R_alloc | apply Kd.R_drewN | apply Kd.R_drew)); exact Kd.R_mono HO_9.out (fun _ hk => ⟨hk.1.1, hk.1.2⟩)⟩, ⟨by (with_reducible repeat (first | refine blk_drewN ?_ _ | refine blk_drew ?_ | refine blk_alloc ?_ _)); exact BK833.out⟩, ⟨by repeat (first | (with_reducible first | exact HB.out | apply below_alloc | apply pw_below_drewN | apply below_drew1 | refine below_set ?_ GE833.out) | exact HB.out)⟩⟩
              case rest =>
                clear HC36
                try clear c1
                try clear c2
                try clear p2
                try clear c3
                try clear c4
                try clear c6
                try clear c7
                try clear c7b0
                try clear c7b1
                try clear c11
                try clear c15
                try clear c16
                try clear c18
                try clear c20
                try clear c21
                try clear c31
                try clear c31b0
                try clear c31b1
                try clear c32
                try clear c32b0
                try clear c32b1
                try clear c33
                try clear c33b0
                try clear c33b1
                try clear c34
                try clear c41
                try clear c41b0
                try clear c41b1
                try clear hcz10_0
                try clear hcz12_0
                try clear hcz14_0
                try clear hcz16_0
                try clear hcz25_0
                try clear hcz27_0
                try clear hcz29_0
                try clear hcz37_0
                try clear hcz8_0
                try clear hfz10_0
                try clear hfz12_0
                try clear hfz14_0
                try clear hfz16_0
                try clear hfz25_0
                try clear hfz27_0
                try clear hfz29_0
                try clear hfz37_0
                try clear hfz8_0
                try clear p2
                obtain ⟨kq, x75_35, rfl, HA, HJ35, HO_5, HO_6, HO_9, BK833, HB⟩ := hcut
                cases kq with
                | zero => exact absurd HA.out (by simp [mizmazelaw04_ShortLeast.j2])
                | succ kj35 =>
                  have H := HA.out
                  clear HA
                  simp only [mizmazelaw04_ShortLeast.j2] at H
                  by_cases c43 : x75_35 = true
                  · subst c43
                    have H1 : (some false) = some r := by rw [if_pos rfl] at H; exact H
                    clear H
                    have H := H1
                    clear H1
                    obtain rfl := Option.some.inj H
                    go_wp2
                    go_ret
                    exact ⟨by first | rfl | (simp [errW_none, errW_some] <;> rfl) | (simp [*, errW_none, errW_some] <;> rfl), by repeat (first | (with_reducible first | exact HB.out | apply below_alloc | apply pw_below_drewN | apply below_drew1 | refine below_set ?_ GE833.out) | exact HB.out)⟩
                  · replace c43 := Bool.eq_false_iff.mpr c43
                    subst c43
                    have H1 : (if t843 = 0 then ((mizmazeref01_Same.f kj35 t840 t845).bind fun t853 => (mizmazelaw04_ShortLeast.j3 kj35 l1 t837 t844 t845 (!t853) l0_0)) else (mizmazelaw04_ShortLeast.j3 kj35 l1 t837 t844 t845 false l0_0)) = some r := by rw [if_neg (show ¬ (false = true) by decide)] at H; exact H
                    clear H
                    have H := H1
                    clear H1
                    have HC44 := Aside0.mk H
                    clear H
                    go_upto_region 11 with (fail)
                    go_cut [83] (fun v83 wc => ∃ (kq : Nat) (x83_43 : Bool), v83 = .bool x83_43 ∧ Aside0 (mizmazelaw04_ShortLeast.j3 kq l1 t837 t844 t845 x83_43 l0_0 = some r) ∧ Aside0 (kq ≤ kj35) ∧ Aside0 (Kd.R (Kd.int .i64) 3 wc w.heap.size (fun k_ => some k_ ≠ ((.slice Ao39 t845.length co39) : Value).ownBlock) (.slice Ao38 t837.length co38) t837) ∧ Aside0 (Kd.R (Kd.int .i64) 3 wc w.heap.size (fun k_ => some k_ ≠ ((.slice Ao38 t837.length co38) : Value).ownBlock) (.slice Ao39 t845.length co39) t845) ∧ Aside0 (wc.heap[gb833]? = some (.cells #[(.slice A0_0 l0_0.length c0_0)] 24 (0, 0))) ∧ Aside0 (Below w.heap.size w wc))
                    case first =>
                      have H := HC44.out
                      clear HC44
                      by_cases c45 : t843 = 0
                      · rw [if_pos c45] at H
                        have c45b0 : (t843 == 0) = true := beq_iff_eq.mpr c45
                        have c45b1 : (t843 != 0) = false := bne_eq_false_iff_eq.mpr c45
                        clear c45
                        (first | rw [c45b0] | (simp only [i64_w, i32_w]; rw [c45b0]) | skip)
                        replace H := Option.bind_eq_some_iff.mp H
                        obtain ⟨t853, A460, H⟩ := H
                        replace H : (mizmazelaw04_ShortLeast.j3 kj35 l1 t837 t844 t845 (!t853) l0_0) = some r := H
                        have A46 := Aside0.mk A460
                        clear A460
                        have H' := Aside0.mk H
                        clear H
                        obtain ⟨Ao47, co47, eo47⟩ := Kd.R_slice HO_6.out
                        subst eo47
                        go_wp2_with (first | (go_at_call 19; (with_reducible refine (mizmazeref01_Same.calls kj35 _ _ t840 _ _ t845 t853 _ ?side1 ?side2 ?side3 ?side4 A46.out).mono ?_); (case side1 => repeat (first | exact (Kd.R_reads' HO_6.out).2.2 | (with_reducible refine Kd.C_alloc ?_ _) | (with_reducible refine Kd.C_drewN ?_ _) | (with_reducible refine Kd.C_drew ?_))); (case side2 => exact (Kd.R_reads' HO_6.out).2.1); (case side3 => repeat (first | exact (Kd.R_reads' HO_9.out).2.2 | (with_reducible refine Kd.C_alloc ?_ _) | (with_reducible refine Kd.C_drewN ?_ _) | (with_reducible refine Kd.C_drew ?_))); (case side4 => exact (Kd.R_reads' HO_9.out).2.1); rintro e w' ⟨rfl, ⟨nd, rfl⟩⟩))
                        go_meet
                        case rel => exact ⟨_, (!t853), (by first | rfl | (simp; done) | (simp [*]; done)), H', ⟨by have := HJ2.out; have := HJ23.out; have := HJ35.out; first | omega | exact Nat.le_refl _⟩, ⟨by (with_reducible repeat (first | apply Kd.R_alloc | apply Kd.R_drewN | apply Kd.R_drew)); exact Kd.R_mono HO_5.out (fun _ hk => hk.2)⟩, ⟨by (with_reducible repeat (first | apply Kd.R_alloc | apply Kd.R_drewN | apply Kd.R_drew)); exact Kd.R_mono HO_9.out (fun _ hk => hk.1)⟩, ⟨by (with_reducible repeat (first | refine blk_drewN ?_ _ | refine blk_drew ?_ | refine blk_alloc ?_ _)); exact BK833.out⟩, ⟨by repeat (first | (with_reducible first | exact HB.out | apply below_alloc | apply pw_below_drewN | apply below_drew1 | refine below_set ?_ GE833.out) | exact HB.out)⟩⟩
                      · rw [if_neg c45] at H
                        have c45b0 : (t843 == 0) = false := beq_eq_false_iff_ne.mpr c45
                        have c45b1 : (t843 != 0) = true := bne_iff_ne.mpr c45
                        (first | rw [c45b0] | (simp only [i64_w, i32_w]; rw [c45b0]) | skip)
                        have H' := Aside0.mk H
                        clear H
                        go_wp2
                        go_meet
                        case rel => exact ⟨_, (false), (by first | rfl | (simp; done) | (simp [*]; done)), H', ⟨by have := HJ2.out; have := HJ23.out; have := HJ35.out; first | omega | exact Nat.le_refl _⟩, ⟨by (with_reducible repeat (first | apply Kd.R_alloc | apply Kd.R_drewN | apply Kd.R_drew)); exact Kd.R_mono HO_5.out (fun _ hk => hk.2)⟩, ⟨by (with_reducible repeat (first | apply Kd.R_alloc | apply Kd.R_drewN | apply Kd.R_drew)); exact Kd.R_mono HO_9.out (fun _ hk => hk.1)⟩, ⟨by (with_reducible repeat (first | refine blk_drewN ?_ _ | refine blk_drew ?_ | refine blk_alloc ?_ _)); exact BK833.out⟩, ⟨by repeat (first | (with_reducible first | exact HB.out | apply below_alloc | apply pw_below_drewN | apply below_drew1 | refine below_set ?_ GE833.out) | exact HB.out)⟩⟩
                    case rest =>
                      clear HC44
                      try clear c1
                      try clear c2
                      try clear p2
                      try clear c3
                      try clear c4
                      try clear c6
                      try clear c7
                      try clear c7b0
                      try clear c7b1
                      try clear c11
                      try clear c15
                      try clear c16
                      try clear c18
                      try clear c20
                      try clear c21
                      try clear c31
                      try clear c31b0
                      try clear c31b1
                      try clear c32
                      try clear c32b0
                      try clear c32b1
                      try clear c33
                      try clear c33b0
                      try clear c33b1
                      try clear c34
                      try clear c41
                      try clear c41b0
                      try clear c41b1
                      try clear c43
                      try clear c45
                      try clear c45b0
                      try clear c45b1
                      try clear c47
                      try clear hcz10_0
                      try clear hcz12_0
                      try clear hcz14_0
                      try clear hcz16_0
                      try clear hcz25_0
                      try clear hcz27_0
                      try clear hcz29_0
                      try clear hcz37_0
                      try clear hcz8_0
                      try clear hfz10_0
                      try clear hfz12_0
                      try clear hfz14_0
                      try clear hfz16_0
                      try clear hfz25_0
                      try clear hfz27_0
                      try clear hfz29_0
                      try clear hfz37_0
                      try clear hfz8_0
                      try clear p2
                      obtain ⟨kq, x83_43, rfl, HA, HJ43, HO_5, HO_9, BK833, HB⟩ := hcut
                      cases kq with
                      | zero => exact absurd HA.out (by simp [mizmazelaw04_ShortLeast.j3])
                      | succ kj43 =>
                        have H := HA.out
                        clear HA
                        simp only [mizmazelaw04_ShortLeast.j3] at H
                        by_cases c48 : x83_43 = true
                        · subst c48
                          have H1 : (some false) = some r := by rw [if_pos rfl] at H; exact H
                          clear H
                          have H := H1
                          clear H1
                          obtain rfl := Option.some.inj H
                          go_wp2
                          go_ret
                          exact ⟨by first | rfl | (simp [errW_none, errW_some] <;> rfl) | (simp [*, errW_none, errW_some] <;> rfl), by repeat (first | (with_reducible first | exact HB.out | apply below_alloc | apply pw_below_drewN | apply below_drew1 | refine below_set ?_ GE833.out) | exact HB.out)⟩
                        · replace c48 := Bool.eq_false_iff.mpr c48
                          subst c48
                          have H1 : ((auto_Image.f kj43 l0_0 t837 l1).bind fun bt854 => (if bt854.2 = 0 then (mizmazelaw04_ShortLeast.j4 kj43 l1 t844 t845 bt854.1 (decide ((bt854.1.length : Int) < t844))) else (mizmazelaw04_ShortLeast.j4 kj43 l1 t844 t845 bt854.1 true))) = some r := by rw [if_neg (show ¬ (false = true) by decide)] at H; exact H
                          clear H
                          have H := H1
                          clear H1
                          replace H := Option.bind_eq_some_iff.mp H
                          obtain ⟨⟨t854, t857⟩, A490, H⟩ := H
                          replace H : (if t857 = 0 then (mizmazelaw04_ShortLeast.j4 kj43 l1 t844 t845 t854 (decide ((t854.length : Int) < t844))) else (mizmazelaw04_ShortLeast.j4 kj43 l1 t844 t845 t854 true)) = some r := H
                          have A49 := Aside0.mk A490
                          clear A490
                          have HC50 := Aside0.mk H
                          clear H
                          have hcz51_0 : wc.cell? ⟨gb833, 0, none⟩ = some (.slice A0_0 l0_0.length c0_0) := (blk_cell BK833.out 0).trans rfl
                          have hfz51_0 := blk_frozen BK833.out 0
                          go_upto_region 14 with (first | ((with_reducible refine gate_callee (f := 48) rfl ?_); refine goesL_ (some 88) rfl rfl Try.func48 (by kernel_rfl) rfl #[.agg #[.slice A0_0 l0_0.length c0_0], .slice Ao38 t837.length co38, .slice A1 l1.length c1] rfl (by (try simp only [List.map_toArray, List.map_cons, List.map_nil]); first | done | rfl | (simp only [List.length_drop, List.length_take]; rfl)) ?_; (with_reducible refine (auto_Image.calls kj43 _ _ l0_0 _ _ t837 _ _ l1 t854 t857 _ ?side1 ?side2 ?side3 ?side4 ?side5 ?side6 A49.out).mono ?_); (case side1 => repeat (first | exact (Kd.C_below HR0_0.out HB.out) | (with_reducible refine Kd.C_alloc ?_ _) | (with_reducible refine Kd.C_drewN ?_ _) | (with_reducible refine Kd.C_drew ?_))); (case side2 => exact HC0_0.out); (case side3 => repeat (first | exact (Kd.R_reads' HO_5.out).2.2 | (with_reducible refine Kd.C_alloc ?_ _) | (with_reducible refine Kd.C_drewN ?_ _) | (with_reducible refine Kd.C_drew ?_))); (case side4 => exact (Kd.R_reads' HO_5.out).2.1); (case side5 => repeat (first | exact (Kd.C_below HR1.out HB.out) | (with_reducible refine Kd.C_alloc ?_ _) | (with_reducible refine Kd.C_drewN ?_ _) | (with_reducible refine Kd.C_drew ?_))); (case side6 => exact HC1.out); rintro e w52 ⟨v855, rfl, ho0, hb⟩; refine ⟨_, rfl, ?_⟩; have n0_ := Aside0.mk (Kd.R_elder' (by (with_reducible repeat (first | apply Kd.R_alloc | apply Kd.R_drewN | apply Kd.R_drew)); exact HO_5.out) (Kd.R_base ho0) hb); have n1_ := Aside0.mk (Kd.R_elder' (by (with_reducible repeat (first | apply Kd.R_alloc | apply Kd.R_drewN | apply Kd.R_drew)); exact HO_9.out) (Kd.R_base ho0) hb); have n2_ := Aside0.mk (Kd.R_lower (Kd.R_new' (Kd.R_new' ho0 (Kd.R_lt (by (with_reducible repeat (first | apply Kd.R_alloc | apply Kd.R_drewN | apply Kd.R_drew)); exact HO_5.out))) (Kd.R_lt (by (with_reducible repeat (first | apply Kd.R_alloc | apply Kd.R_drewN | apply Kd.R_drew)); exact HO_9.out))) (below_size (by repeat (first | (with_reducible first | exact HB.out | apply below_alloc | apply pw_below_drewN | apply below_drew1 | refine below_set ?_ GE833.out) | exact HB.out)))); have n3_ := Aside0.mk (blk_below (g := gb833) (o := .cells #[.slice A0_0 l0_0.length c0_0] 24 (0, 0)) (by (with_reducible repeat (first | refine blk_drewN ?_ _ | refine blk_drew ?_ | refine blk_alloc ?_ _)); exact BK833.out) hb); have n4_ := Aside0.mk (below_step (by repeat (first | (with_reducible first | exact HB.out | apply below_alloc | apply pw_below_drewN | apply below_drew1 | refine below_set ?_ GE833.out) | exact HB.out)) hb); clear HO_5; clear HO_9; clear BK833; clear HB; have HO_5 := n0_; have HO_9 := n1_; have HO856 := n2_; have BK833 := n3_; have HB := n4_; clear n0_ n1_ n2_ n3_ n4_; (try clear hb); (try clear hb2); (try clear hk); (try clear hi); (try clear ho0)))
                          (try simp only [Act.put, List.setIfInBounds_toArray, List.set_cons_zero, List.set_cons_succ])
                          go_cut [98] (fun v98 wc => ∃ (kq : Nat) (x98_49 : Bool), v98 = .bool x98_49 ∧ Aside0 (mizmazelaw04_ShortLeast.j4 kq l1 t844 t845 t854 x98_49 = some r) ∧ Aside0 (kq ≤ kj43) ∧ Aside0 (Kd.R (Kd.int .i64) 3 wc w.heap.size (fun k_ => some k_ ≠ (v855 : Value).ownBlock) (.slice Ao39 t845.length co39) t845) ∧ Aside0 (Kd.R (Kd.int .i64) 3 wc w.heap.size (fun k_ => some k_ ≠ ((.slice Ao39 t845.length co39) : Value).ownBlock) v855 t854) ∧ Aside0 (wc.heap[gb833]? = some (.cells #[(.slice A0_0 l0_0.length c0_0)] 24 (0, 0))) ∧ Aside0 (Below w.heap.size w wc))
                          case first =>
                            have H := HC50.out
                            clear HC50
                            by_cases c53 : t857 = 0
                            · rw [if_pos c53] at H
                              have c53b0 : (t857 == 0) = true := beq_iff_eq.mpr c53
                              have c53b1 : (t857 != 0) = false := bne_eq_false_iff_eq.mpr c53
                              clear c53
                              (first | rw [c53b0] | (simp only [i64_w, i32_w]; rw [c53b0]) | skip)
                              have H' := Aside0.mk H
                              clear H
                              obtain ⟨Ao54, co54, eo54⟩ := Kd.R_slice HO856.out
                              subst eo54
                              go_wp2
                              go_meet
                              case rel => exact ⟨_, (decide ((t854.length : Int) < t844)), (by first | rfl | (simp; done) | (simp [*]; done)), H', ⟨by have := HJ2.out; have := HJ23.out; have := HJ35.out; have := HJ43.out; first | omega | exact Nat.le_refl _⟩, ⟨by (with_reducible repeat (first | apply Kd.R_alloc | apply Kd.R_drewN | apply Kd.R_drew)); exact Kd.R_mono HO_9.out (fun _ hk => hk.2)⟩, ⟨by (with_reducible repeat (first | apply Kd.R_alloc | apply Kd.R_drewN | apply Kd.R_drew)); exact Kd.R_mono HO856.out (fun _ hk => hk.2)⟩, ⟨by (with_reducible repeat (first | refine blk_drewN ?_ _ | refine blk_drew ?_ | refine blk_alloc ?_ _)); exact BK833.out⟩, ⟨by repeat (first | (with_reducible first | exact HB.out | apply below_alloc | apply pw_below_drewN | apply below_drew1 | refine below_set ?_ GE833.out) | exact HB.out)⟩⟩
                            · rw [if_neg c53] at H
                              have c53b0 : (t857 == 0) = false := beq_eq_false_iff_ne.mpr c53
                              have c53b1 : (t857 != 0) = true := bne_iff_ne.mpr c53
                              (first | rw [c53b0] | (simp only [i64_w, i32_w]; rw [c53b0]) | skip)
                              have H' := Aside0.mk H
                              clear H
                              go_wp2
                              go_meet
                              case rel => exact ⟨_, (true), (by first | rfl | (simp; done) | (simp [*]; done)), H', ⟨by have := HJ2.out; have := HJ23.out; have := HJ35.out; have := HJ43.out; first | omega | exact Nat.le_refl _⟩, ⟨by (with_reducible repeat (first | apply Kd.R_alloc | apply Kd.R_drewN | apply Kd.R_drew)); exact Kd.R_mono HO_9.out (fun _ hk => hk.2)⟩, ⟨by (with_reducible repeat (first | apply Kd.R_alloc | apply Kd.R_drewN | apply Kd.R_drew)); exact Kd.R_mono HO856.out (fun _ hk => hk.2)⟩, ⟨by (with_reducible repeat (first | refine blk_drewN ?_ _ | refine blk_drew ?_ | refine blk_alloc ?_ _)); exact BK833.out⟩, ⟨by repeat (first | (with_reducible first | exact HB.out | apply below_alloc | apply pw_below_drewN | apply below_drew1 | refine below_set ?_ GE833.out) | exact HB.out)⟩⟩
                          case rest =>
                            clear HC50
                            try clear c1
                            try clear c2
                            try clear p2
                            try clear c3
                            try clear c4
                            try clear c5
                            try clear c6
                            try clear c7
                            try clear c7b0
                            try clear c7b1
                            try clear c11
                            try clear c15
                            try clear c16
                            try clear c18
                            try clear c20
                            try clear c21
                            try clear c31
                            try clear c31b0
                            try clear c31b1
                            try clear c32
                            try clear c32b0
                            try clear c32b1
                            try clear c33
                            try clear c33b0
                            try clear c33b1
                            try clear c34
                            try clear c41
                            try clear c41b0
                            try clear c41b1
                            try clear c43
                            try clear c45
                            try clear c45b0
                            try clear c45b1
                            try clear c47
                            try clear c48
                            try clear c53
                            try clear c53b0
                            try clear c53b1
                            try clear hcz10_0
                            try clear hcz12_0
                            try clear hcz14_0
                            try clear hcz16_0
                            try clear hcz25_0
                            try clear hcz27_0
                            try clear hcz29_0
                            try clear hcz37_0
                            try clear hcz51_0
                            try clear hcz8_0
                            try clear hfz10_0
                            try clear hfz12_0
                            try clear hfz14_0
                            try clear hfz16_0
                            try clear hfz25_0
                            try clear hfz27_0
                            try clear hfz29_0
                            try clear hfz37_0
                            try clear hfz51_0
                            try clear hfz8_0
                            try clear p2
                            obtain ⟨kq, x98_49, rfl, HA, HJ49, HO_9, HO_11, BK833, HB⟩ := hcut
                            cases kq with
                            | zero => exact absurd HA.out (by simp [mizmazelaw04_ShortLeast.j4])
                            | succ kj49 =>
                              have H := HA.out
                              clear HA
                              simp only [mizmazelaw04_ShortLeast.j4] at H
                              by_cases c55 : x98_49 = true
                              · subst c55
                                have H1 : (some false) = some r := by rw [if_pos rfl] at H; exact H
                                clear H
                                have H := H1
                                clear H1
                                obtain rfl := Option.some.inj H
                                go_wp2
                                go_ret
                                exact ⟨by first | rfl | (simp [errW_none, errW_some] <;> rfl) | (simp [*, errW_none, errW_some] <;> rfl), by repeat (first | (with_reducible first | exact HB.out | apply below_alloc | apply pw_below_drewN | apply below_drew1 | refine below_set ?_ GE833.out) | exact HB.out)⟩
                              · replace c55 := Bool.eq_false_iff.mpr c55
                                subst c55
                                have H1 : (if (t854.length : Int) > t844 then ((mizmazelaw04_awake.f kj49).bind fun t858 => (some t858)) else (if (l1.length : Int) > (t845.length : Int) then ((mizmazelaw04_awake.f kj49).bind fun t859 => (some t859)) else (if (l1.length : Int) = (t845.length : Int) then ((mizmazeref01_Before.f kj49 l1 t845).bind fun t860 => (if t860 = true then (some false) else ((mizmazelaw04_awake.f kj49).bind fun t861 => (some t861)))) else (some false)))) = some r := by rw [if_neg (show ¬ (false = true) by decide)] at H; exact H
                                clear H
                                have H := H1
                                clear H1
                                by_cases c56 : (t854.length : Int) > t844
                                · rw [if_pos c56] at H
                                  have c56b0 : decide (t844 < (t854.length : Int)) = true := decide_eq_true c56
                                  clear c56
                                  replace H := Option.bind_eq_some_iff.mp H
                                  obtain ⟨t858, A570, H⟩ := H
                                  replace H : (some t858) = some r := H
                                  have A57 := Aside0.mk A570
                                  clear A570
                                  obtain rfl := Option.some.inj H
                                  obtain ⟨Ao58, co58, eo58⟩ := Kd.R_slice HO_11.out
                                  subst eo58
                                  go_wp2_with (first | (go_at_call 20; (with_reducible refine (mizmazelaw04_awake.calls kj49  t858 _ A57.out).mono ?_); rintro e w59 ⟨rfl, hb⟩; have n0_ := Aside0.mk (Kd.R_below (by (with_reducible repeat (first | apply Kd.R_alloc | apply Kd.R_drewN | apply Kd.R_drew)); exact HO_9.out) hb); have n1_ := Aside0.mk (Kd.R_below (by (with_reducible repeat (first | apply Kd.R_alloc | apply Kd.R_drewN | apply Kd.R_drew)); exact HO_11.out) hb); have n2_ := Aside0.mk (blk_below (g := gb833) (o := .cells #[.slice A0_0 l0_0.length c0_0] 24 (0, 0)) (by (with_reducible repeat (first | refine blk_drewN ?_ _ | refine blk_drew ?_ | refine blk_alloc ?_ _)); exact BK833.out) hb); have n3_ := Aside0.mk (below_step (by repeat (first | (with_reducible first | exact HB.out | apply below_alloc | apply pw_below_drewN | apply below_drew1 | refine below_set ?_ GE833.out) | exact HB.out)) hb); clear HO_9; clear HO_11; clear BK833; clear HB; have HO_9 := n0_; have HO_11 := n1_; have BK833 := n2_; have HB := n3_; clear n0_ n1_ n2_ n3_; (try clear hb); (try clear hb2); (try clear hk); (try clear hi)))
                                  go_ret
                                  exact ⟨by first | rfl | (simp [errW_none, errW_some] <;> rfl) | (simp [*, errW_none, errW_some] <;> rfl), by repeat (first | (with_reducible first | exact HB.out | apply below_alloc | apply pw_below_drewN | apply below_drew1 | refine below_set ?_ GE833.out) | exact HB.out)⟩
                                · rw [if_neg c56] at H
                                  have c56b0 : decide (t844 < (t854.length : Int)) = false := decide_eq_false c56
                                  clear c56
                                  by_cases c60 : (l1.length : Int) > (t845.length : Int)
                                  · rw [if_pos c60] at H
                                    have c60b0 : decide ((t845.length : Int) < (l1.length : Int)) = true := decide_eq_true c60
                                    have c60b1 : decide (t845.length < l1.length) = true := decide_eq_true (Int.ofNat_lt.mp c60)
                                    clear c60
                                    replace H := Option.bind_eq_some_iff.mp H
                                    obtain ⟨t859, A610, H⟩ := H
                                    replace H : (some t859) = some r := H
                                    have A61 := Aside0.mk A610
                                    clear A610
                                    obtain rfl := Option.some.inj H
                                    obtain ⟨Ao62, co62, eo62⟩ := Kd.R_slice HO_11.out
                                    subst eo62
                                    go_wp2_with (first | (go_at_call 20; (with_reducible refine (mizmazelaw04_awake.calls kj49  t859 _ A61.out).mono ?_); rintro e w63 ⟨rfl, hb⟩; have n0_ := Aside0.mk (Kd.R_below (by (with_reducible repeat (first | apply Kd.R_alloc | apply Kd.R_drewN | apply Kd.R_drew)); exact HO_9.out) hb); have n1_ := Aside0.mk (Kd.R_below (by (with_reducible repeat (first | apply Kd.R_alloc | apply Kd.R_drewN | apply Kd.R_drew)); exact HO_11.out) hb); have n2_ := Aside0.mk (blk_below (g := gb833) (o := .cells #[.slice A0_0 l0_0.length c0_0] 24 (0, 0)) (by (with_reducible repeat (first | refine blk_drewN ?_ _ | refine blk_drew ?_ | refine blk_alloc ?_ _)); exact BK833.out) hb); have n3_ := Aside0.mk (below_step (by repeat (first | (with_reducible first | exact HB.out | apply below_alloc | apply pw_below_drewN | apply below_drew1 | refine below_set ?_ GE833.out) | exact HB.out)) hb); clear HO_9; clear HO_11; clear BK833; clear HB; have HO_9 := n0_; have HO_11 := n1_; have BK833 := n2_; have HB := n3_; clear n0_ n1_ n2_ n3_; (try clear hb); (try clear hb2); (try clear hk); (try clear hi)))
                                    go_ret
                                    exact ⟨by first | rfl | (simp [errW_none, errW_some] <;> rfl) | (simp [*, errW_none, errW_some] <;> rfl), by repeat (first | (with_reducible first | exact HB.out | apply below_alloc | apply pw_below_drewN | apply below_drew1 | refine below_set ?_ GE833.out) | exact HB.out)⟩
                                  · rw [if_neg c60] at H
                                    have c60b0 : decide ((t845.length : Int) < (l1.length : Int)) = false := decide_eq_false c60
                                    have c60b1 : decide (t845.length < l1.length) = false := decide_eq_false (fun h => c60 (Int.ofNat_lt.mpr h))
                                    clear c60
                                    by_cases c64 : (l1.length : Int) = (t845.length : Int)
                                    · rw [if_pos c64] at H
                                      have c64b0 : ((l1.length : Int) == (t845.length : Int)) = true := beq_iff_eq.mpr c64
                                      have c64b1 : ((l1.length : Int) != (t845.length : Int)) = false := bne_eq_false_iff_eq.mpr c64
                                      have c64b2 : (l1.length == t845.length) = true := by first | simpa using c64 | (simp at c64 ⊢; omega)
                                      clear c64
                                      replace H := Option.bind_eq_some_iff.mp H
                                      obtain ⟨t860, A650, H⟩ := H
                                      replace H : (if t860 = true then (some false) else ((mizmazelaw04_awake.f kj49).bind fun t861 => (some t861))) = some r := H
                                      have A65 := Aside0.mk A650
                                      clear A650
                                      by_cases c66 : t860 = true
                                      · subst c66
                                        have H1 : (some false) = some r := by rw [if_pos rfl] at H; exact H
                                        clear H
                                        have H := H1
                                        clear H1
                                        obtain rfl := Option.some.inj H
                                        obtain ⟨Ao67, co67, eo67⟩ := Kd.R_slice HO_11.out
                                        subst eo67
                                        go_wp2_with (first | (go_at_call 49; (with_reducible refine (mizmazeref01_Before.calls kj49 _ _ l1 _ _ t845 true _ ?side1 ?side2 ?side3 ?side4 A65.out).mono ?_); (case side1 => repeat (first | exact (Kd.C_below HR1.out HB.out) | (with_reducible refine Kd.C_alloc ?_ _) | (with_reducible refine Kd.C_drewN ?_ _) | (with_reducible refine Kd.C_drew ?_))); (case side2 => exact HC1.out); (case side3 => repeat (first | exact (Kd.R_reads' HO_9.out).2.2 | (with_reducible refine Kd.C_alloc ?_ _) | (with_reducible refine Kd.C_drewN ?_ _) | (with_reducible refine Kd.C_drew ?_))); (case side4 => exact (Kd.R_reads' HO_9.out).2.1); rintro e w' ⟨rfl, ⟨nd, rfl⟩⟩))
                                        go_ret
                                        exact ⟨by first | rfl | (simp [errW_none, errW_some] <;> rfl) | (simp [*, errW_none, errW_some] <;> rfl), by repeat (first | (with_reducible first | exact HB.out | apply below_alloc | apply pw_below_drewN | apply below_drew1 | refine below_set ?_ GE833.out) | exact HB.out)⟩
                                      · replace c66 := Bool.eq_false_iff.mpr c66
                                        subst c66
                                        have H1 : ((mizmazelaw04_awake.f kj49).bind fun t861 => (some t861)) = some r := by rw [if_neg (show ¬ (false = true) by decide)] at H; exact H
                                        clear H
                                        have H := H1
                                        clear H1
                                        replace H := Option.bind_eq_some_iff.mp H
                                        obtain ⟨t861, A680, H⟩ := H
                                        replace H : (some t861) = some r := H
                                        have A68 := Aside0.mk A680
                                        clear A680
                                        obtain rfl := Option.some.inj H
                                        obtain ⟨Ao69, co69, eo69⟩ := Kd.R_slice HO_11.out
                                        subst eo69
                                        go_wp2_with (first | (go_at_call 49; (with_reducible refine (mizmazeref01_Before.calls kj49 _ _ l1 _ _ t845 false _ ?side1 ?side2 ?side3 ?side4 A65.out).mono ?_); (case side1 => repeat (first | exact (Kd.C_below HR1.out HB.out) | (with_reducible refine Kd.C_alloc ?_ _) | (with_reducible refine Kd.C_drewN ?_ _) | (with_reducible refine Kd.C_drew ?_))); (case side2 => exact HC1.out); (case side3 => repeat (first | exact (Kd.R_reads' HO_9.out).2.2 | (with_reducible refine Kd.C_alloc ?_ _) | (with_reducible refine Kd.C_drewN ?_ _) | (with_reducible refine Kd.C_drew ?_))); (case side4 => exact (Kd.R_reads' HO_9.out).2.1); rintro e w' ⟨rfl, ⟨nd, rfl⟩⟩) | (go_at_call 20; (with_reducible refine (mizmazelaw04_awake.calls kj49  t861 _ A68.out).mono ?_); rintro e w70 ⟨rfl, hb⟩; have n0_ := Aside0.mk (Kd.R_below (by (with_reducible repeat (first | apply Kd.R_alloc | apply Kd.R_drewN | apply Kd.R_drew)); exact HO_9.out) hb); have n1_ := Aside0.mk (Kd.R_below (by (with_reducible repeat (first | apply Kd.R_alloc | apply Kd.R_drewN | apply Kd.R_drew)); exact HO_11.out) hb); have n2_ := Aside0.mk (blk_below (g := gb833) (o := .cells #[.slice A0_0 l0_0.length c0_0] 24 (0, 0)) (by (with_reducible repeat (first | refine blk_drewN ?_ _ | refine blk_drew ?_ | refine blk_alloc ?_ _)); exact BK833.out) hb); have n3_ := Aside0.mk (below_step (by repeat (first | (with_reducible first | exact HB.out | apply below_alloc | apply pw_below_drewN | apply below_drew1 | refine below_set ?_ GE833.out) | exact HB.out)) hb); clear HO_9; clear HO_11; clear BK833; clear HB; have HO_9 := n0_; have HO_11 := n1_; have BK833 := n2_; have HB := n3_; clear n0_ n1_ n2_ n3_; (try clear hb); (try clear hb2); (try clear hk); (try clear hi)))
                                        go_ret
                                        exact ⟨by first | rfl | (simp [errW_none, errW_some] <;> rfl) | (simp [*, errW_none, errW_some] <;> rfl), by repeat (first | (with_reducible first | exact HB.out | apply below_alloc | apply pw_below_drewN | apply below_drew1 | refine below_set ?_ GE833.out) | exact HB.out)⟩
                                    · rw [if_neg c64] at H
                                      have c64b0 : ((l1.length : Int) == (t845.length : Int)) = false := beq_eq_false_iff_ne.mpr c64
                                      have c64b1 : ((l1.length : Int) != (t845.length : Int)) = true := bne_iff_ne.mpr c64
                                      have c64b2 : (l1.length == t845.length) = false := by first | simpa using c64 | (simp at c64 ⊢; omega)
                                      obtain rfl := Option.some.inj H
                                      obtain ⟨Ao71, co71, eo71⟩ := Kd.R_slice HO_11.out
                                      subst eo71
                                      go_wp2
                                      go_ret
                                      exact ⟨by first | rfl | (simp [errW_none, errW_some] <;> rfl) | (simp [*, errW_none, errW_some] <;> rfl), by repeat (first | (with_reducible first | exact HB.out | apply below_alloc | apply pw_below_drewN | apply below_drew1 | refine below_set ?_ GE833.out) | exact HB.out)⟩

end Go.Proofs.Ytogoppejcmaocaa.Q
end
