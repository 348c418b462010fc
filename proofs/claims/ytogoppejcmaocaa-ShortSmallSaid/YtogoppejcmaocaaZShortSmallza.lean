/- The law ShortSmall holds: every automaton with at most 4 states and 2 letters that has a reset word has one of at most (n - 1)^2 letters, Reset finds one exactly if Shortest does, and none that is shorter; no bound on the arguments beyond their types'. (text 27 of 32) -/
import Derived.Test.YtogoppejcmaocaaZShortSmallz
import Derived.Test.YtogoppejcmaocaaZShortSmallh
import Derived.Test.YtogoppejcmaocaaZShortSmallq
import Derived.RangeFuncLeaves
import Derived.RangeFuncRecord
/-! Part XShortest -/
section
namespace Go.Proofs.Ytogoppejcmaocaa.Q
open Go.RowKit Go.Proofs.YtogoppejcmaocaaW.PrintWords Go.Proofs.YtogoppejcmaocaaW.PrintLast Go.Proofs.YtogoppejcmaocaaW.PrintMore
attribute [local go_sem] Oper.semAt_some
set_option linter.unusedVariables false
set_option linter.unusedSimpArgs false
/-! ### short.sets, the maker -/
set_option maxHeartbeats 4000000 in
set_option maxRecDepth 100000 in
theorem short_sets.makes (A0 : Option Addr) (n c0 : Nat) (w : World) :
    Calls Try.prog 52 #[.agg #[.slice A0 n c0]] w fun e w' => ∃ B : Nat, e = .returned (.func (.func 75) #[] #[.pointer (some ⟨B, 0, none⟩)]) ∧ w.heap.size ≤ B ∧ w'.heap[B]? = some (.cells #[.slice A0 n c0] 24 (0, 0)) ∧ Below w.heap.size w w' := by
  go_enter Try.func52, Try.ntmps52
  go_wp2_with (first | ((with_reducible refine gate_dst (N := 1) rfl ?_); refine box_event ?hg (N := 1) ?hd (cs := #[.slice A0 n c0]) (t := 24) ?hr ?_; (case hd => rfl); (case hg => rfl); (case hr => first | (go_simp; done) | (go_simp; rfl)); intro B hBe w1 hbox hb1; have HBE := Aside0.mk (show w.heap.size ≤ B by omega); have HX := Aside0.mk hbox; have HB := Aside0.mk hb1; clear hbox hb1 hBe))
  go_ret
  exact ⟨B, rfl, HBE.out, HX.out, HB.out⟩
/-! ### short.Shortest -/
def firstS : List (Int × List Int) → Option (List Int × Int)
  | [] => some ([], 4)
  | x :: r => (short_set_size.f x.1).bind fun n => if n = 1 then some (x.2, 0) else firstS r
def short_Shortest.f (k : Nat) (a0 : List (List Int)) : Option (List Int × Int) := (short_check.f a0).bind fun e => if e = 0 then (if 0 < a0.length then (short_sets.f k a0).bind firstS else none) else some ([], e)
theorem short_Shortest.mono : ∀ a0 k, LeO (short_Shortest.f k a0) (short_Shortest.f (k + 1) a0) := by
  intro a0 k
  unfold short_Shortest.f
  repeat' first
  | (with_reducible exact short_sets.mono _ _)
  | (with_reducible exact LeO.refl _)
  | (with_reducible refine LeO.ite ?_ ?_)
  | (with_reducible refine LeO.bind ?_ (fun _ => ?_))
structure IF (t2 t3 : TypeId) (w : World) (C2 C3 : Nat) (own : Nat → Prop) (W : World) (u2 u3 : Value) : Prop where
  below : Below w.heap.size w W
  c2 : W.heap[C2]? = some (.cells #[u2] t2 (0, 0))
  c3 : W.heap[C3]? = some (.cells #[u3] t3 (0, 0))
  n2 : ¬ own C2
  n3 : ¬ own C3
  h2 : w.heap.size ≤ C2
  h3 : w.heap.size ≤ C3
theorem blk_ltS {W : World} {g : Nat} {o : Obj} (h : W.heap[g]? = some o) : g < W.heap.size := (Array.getElem?_eq_some_iff.1 h).1
theorem KeptL.cells {base : Nat} {own : Nat → Prop} {w w' : World} (h : KeptL base own w w') {g : Nat} {cs : Array Value} {t : TypeId} {fr : Nat × Nat} (hc : w.heap[g]? = some (.cells cs t fr)) (hn : ¬ own g) : w'.heap[g]? = some (.cells cs t fr) :=
  (h.block g (blk_ltS hc) hn (Or.inr fun r e => by rw [hc] at e; cases e)).trans hc
theorem KeptL.below {w0 : World} {own : Nat → Prop} {w w' : World} (h : KeptL w0.heap.size own w w') (hb : Below w0.heap.size w0 w) (hs : ∀ b, own b → w0.heap.size ≤ b) : Below w0.heap.size w0 w' :=
  ⟨h.os.trans hb.os, h.tape.trans hb.tape, h.output.trans hb.output, Nat.le_trans hb.size h.size, fun b hlt => (h.block b (Nat.lt_of_lt_of_le hlt hb.size) (fun ho => absurd (hs b ho) (by omega)) (Or.inl hlt)).trans (hb.block b hlt)⟩
theorem IF.stable {t2 t3 : TypeId} {w : World} {C2 C3 : Nat} {own own' : Nat → Prop} {W W' : World} {u2 u3 : Value} (h : IF t2 t3 w C2 C3 own W u2 u3) (hk : KeptL w.heap.size own W W') (hs : ∀ b, own b → w.heap.size ≤ b) (hn : ∀ b, own' b → own b ∨ W.heap.size ≤ b) : IF t2 t3 w C2 C3 own' W' u2 u3 :=
  ⟨hk.below h.below hs, hk.cells h.c2 h.n2, hk.cells h.c3 h.n3, fun ho => (hn _ ho).elim h.n2 (by have := blk_ltS h.c2; omega), fun ho => (hn _ ho).elim h.n3 (by have := blk_ltS h.c3; omega), h.h2, h.h3⟩
theorem IF.next {t2 t3 : TypeId} {w : World} {C2 C3 : Nat} {own : Nat → Prop} {W W' : World} {u2 u3 : Value} (h : IF t2 t3 w C2 C3 own W u2 u3) (hb : Below W.heap.size W W') : IF t2 t3 w C2 C3 own W' u2 u3 :=
  ⟨below_step h.below hb, blk_below h.c2 hb, blk_below h.c3 hb, h.n2, h.n3, h.h2, h.h3⟩
theorem IF.start {w w1 : World} (h : Below w.heap.size w w1) : IF 25 26 w w1.heap.size (w1.heap.size + 1) (fun _ => False) ((w1.alloc (.cells #[.slice none 0 0] 25)).alloc (.cells #[.int .i64 0] 26)) (.slice none 0 0) (.int .i64 0) := by
  have hs := h.size
  refine ⟨(h.alloc hs _).alloc (by simp; omega) _, blk_alloc (World.alloc_heap_new _ _) _, ?_, id, id, hs, by omega⟩
  have := World.alloc_heap_new (w1.alloc (.cells #[.slice none 0 0] 25)) (.cells #[.int .i64 0] 26)
  rwa [World.size_alloc] at this
theorem R_stableL {base b0 : Nat} {own own' : Nat → Prop} {e : Nat} {W W' : World} {v : Value} {l : List Int} (h : Kd.R (Kd.int .i64) e W base (fun b => ¬ own b) v l) (hk : KeptL b0 own W W') (hn : ∀ b, own' b → own b ∨ W.heap.size ≤ b) : Kd.R (Kd.int .i64) e W' base (fun b => ¬ own' b) v l := by
  refine Kd.R_mono (Kd.R_step (Kd.R_bound h) fun b hb hlt => ?_) fun b hb ho => (hn b ho).elim hb.1 (by have := hb.2.2.1; omega)
  obtain ⟨hb1, _, _, q, _, cells, hc⟩ := hb
  rw [hk.cells hc hb1, hc]
theorem IF.other {t2 t3 : TypeId} {w : World} {C2 C3 : Nat} {own : Nat → Prop} {W : World} {u2 u3 : Value} (h : IF t2 t3 w C2 C3 own W u2 u3) (hne : C2 ≠ C3) (v : Value) : (W.setCell ⟨C2, 0, none⟩ v).heap[C3]? = some (.cells #[u3] t3 (0, 0)) :=
  (Below.heap_setCell W ⟨C2, 0, none⟩ v C3 (Ne.symm hne)).trans h.c3
theorem IF.putD {t2 t3 : TypeId} {w : World} {C2 C3 D : Nat} {own : Nat → Prop} {W : World} {u2 u3 : Value} {x : Option (List Deferred)} (h : IF t2 t3 w C2 C3 own W u2 u3) (hk : W.heap[D]? = some (.deferred x)) (hD : w.heap.size ≤ D) (o : Obj) : IF t2 t3 w C2 C3 own (W.putObj D o) u2 u3 := by
  have n2 : C2 ≠ D := fun e => by subst e; rw [h.c2] at hk; cases hk
  have n3 : C3 ≠ D := fun e => by subst e; rw [h.c3] at hk; cases hk
  exact ⟨⟨h.below.os, h.below.tape, h.below.output, by simpa using h.below.size, fun b hb => (World.putObj_heap_other (by omega)).trans (h.below.block b hb)⟩, (World.putObj_heap_other n2).trans h.c2, (World.putObj_heap_other n3).trans h.c3, h.n2, h.n3, h.h2, h.h3⟩
theorem R_putD {base D : Nat} {ok : Nat → Prop} {e : Nat} {W : World} {v : Value} {l : List Int} {x : Option (List Deferred)} (h : Kd.R (Kd.int .i64) e W base ok v l) (hk : W.heap[D]? = some (.deferred x)) (o : Obj) : Kd.R (Kd.int .i64) e (W.putObj D o) base (fun _ => True) v l := by
  refine Kd.R_mono (Kd.R_step (Kd.R_bound h) fun b hb hlt => ?_) fun b hb => trivial
  obtain ⟨_, _, _, q, _, cells, hc⟩ := hb
  exact World.putObj_heap_other fun e => by subst e; rw [hc] at hk; cases hk
theorem D_put {W : World} {D g : Nat} {x : Option (List Deferred)} {cs : Array Value} {t : TypeId} {fr : Nat × Nat} (hk : W.heap[D]? = some (.deferred x)) (hg : W.heap[g]? = some (.cells cs t fr)) (v : Value) : (W.setCell ⟨g, 0, none⟩ v).heap[D]? = some (.deferred x) :=
  (Below.heap_setCell W ⟨g, 0, none⟩ v D (fun e => by subst e; rw [hk] at hg; cases hg)).trans hk
theorem R_put2 {w : World} {C2 C3 base : Nat} {own ok : Nat → Prop} {W : World} {u2 u3 v v2 v3 : Value} {l : List Int} (h : Kd.R (Kd.int .i64) 3 W base ok v l) (hi : IF 25 26 w C2 C3 own W u2 u3) (_ : 3 ≠ 25 ∧ 3 ≠ 26) : Kd.R (Kd.int .i64) 3 ((W.setCell ⟨C2, 0, none⟩ v2).setCell ⟨C3, 0, none⟩ v3) base ok v l := by
  refine Kd.R_mono (Kd.R_step (Kd.R_bound h) fun b hb hlt => ?_) fun b hb => hb.1
  obtain ⟨_, _, _, q, hq, cells, hc⟩ := hb
  have hE : (Kd.int .i64).E = [] := rfl
  have hq : q = 3 := by rw [hE] at hq; simpa using hq
  subst hq
  have n2 : b ≠ C2 := fun e => by subst e; rw [hi.c2] at hc; cases hc
  have n3 : b ≠ C3 := fun e => by subst e; rw [hi.c3] at hc; cases hc
  rw [Below.heap_setCell _ ⟨C3, 0, none⟩ v3 b n3, Below.heap_setCell _ ⟨C2, 0, none⟩ v2 b n2]
theorem RoundKept.set {keep : Nat → Prop} {W : World} {g : Nat} (v : Value) (h : ¬ keep g) : RoundKept keep W (W.setCell ⟨g, 0, none⟩ v) :=
  RoundKept.of_grown (row := some g) (grownBy_setCell' W g v) fun b e => by cases e; exact h
theorem zip2 (t : Array Value) (p q : Tmp) (u v : Value) : ((#[p, q] : Array Tmp).zip #[u, v]).foldl (fun t (x : Tmp × Value) => t.setIfInBounds x.1 x.2) t = (t.setIfInBounds p u).setIfInBounds q v := by simp
theorem IF.put {t2 t3 : TypeId} {w : World} {C2 C3 : Nat} {own : Nat → Prop} {W : World} {u2 u3 : Value} (h : IF t2 t3 w C2 C3 own W u2 u3) (hne : C2 ≠ C3) (v2 v3 : Value) : IF t2 t3 w C2 C3 own ((W.setCell ⟨C2, 0, none⟩ v2).setCell ⟨C3, 0, none⟩ v3) v2 v3 := by
  have a2 := blk_put (cs := #[u2]) h.c2 0 v2 rfl
  have a3 : (W.setCell ⟨C2, 0, none⟩ v2).heap[C3]? = some (.cells #[u3] t3 (0, 0)) := (Below.heap_setCell W ⟨C2, 0, none⟩ v2 C3 (Ne.symm hne)).trans h.c3
  have b3 := blk_put (cs := #[u3]) a3 0 v3 rfl
  have b2 := (Below.heap_setCell (W.setCell ⟨C2, 0, none⟩ v2) ⟨C3, 0, none⟩ v3 C2 hne).trans a2
  exact ⟨(h.below.setCell (p := ⟨C2, 0, none⟩) h.h2 _).setCell (p := ⟨C3, 0, none⟩) h.h3 _, b2, b3, h.n2, h.n3, h.h2, h.h3⟩
theorem res_cells {fn : Func} (hf : fn.results = #[.cell 2 25, .cell 3 26]) {tmps : Array Value} {C2 C3 : Nat} (h2 : tmps.getD 2 undef = .pointer (some ⟨C2, 0, none⟩)) (h3 : tmps.getD 3 undef = .pointer (some ⟨C3, 0, none⟩)) {W : World} {A : Option Addr} {n c : Nat} {r : Int}
    (c2 : W.cell? ⟨C2, 0, none⟩ = some (.slice A n c)) (c3 : W.cell? ⟨C3, 0, none⟩ = some (.int .i64 r)) : (results fn tmps).run Try.prog W = .ok (.tuple #[.slice A n c, .int .i64 r]) W := by
  have h2' : tmps[2]?.getD undef = .pointer (some ⟨C2, 0, none⟩) := by simpa using h2
  have h3' : tmps[3]?.getD undef = .pointer (some ⟨C3, 0, none⟩) := by simpa using h3
  simp [results, hf, h2', h3', go_sem, c2, c3]
set_option maxHeartbeats 8000000 in
set_option maxRecDepth 100000 in
theorem short_Shortest.calls (k : Nat) (A0_0 : Option Addr) (c0_0 : Nat) (l0_0 : List (List Int)) (r1 : List Int) (r2 : Int) (w : World) (hr0_0 : Kd.C (Kd.slice 3 (Kd.int .i64)) w A0_0 l0_0.length l0_0) (hc0_0 : l0_0.length ≤ c0_0) (h : short_Shortest.f k l0_0 = some (r1, r2)) :
    Calls Try.prog 15 #[.agg #[.slice A0_0 l0_0.length c0_0]] w fun e w' => ∃ v0_ : Value, e = .returned (.tuple #[v0_, .int .i64 r2]) ∧ Kd.R (Kd.int .i64) 3 w' w.heap.size (fun _ => True) v0_ r1 ∧ Below w.heap.size w w' := by
  have HR := Aside0.mk hr0_0
  have HC := Aside0.mk hc0_0
  have HB0 := Below.refl w.heap.size w
  clear hr0_0 hc0_0
  obtain ⟨e, he, h⟩ := Option.bind_eq_some_iff.1 h
  have HE := Aside0.mk he
  have H := Aside0.mk h
  clear he h
  refine callsIn_wide.1 (callsIn_of_wp_marks (n := 0) Try.func15 rfl trivial (wpIn_wide.2 ?_) rfl)
  simp only [Try.ntmps15, List.size_toArray, List.length_cons, List.length_nil, Nat.reduceAdd, Nat.reduceSub, Array.replicate_succ, Array.replicate_zero, List.push_toArray, List.append_toArray, List.nil_append, List.cons_append]
  by_cases d : e = 0
  · rw [if_pos d] at H
    subst d
    have d' : ((0 : Int) == 0) = true := rfl
    go_wp2_with (first | ((with_reducible refine gate_dst (N := 1) rfl ?_); refine box_event ?hg (N := 1) ?hd (cs := #[.slice A0_0 l0_0.length c0_0]) (t := 24) ?hr ?_; (case hd => rfl); (case hg => rfl); (case hr => first | (go_simp; done) | (go_simp; rfl)); intro B hBe w1 hbox hb1; have HBE := Aside0.mk (show w.heap.size ≤ B by omega); have HB1 := Aside0.mk (below_step HB0 hb1);  have hI1 := IF.start HB1.out; have hx1 : ((w1.alloc (.cells #[.slice none 0 0] 25)).alloc (.cells #[.int .i64 0] 26)).heap[B]? = some (.cells #[.slice A0_0 l0_0.length c0_0] 24 (0, 0)) := blk_alloc (blk_alloc hbox _) _; have hcb : ((w1.alloc (.cells #[.slice none 0 0] 25)).alloc (.cells #[.int .i64 0] 26)).cell? ⟨B, 0, none⟩ = some (.slice A0_0 l0_0.length c0_0) := (blk_cell hx1 0).trans rfl; have HX := Aside0.mk hx1; have HI1 := Aside0.mk hI1; clear hbox hb1 hBe hI1 hx1)  | (go_at_call 51; refine (short_check.calls _ _ _ _ _ (Kd.C_below HR.out HI1.out.below) HC.out HE.out).mono ?_; rintro e2 w2 ⟨rfl, hb2⟩; have HI2 := Aside0.mk (HI1.out.next hb2); have hx2 := blk_below HX.out hb2; have HX2 := Aside0.mk hx2; have hcb2 : w2.cell? ⟨B, 0, none⟩ = some (.slice A0_0 l0_0.length c0_0) := (blk_cell hx2 0).trans rfl; have hc2 := blk_cell HI2.out.c2 0; have hf2 := blk_frozen HI2.out.c2 0; have hc3 := blk_cell HI2.out.c3 0; have hf3 := blk_frozen HI2.out.c3 0; simp only [List.getElem?_toArray, List.getElem?_cons_zero] at hc2 hc3; clear hb2 hx2)  | (go_at_call 52; refine (short_sets.makes _ _ _ _).mono ?_; rintro e2 w3 ⟨Bx, rfl, hBx, hx3, hb3⟩; have HI3 := Aside0.mk (HI2.out.next hb3); have HBX := Aside0.mk hBx; have HX3 := Aside0.mk hx3; clear hBx hx3 hb3))
    obtain ⟨hn, H2⟩ : 0 < l0_0.length ∧ (short_sets.f k l0_0).bind firstS = some (r1, r2) := by
      have h1 := H.out
      by_cases c : 0 < l0_0.length
      · exact ⟨c, by rw [if_pos c] at h1; exact h1⟩
      · rw [if_neg c] at h1; cases h1
    obtain ⟨L, hL, hF⟩ := Option.bind_eq_some_iff.1 H2
    have HF := Aside0.mk hF
    have HL := Aside0.mk hL
    clear H2 hF hL H hcb hcb2 hf2 hf3 hc2 hc3 d'
    have HBX' : Aside0 (w.heap.size ≤ Bx) := ⟨Nat.le_trans HI2.out.below.size HBX.out⟩
    have HN2 : Aside0 (w1.heap.size ≠ Bx) := ⟨fun e => by have := blk_ltS HI2.out.c2; have := HBX.out; omega⟩
    have HN3 : Aside0 (w1.heap.size + 1 ≠ Bx) := ⟨fun e => by have := blk_ltS HI2.out.c3; have := HBX.out; omega⟩
    have HNE : Aside0 (w1.heap.size ≠ w1.heap.size + 1) := ⟨by omega⟩
    clear HI1 HI2 HX HX2 HB1
    generalize w1.heap.size + 1 = C3 at HI3 HN3 HNE ⊢
    generalize w1.heap.size = C2 at HI3 HN2 HNE ⊢
    have seq := short_sets.seq k A0_0 c0_0 l0_0 L Bx w HR.out HC.out hn HL.out w3.heap.size
    refine wp_rangeFunc_iter (base := w.heap.size) (own0 := fun b => b = Bx) rfl (enters_ Try.func75 (by kernel_rfl) rfl) seq HI3.out.below.size (fun b hb => by subst hb; exact ⟨blk_ltS HX3.out, HBX'.out⟩) (fun W hW => ⟨below_step HI3.out.below hW, blk_below HX3.out hW, hW.size⟩) (fun own x W vs he => by obtain ⟨wv, rfl, _⟩ := he; rfl)
      (fun own pre W => IF 25 26 w C2 C3 own W (.slice none 0 0) (.int .i64 0) ∧ ∃ rest, L = pre ++ rest ∧ firstS rest = some (r1, r2))
      (fun c own pre W => c = .ret ∧ ∃ A n cp, IF 25 26 w C2 C3 own W (.slice A n cp) (.int .i64 r2) ∧ Kd.R (Kd.int .i64) 3 W w.heap.size (fun b => ¬ own b) (.slice A n cp) r1)
      ?stI ?stX ?start ?round ?done ?stop
    case stI =>
      rintro own own' s A B ⟨hi, hr⟩ hk hs hn
      exact ⟨hi.stable hk hs hn, hr⟩
    case stX =>
      rintro c own own' s A B ⟨rfl, A1, n1, c1, hi, hr⟩ hk hs hn
      exact ⟨rfl, A1, n1, c1, hi.stable hk hs hn, R_stableL hr hk hn⟩
    case start => exact ⟨⟨HI3.out.below, HI3.out.c2, HI3.out.c3, HN2.out, HN3.out, HI3.out.h2, HI3.out.h3⟩, L, rfl, HF.out⟩
    case round =>
      rintro l D own pre x vs W ⟨hi, rest, hL, hF⟩ ⟨rest2, hL2⟩ ⟨wv, rfl, hR⟩ ⟨r, hr⟩ ⟨dd, hd⟩ hl hD hnl hnD hbs
      obtain rfl : rest = x :: rest2 := List.append_cancel_left (hL.symm.trans hL2)
      obtain ⟨nz, hnz, hF2⟩ := Option.bind_eq_some_iff.1 hF
      have HNZ := Aside0.mk hnz
      have HF2 := Aside0.mk hF2
      have HP : Aside0 (L = pre ++ [x] ++ rest2) := ⟨by rw [hL2]; simp⟩
      have HI := Aside0.mk hi
      have HRV := Aside0.mk (Kd.R_lower hR HI3.out.below.size)
      have HBS := Aside0.mk hbs
      have HLW := Aside0.mk (show w.heap.size ≤ l from Nat.le_trans HI3.out.below.size hl)
      have HRL := Aside0.mk hr
      have n2l : C2 ≠ l := fun e => by subst e; rw [hi.c2] at hr; cases hr
      have n3l : C3 ≠ l := fun e => by subst e; rw [hi.c3] at hr; cases hr
      have n2D : C2 ≠ D := fun e => by subst e; rw [hi.c2] at hd; cases hd
      have n3D : C3 ≠ D := fun e => by subst e; rw [hi.c3] at hd; cases hd
      have K2 : Aside0 (¬ keepR w.heap.size own l D C2) := ⟨fun h => by rcases h with (h | h) | h | h; exact absurd hi.h2 (by omega); exact hi.n2 h; exact n2l h; exact n2D h⟩
      have K3 : Aside0 (¬ keepR w.heap.size own l D C3) := ⟨fun h => by rcases h with (h | h) | h | h; exact absurd hi.h3 (by omega); exact hi.n3 h; exact n3l h; exact n3D h⟩
      clear hi hR hbs hnz hF2 hF hL hL2 hd hr n2l n3l n2D n3D
      rw [zip2]
      simp only [List.setIfInBounds_toArray, List.set_cons_succ, List.set_cons_zero]
      gi_wp2
      refine ⟨RoundKept.refl _ _, ?_⟩
      rintro W2 ⟨r0, r1', hr1, rfl⟩
      have HK2 := Aside0.mk (KeptL.putObj (own := own) (.loop r1') hr1 HLW.out)
      have HI2 := Aside0.mk (HI.out.stable HK2.out HBS.out fun b hb => Or.inl hb)
      have HRV2 := Aside0.mk (R_stableL HRV.out HK2.out fun b hb => Or.inl hb)
      clear HK2 HI HRV hr1
      generalize W.putObj l (.loop r1') = W2 at HI2 HRV2 ⊢
      obtain ⟨Aw, cw, rfl⟩ := Kd.R_slice HRV2.out
      by_cases dn : nz = 1
      · subst dn
        have hh := HF2.out
        rw [if_pos rfl] at hh
        obtain ⟨rfl, rfl⟩ := Prod.mk.inj (Option.some.inj hh)
        have b1 : ((1 : Int) == 1) = true := rfl
        clear HF2 hh
        gi_wp2_with (refine ⟨trivial, rfl, ?_⟩; refine (CallsIn.inRound l (callsIn_wide.2 (short_set_size.calls _ _ _ HNZ.out))).mono ?_; rintro e3 W3 ⟨rfl, hd3⟩; have HB3 := Aside0.mk hd3.below; have HI4 := Aside0.mk (HI2.out.next hd3.below); have hc2 := (blk_cell HI4.out.c2 0).trans (rfl : _ = some (Value.slice none 0 0)); have hf2 := blk_frozen HI4.out.c2 0; have ho := HI4.out.other HNE.out (.slice Aw x.2.length cw); have hc3 := (blk_cell ho 0).trans (rfl : _ = some (Value.int .i64 0)); have hf3 := blk_frozen ho 0; have HRV4 := Aside0.mk (Kd.R_below HRV2.out hd3.below); clear hd3 ho)
        have HI5 := HI4.out.put HNE.out (.slice Aw x.2.length cw) (.int .i64 0)
        refine ⟨((RoundKept.of_below HB3.out).trans (RoundKept.set _ K2.out)).trans (RoundKept.set _ K3.out), rfl, _, _, _, HI5, ?_⟩
        exact R_put2 HRV4.out HI4.out (by decide)
      · have hh := HF2.out
        rw [if_neg dn] at hh
        have HF3 := Aside0.mk hh
        have b1 : (nz == 1) = false := by simp [dn]
        clear HF2 hh dn
        gi_wp2_with (refine ⟨trivial, rfl, ?_⟩; refine (CallsIn.inRound l (callsIn_wide.2 (short_set_size.calls _ _ _ HNZ.out))).mono ?_; rintro e3 W3 ⟨rfl, hd3⟩; have HB3 := Aside0.mk hd3.below; have HI4 := Aside0.mk (HI2.out.next hd3.below); clear hd3)
        exact ⟨RoundKept.of_below HB3.out, HI4.out, rest2, HP.out, HF3.out⟩
    case done =>
      rintro D own W ⟨hi, rest, hL, hF⟩ hbs hK hD
      obtain rfl : rest = [] := List.append_cancel_left (hL.symm.trans (List.append_nil L).symm)
      obtain ⟨rfl, rfl⟩ := Prod.mk.inj (Option.some.inj hF)
      have HI := Aside0.mk hi
      have HK := Aside0.mk hK
      have hc2 : W.cell? ⟨C2, 0, none⟩ = some (.slice none 0 0) := (blk_cell hi.c2 0).trans rfl
      have hf2 := blk_frozen hi.c2 0
      have ho := hi.other HNE.out (.slice none 0 0)
      have hc3 : (W.setCell ⟨C2, 0, none⟩ (.slice none 0 0)).cell? ⟨C3, 0, none⟩ = some (.int .i64 0) := (blk_cell ho 0).trans rfl
      have hf3 := blk_frozen ho 0
      have HD := Aside0.mk (show w.heap.size ≤ D from Nat.le_trans HI3.out.below.size hD)
      clear hi hK hL hF seq ho
      go_wp2_with fail
      have hK4 := D_put (D_put HK.out HI.out.c2 (.slice none 0 0)) (HI.out.other HNE.out (.slice none 0 0)) (.int .i64 4)
      have HI4 := (HI.out.put HNE.out (.slice none 0 0) (.int .i64 4)).putD hK4 HD.out (.deferred none)
      refine ⟨by simp, .inl ⟨_, _, rfl, run_takeDeferred hK4, ?_⟩⟩
      exact ⟨_, res_cells rfl rfl rfl ((blk_cell HI4.c2 0).trans rfl) ((blk_cell HI4.c3 0).trans rfl), _, rfl, Kd.R_nil _ _ _ _ _, HI4.below⟩
    case stop =>
      rintro D c own pre W ⟨rfl, A1, n1, c1, hi, hR⟩ hbs hK hD
      have HI := Aside0.mk hi
      have HK := Aside0.mk hK
      have HRV := Aside0.mk hR
      have HD := Aside0.mk (show w.heap.size ≤ D from Nat.le_trans HI3.out.below.size hD)
      clear hi hK hR seq
      go_wp2_with fail
      have HI4 := HI.out.putD HK.out HD.out (.deferred none)
      refine ⟨by simp, .inl ⟨_, _, rfl, run_takeDeferred HK.out, ?_⟩⟩
      exact ⟨_, res_cells rfl rfl rfl ((blk_cell HI4.c2 0).trans rfl) ((blk_cell HI4.c3 0).trans rfl), _, rfl, R_putD HRV.out HK.out _, HI4.below⟩
  · rw [if_neg d] at H
    have hh := Option.some.inj H.out
    obtain ⟨rfl, rfl⟩ := Prod.mk.inj hh
    have d' : (e == 0) = false := by simp [d]
    clear H hh
    go_wp2_with (first | ((with_reducible refine gate_dst (N := 1) rfl ?_); refine box_event ?hg (N := 1) ?hd (cs := #[.slice A0_0 l0_0.length c0_0]) (t := 24) ?hr ?_; (case hd => rfl); (case hg => rfl); (case hr => first | (go_simp; done) | (go_simp; rfl)); intro B hBe w1 hbox hb1; have HBE := Aside0.mk (show w.heap.size ≤ B by omega); have HB1 := Aside0.mk (below_step HB0 hb1);  have hI1 := IF.start HB1.out; have hx1 : ((w1.alloc (.cells #[.slice none 0 0] 25)).alloc (.cells #[.int .i64 0] 26)).heap[B]? = some (.cells #[.slice A0_0 l0_0.length c0_0] 24 (0, 0)) := blk_alloc (blk_alloc hbox _) _; have hcb : ((w1.alloc (.cells #[.slice none 0 0] 25)).alloc (.cells #[.int .i64 0] 26)).cell? ⟨B, 0, none⟩ = some (.slice A0_0 l0_0.length c0_0) := (blk_cell hx1 0).trans rfl; have HX := Aside0.mk hx1; have HI1 := Aside0.mk hI1; clear hbox hb1 hBe hI1 hx1)  | (go_at_call 51; refine (short_check.calls _ _ _ _ _ (Kd.C_below HR.out HI1.out.below) HC.out HE.out).mono ?_; rintro e2 w2 ⟨rfl, hb2⟩; have HI2 := Aside0.mk (HI1.out.next hb2); have hx2 := blk_below HX.out hb2; have HX2 := Aside0.mk hx2; have hcb2 : w2.cell? ⟨B, 0, none⟩ = some (.slice A0_0 l0_0.length c0_0) := (blk_cell hx2 0).trans rfl; have hc2 := blk_cell HI2.out.c2 0; have hf2 := blk_frozen HI2.out.c2 0; have hc3 := blk_cell HI2.out.c3 0; have hf3 := blk_frozen HI2.out.c3 0; simp only [List.getElem?_toArray, List.getElem?_cons_zero] at hc2 hc3; clear hb2 hx2))
    have HI4 := Aside0.mk (HI2.out.put (by omega) (.slice none 0 0) (.int .i64 e))
    refine ⟨_, res_cells rfl rfl rfl ((blk_cell HI4.out.c2 0).trans rfl) ((blk_cell HI4.out.c3 0).trans rfl), _, rfl, Kd.R_nil _ _ _ _ _, HI4.out.below⟩
end Go.Proofs.Ytogoppejcmaocaa.Q
end
/-! Part XRank -/
section
namespace Go.Proofs.Ytogoppejcmaocaa.Q
open Go.RowKit Go.Proofs.YtogoppejcmaocaaW.PrintWords Go.Proofs.YtogoppejcmaocaaW.PrintLast Go.Proofs.YtogoppejcmaocaaW.PrintMore
attribute [local go_sem] Oper.semAt_some
set_option linter.unusedVariables false
set_option linter.unusedSimpArgs false
/-! ### short.Rank -/
def rankS : List (Int × List Int) → Int → List Int → Option (Int × List Int)
  | [], n, b => some (n, b)
  | x :: r, n, b => (short_set_size.f x.1).bind fun c => if c < n then rankS r c x.2 else rankS r n b
def short_Rank.f (k : Nat) (a0 : List (List Int)) : Option (Int × List Int × Int) := (short_check.f a0).bind fun e => if e = 0 then (if 0 < a0.length then (short_sets.f k a0).bind fun L => (rankS L (wrap64 ((a0.length : Int) + 1)) []).bind fun p => some (p.1, p.2, 0) else none) else some (0, [], e)
theorem short_Rank.mono : ∀ a0 k, LeO (short_Rank.f k a0) (short_Rank.f (k + 1) a0) := by
  intro a0 k
  unfold short_Rank.f
  repeat' first
  | (with_reducible exact short_sets.mono _ _)
  | (with_reducible exact LeO.refl _)
  | (with_reducible refine LeO.ite ?_ ?_)
  | (with_reducible refine LeO.bind ?_ (fun _ => ?_))
theorem IF.startR {w w1 : World} (z : Int) (h : Below w.heap.size w w1) : IF 3 25 w w1.heap.size (w1.heap.size + 1) (fun _ => False) ((w1.alloc (.cells #[.int .i64 z] 3)).alloc (.cells #[.slice none 0 0] 25)) (.int .i64 z) (.slice none 0 0) := by
  have hs := h.size
  refine ⟨(h.alloc hs _).alloc (by simp; omega) _, blk_alloc (World.alloc_heap_new _ _) _, ?_, id, id, hs, by omega⟩
  have := World.alloc_heap_new (w1.alloc (.cells #[.int .i64 z] 3)) (.cells #[.slice none 0 0] 25)
  rwa [World.size_alloc] at this
theorem R_putB {C2 C3 base : Nat} {ok : Nat → Prop} {e : Nat} {W : World} {v v2 v3 : Value} {l : List Int} (h : Kd.R (Kd.int .i64) e W base ok v l) (h2 : C2 < base) (h3 : C3 < base) : Kd.R (Kd.int .i64) e ((W.setCell ⟨C2, 0, none⟩ v2).setCell ⟨C3, 0, none⟩ v3) base ok v l := by
  refine Kd.R_mono (Kd.R_step (Kd.R_bound h) fun b hb hlt => ?_) fun b hb => hb.1
  have hb1 : base ≤ b := hb.2.1
  rw [Below.heap_setCell _ ⟨C3, 0, none⟩ v3 b (fun e => by have e : b = C3 := e; omega), Below.heap_setCell _ ⟨C2, 0, none⟩ v2 b (fun e => by have e : b = C2 := e; omega)]
set_option maxHeartbeats 8000000 in
set_option maxRecDepth 100000 in
theorem short_Rank.calls (k : Nat) (A0_0 : Option Addr) (c0_0 : Nat) (l0_0 : List (List Int)) (r1 : Int) (r2 : List Int) (r3 : Int) (w : World) (hr0_0 : Kd.C (Kd.slice 3 (Kd.int .i64)) w A0_0 l0_0.length l0_0) (hc0_0 : l0_0.length ≤ c0_0) (h : short_Rank.f k l0_0 = some (r1, r2, r3)) :
    Calls Try.prog 21 #[.agg #[.slice A0_0 l0_0.length c0_0]] w fun e w' => ∃ v0_ : Value, e = .returned (.tuple #[.int .i64 r1, v0_, .int .i64 r3]) ∧ Kd.R (Kd.int .i64) 3 w' w.heap.size (fun _ => True) v0_ r2 ∧ Below w.heap.size w w' := by
  have HR := Aside0.mk hr0_0
  have HC := Aside0.mk hc0_0
  have HB0 := Below.refl w.heap.size w
  clear hr0_0 hc0_0
  obtain ⟨e, he, h⟩ := Option.bind_eq_some_iff.1 h
  have HE := Aside0.mk he
  have H := Aside0.mk h
  clear he h
  refine callsIn_wide.1 (callsIn_of_wp_marks (n := 0) Try.func21 rfl trivial (wpIn_wide.2 ?_) rfl)
  simp only [Try.ntmps21, List.size_toArray, List.length_cons, List.length_nil, Nat.reduceAdd, Nat.reduceSub, Array.replicate_succ, Array.replicate_zero, List.push_toArray, List.append_toArray, List.nil_append, List.cons_append]
  by_cases d : e = 0
  · rw [if_pos d] at H
    subst d
    have d' : ((0 : Int) == 0) = true := rfl
    go_wp2_with (first | ((with_reducible refine gate_dst (N := 1) rfl ?_); refine box_event ?hg (N := 1) ?hd (cs := #[.slice A0_0 l0_0.length c0_0]) (t := 24) ?hr ?_; (case hd => rfl); (case hg => rfl); (case hr => first | (go_simp; done) | (go_simp; rfl)); intro B hBe w1 hbox hb1; have HBE := Aside0.mk (show w.heap.size ≤ B by omega); have HB1 := Aside0.mk (below_step HB0 hb1); have hcb : w1.cell? ⟨B, 0, none⟩ = some (.slice A0_0 l0_0.length c0_0) := (blk_cell hbox 0).trans rfl; have HX := Aside0.mk hbox; clear hbox hb1 hBe)  | (go_at_call 51; refine (short_check.calls _ _ _ _ _ (Kd.C_below HR.out HB1.out) HC.out HE.out).mono ?_; rintro e2 w2 ⟨rfl, hb2⟩; have HB2 := Aside0.mk (below_step HB1.out hb2); have hx2 := blk_below HX.out hb2; have HX2 := Aside0.mk hx2; have hcb2 : w2.cell? ⟨B, 0, none⟩ = some (.slice A0_0 l0_0.length c0_0) := (blk_cell hx2 0).trans rfl; have hx4 : ((w2.alloc (.cells #[.int .i64 (wrap64 ((l0_0.length : Int) + 1))] 3)).alloc (.cells #[.slice none 0 0] 25)).heap[B]? = some (.cells #[.slice A0_0 l0_0.length c0_0] 24 (0, 0)) := blk_alloc (blk_alloc hx2 _) _; have hcb4 : ((w2.alloc (.cells #[.int .i64 (wrap64 ((l0_0.length : Int) + 1))] 3)).alloc (.cells #[.slice none 0 0] 25)).cell? ⟨B, 0, none⟩ = some (.slice A0_0 l0_0.length c0_0) := (blk_cell hx4 0).trans rfl; have HI4 := Aside0.mk (IF.startR (wrap64 ((l0_0.length : Int) + 1)) HB2.out); have HX4 := Aside0.mk hx4; clear hb2 hx2 hx4)  | (go_at_call 52; refine (short_sets.makes _ _ _ _).mono ?_; rintro e2 w3 ⟨Bx, rfl, hBx, hx3, hb3⟩; have HI3 := Aside0.mk (HI4.out.next hb3); have HBX := Aside0.mk hBx; have HX3 := Aside0.mk hx3; have HS3 := Aside0.mk hb3.size; clear hBx hx3 hb3))
    obtain ⟨hn, H2⟩ : 0 < l0_0.length ∧ (short_sets.f k l0_0).bind (fun L => (rankS L (wrap64 ((l0_0.length : Int) + 1)) []).bind fun p => some (p.1, p.2, (0 : Int))) = some (r1, r2, r3) := by
      have h1 := H.out
      by_cases c : 0 < l0_0.length
      · exact ⟨c, by rw [if_pos c] at h1; exact h1⟩
      · rw [if_neg c] at h1; cases h1
    obtain ⟨L, hL, hG⟩ := Option.bind_eq_some_iff.1 H2
    obtain ⟨⟨p1, p2⟩, hF, hp⟩ := Option.bind_eq_some_iff.1 hG
    simp only [Option.some.injEq, Prod.mk.injEq] at hp
    obtain ⟨rfl, rfl, rfl⟩ := hp
    have HF := Aside0.mk hF
    have HL := Aside0.mk hL
    have HBX' : Aside0 (w.heap.size ≤ Bx) := ⟨Nat.le_trans HI4.out.below.size HBX.out⟩
    have HN2 : Aside0 (w2.heap.size ≠ Bx) := ⟨fun e => by have := blk_ltS HI4.out.c2; have := HBX.out; omega⟩
    have HN3 : Aside0 (w2.heap.size + 1 ≠ Bx) := ⟨fun e => by have := blk_ltS HI4.out.c3; have := HBX.out; omega⟩
    have HNE : Aside0 (w2.heap.size ≠ w2.heap.size + 1) := ⟨by omega⟩
    have HL2 : Aside0 (w2.heap.size < w3.heap.size) := ⟨by have := blk_ltS HI3.out.c2; omega⟩
    have HL3 : Aside0 (w2.heap.size + 1 < w3.heap.size) := ⟨by have := blk_ltS HI3.out.c3; omega⟩
    clear H2 hF hG hL H hcb hcb2 hcb4 d' HI4 HX HX2 HX4 HB1
    generalize w2.heap.size + 1 = C3 at HI3 HN3 HNE HL3 ⊢
    generalize w2.heap.size = C2 at HI3 HN2 HNE HL2 ⊢
    have seq := short_sets.seq k A0_0 c0_0 l0_0 L Bx w HR.out HC.out hn HL.out w3.heap.size
    refine wp_rangeFunc_iter (base := w.heap.size) (own0 := fun b => b = Bx) rfl (enters_ Try.func75 (by kernel_rfl) rfl) seq HI3.out.below.size (fun b hb => by subst hb; exact ⟨blk_ltS HX3.out, HBX'.out⟩) (fun W hW => ⟨below_step HI3.out.below hW, blk_below HX3.out hW, hW.size⟩) (fun own x W vs he => by obtain ⟨wv, rfl, _⟩ := he; rfl)
      (fun own pre W => ∃ (nr : Int) (br : List Int) (A : Option Addr) (n cp : Nat) (rest : List (Int × List Int)), IF 3 25 w C2 C3 own W (.int .i64 nr) (.slice A n cp) ∧ Kd.R (Kd.int .i64) 3 W w3.heap.size (fun b => ¬ own b) (.slice A n cp) br ∧ L = pre ++ rest ∧ rankS rest nr br = some (p1, p2))
      (fun _ _ _ _ => False)
      ?stI ?stX ?start ?round ?done ?stop
    case stI =>
      rintro own own' s A B ⟨nr, br, A1, n1, c1, rest, hi, hR, hr⟩ hk hs hn
      exact ⟨nr, br, A1, n1, c1, rest, hi.stable hk hs hn, R_stableL hR hk hn, hr⟩
    case stX => exact fun _ _ _ _ _ _ h _ _ _ => h.elim
    case start => exact ⟨_, [], none, 0, 0, L, ⟨HI3.out.below, HI3.out.c2, HI3.out.c3, HN2.out, HN3.out, HI3.out.h2, HI3.out.h3⟩, Kd.R_nil _ _ _ _ _, rfl, HF.out⟩
    case round =>
      rintro l D own pre x vs W ⟨nr, br, A1, n1, c1, rest, hi, hRb, hL, hF⟩ ⟨rest2, hL2⟩ ⟨wv, rfl, hR⟩ ⟨r, hr⟩ ⟨dd, hd⟩ hl hD hnl hnD hbs
      obtain rfl : rest = x :: rest2 := List.append_cancel_left (hL.symm.trans hL2)
      obtain ⟨nz, hnz, hF2⟩ := Option.bind_eq_some_iff.1 hF
      have HNZ := Aside0.mk hnz
      have HF2 := Aside0.mk hF2
      have HP : Aside0 (L = pre ++ [x] ++ rest2) := ⟨by rw [hL2]; simp⟩
      have HI := Aside0.mk hi
      have HRV := Aside0.mk hR
      have HRB := Aside0.mk hRb
      have HBS := Aside0.mk hbs
      have HLW := Aside0.mk (show w.heap.size ≤ l from Nat.le_trans HI3.out.below.size hl)
      have n2l : C2 ≠ l := fun e => by subst e; rw [hi.c2] at hr; cases hr
      have n3l : C3 ≠ l := fun e => by subst e; rw [hi.c3] at hr; cases hr
      have n2D : C2 ≠ D := fun e => by subst e; rw [hi.c2] at hd; cases hd
      have n3D : C3 ≠ D := fun e => by subst e; rw [hi.c3] at hd; cases hd
      have K2 : Aside0 (¬ keepR w.heap.size own l D C2) := ⟨fun h => by rcases h with (h | h) | h | h; exact absurd hi.h2 (by omega); exact hi.n2 h; exact n2l h; exact n2D h⟩
      have K3 : Aside0 (¬ keepR w.heap.size own l D C3) := ⟨fun h => by rcases h with (h | h) | h | h; exact absurd hi.h3 (by omega); exact hi.n3 h; exact n3l h; exact n3D h⟩
      clear hi hR hRb hbs hnz hF2 hF hL hL2 hd hr n2l n3l n2D n3D
      rw [zip2]
      simp only [List.setIfInBounds_toArray, List.set_cons_succ, List.set_cons_zero]
      gi_wp2
      refine ⟨RoundKept.refl _ _, ?_⟩
      rintro W2 ⟨r0, r1', hr1, rfl⟩
      have HK2 := Aside0.mk (KeptL.putObj (own := own) (.loop r1') hr1 HLW.out)
      have HI2 := Aside0.mk (HI.out.stable HK2.out HBS.out fun b hb => Or.inl hb)
      have HRV2 := Aside0.mk (R_stableL HRV.out HK2.out fun b hb => Or.inl hb)
      have HRB2 := Aside0.mk (R_stableL HRB.out HK2.out fun b hb => Or.inl hb)
      clear HK2 HI HRV HRB hr1
      generalize W.putObj l (.loop r1') = W2 at HI2 HRV2 HRB2 ⊢
      obtain ⟨Aw, cw, rfl⟩ := Kd.R_slice HRV2.out
      by_cases dn : nz < nr
      · have hh := HF2.out
        rw [if_pos dn] at hh
        have HF3 := Aside0.mk hh
        have b1 : decide (nz < nr) = true := decide_eq_true dn
        clear HF2 hh
        gi_wp2_with (refine ⟨trivial, rfl, ?_⟩; refine (CallsIn.inRound l (callsIn_wide.2 (short_set_size.calls _ _ _ HNZ.out))).mono ?_; rintro e3 W3 ⟨rfl, hd3⟩; have HB3 := Aside0.mk hd3.below; have HI4 := Aside0.mk (HI2.out.next hd3.below); have hc2 := (blk_cell HI4.out.c2 0).trans (rfl : _ = some (Value.int .i64 nr)); have hf2 := blk_frozen HI4.out.c2 0; have ho := HI4.out.other HNE.out (.int .i64 nz); have hc3 := (blk_cell ho 0).trans (rfl : _ = some (Value.slice A1 n1 c1)); have hf3 := blk_frozen ho 0; have HRV4 := Aside0.mk (Kd.R_below HRV2.out hd3.below); clear hd3 ho)
        have HI5 := HI4.out.put HNE.out (.int .i64 nz) (.slice Aw x.2.length cw)
        exact ⟨((RoundKept.of_below HB3.out).trans (RoundKept.set _ K2.out)).trans (RoundKept.set _ K3.out), nz, x.2, _, _, _, rest2, HI5, R_putB HRV4.out HL2.out HL3.out, HP.out, HF3.out⟩
      · have hh := HF2.out
        rw [if_neg dn] at hh
        have HF3 := Aside0.mk hh
        have b1 : decide (nz < nr) = false := decide_eq_false dn
        clear HF2 hh dn
        gi_wp2_with (refine ⟨trivial, rfl, ?_⟩; refine (CallsIn.inRound l (callsIn_wide.2 (short_set_size.calls _ _ _ HNZ.out))).mono ?_; rintro e3 W3 ⟨rfl, hd3⟩; have HB3 := Aside0.mk hd3.below; have HI4 := Aside0.mk (HI2.out.next hd3.below); have hc2 := (blk_cell HI4.out.c2 0).trans (rfl : _ = some (Value.int .i64 nr)); have HRB4 := Aside0.mk (Kd.R_below HRB2.out hd3.below); clear hd3)
        exact ⟨RoundKept.of_below HB3.out, nr, br, _, _, _, rest2, HI4.out, HRB4.out, HP.out, HF3.out⟩
    case done =>
      rintro D own W ⟨nr, br, A1, n1, c1, rest, hi, hRb, hL, hF⟩ hbs hK hD
      obtain rfl : rest = [] := List.append_cancel_left (hL.symm.trans (List.append_nil L).symm)
      obtain ⟨rfl, rfl⟩ := Prod.mk.inj (Option.some.inj hF)
      have HI := Aside0.mk hi
      have HK := Aside0.mk hK
      have HRB := Aside0.mk hRb
      have hc2 : W.cell? ⟨C2, 0, none⟩ = some (.int .i64 nr) := (blk_cell hi.c2 0).trans rfl
      have hc3 : W.cell? ⟨C3, 0, none⟩ = some (.slice A1 n1 c1) := (blk_cell hi.c3 0).trans rfl
      have HD := Aside0.mk (show w.heap.size ≤ D from Nat.le_trans HI3.out.below.size hD)
      clear hi hK hRb hL hF seq
      go_wp2_with fail
      go_quiet (fail)
      go_wp2_with fail
      have hb9 := pw_below_drewN (Below.refl W.heap.size W) nq
      have hK4 := (hb9.block D (blk_ltS HK.out)).trans HK.out
      have HI4 := (HI.out.next hb9).putD hK4 HD.out (.deferred none)
      refine ⟨by simp, .inl ⟨_, _, rfl, run_takeDeferred hK4, ?_⟩⟩
      exact ⟨_, results_tmp3 rfl _ _ _, _, rfl, Kd.R_lower (R_putD (Kd.R_below HRB.out hb9) hK4 _) HI3.out.below.size, HI4.below⟩
    case stop => exact fun _ _ _ _ _ h _ _ _ => h.elim
  · rw [if_neg d] at H
    have hh := Option.some.inj H.out
    simp only [Prod.mk.injEq] at hh
    obtain ⟨rfl, rfl, rfl⟩ := hh
    have d' : (e == 0) = false := by simp [d]
    clear H
    go_wp2_with (first | ((with_reducible refine gate_dst (N := 1) rfl ?_); refine box_event ?hg (N := 1) ?hd (cs := #[.slice A0_0 l0_0.length c0_0]) (t := 24) ?hr ?_; (case hd => rfl); (case hg => rfl); (case hr => first | (go_simp; done) | (go_simp; rfl)); intro B hBe w1 hbox hb1; have HBE := Aside0.mk (show w.heap.size ≤ B by omega); have HB1 := Aside0.mk (below_step HB0 hb1); have hcb : w1.cell? ⟨B, 0, none⟩ = some (.slice A0_0 l0_0.length c0_0) := (blk_cell hbox 0).trans rfl; have HX := Aside0.mk hbox; clear hbox hb1 hBe)  | (go_at_call 51; refine (short_check.calls _ _ _ _ _ (Kd.C_below HR.out HB1.out) HC.out HE.out).mono ?_; rintro e2 w2 ⟨rfl, hb2⟩; have HB2 := Aside0.mk (below_step HB1.out hb2); have hx2 := blk_below HX.out hb2; have HX2 := Aside0.mk hx2; have hcb2 : w2.cell? ⟨B, 0, none⟩ = some (.slice A0_0 l0_0.length c0_0) := (blk_cell hx2 0).trans rfl; clear hb2 hx2))
    exact ⟨_, results_tmp3 rfl _ _ _, _, rfl, Kd.R_nil _ _ _ _ _, HB2.out⟩
end Go.Proofs.Ytogoppejcmaocaa.Q
end
/-! Part QLaw04Awake -/
section
-- Written by xprint.py, a program of this session's, over the kit's print. Lean checks it.
namespace Go.Proofs.Ytogoppejcmaocaa.Q
open Go.RowKit Go.Proofs.YtogoppejcmaocaaW.PrintWords Go.Proofs.YtogoppejcmaocaaW.PrintLast Go.Proofs.YtogoppejcmaocaaW.PrintMore
attribute [local go_sem] max2_int min2_int max_two min_two max_three min_three max_four min_four
set_option linter.unusedVariables false
set_option linter.unusedSimpArgs false

/-! ### mizmazelaw04_awake: function 20 -/
def mizmazelaw04_awake.f (k : Nat)  : Option (Bool) := (short_Cerny.f k 3).bind fun bt117 => ((short_Shortest.f k bt117.1).bind fun bt122 => ((short_Rank.f k (([(([1, 1] : List Int)), (([0, 0] : List Int))] : List (List Int)))).bind fun bt135 => (if bt117.2 = 0 then ((mizmazeref01_Sames.f k bt117.1 (([(([1, 0] : List Int)), (([2, 1] : List Int)), (([0, 0] : List Int))] : List (List Int)))).bind fun t152 => (if t152 = true then (if bt122.2 = 0 then ((mizmazeref01_Same.f k bt122.1 (([1, 0, 0, 1] : List Int))).bind fun t156 => (if t156 = true then (if bt135.2.2 = 0 then (if bt135.1 = 2 then (some ((bt135.2.1.length : Int) == 0)) else (none)) else (none)) else (none))) else (none)) else (none))) else (none))))
theorem mizmazelaw04_awake.mono : ∀ k, LeO (mizmazelaw04_awake.f k ) (mizmazelaw04_awake.f (k + 1) ) := by
  intro  k
  unfold mizmazelaw04_awake.f
  repeat' first
      | (with_reducible exact mizmazeref01_Same.mono _ _ _)
      | (with_reducible exact mizmazeref01_Sames.mono _ _ _)
      | (with_reducible exact short_Cerny.mono _ _)
      | (with_reducible exact short_Rank.mono _ _)
      | (with_reducible exact short_Shortest.mono _ _)
      | (with_reducible exact LeO.refl _)
      | (with_reducible exact LeO.none _)
      | (with_reducible refine LeO.ite ?_ ?_)
      | (with_reducible refine LeO.bind ?_ (fun _ => ?_))
      | exact mizmazeref01_Same.mono _ _ _
      | exact mizmazeref01_Sames.mono _ _ _
      | exact short_Cerny.mono _ _
      | exact short_Rank.mono _ _
      | exact short_Shortest.mono _ _
      | exact LeO.none _
      | refine LeO.ite ?_ ?_
      | refine LeO.bind ?_ (fun _ => ?_)
set_option maxHeartbeats 8000000 in
set_option maxRecDepth 100000 in
theorem mizmazelaw04_awake.calls (k : Nat)  (r : Bool) (w : World) (h : mizmazelaw04_awake.f k  = some r) :
    Calls Try.prog 20 #[] w fun e w' => e = .returned (.bool r) ∧ Below w.heap.size w w' := by
  have hu24 := Try.underlying24
  have HB := Aside0.mk (Below.refl w.heap.size w)
  have H : ((short_Cerny.f k 3).bind fun bt117 => ((short_Shortest.f k bt117.1).bind fun bt122 => ((short_Rank.f k (([(([1, 1] : List Int)), (([0, 0] : List Int))] : List (List Int)))).bind fun bt135 => (if bt117.2 = 0 then ((mizmazeref01_Sames.f k bt117.1 (([(([1, 0] : List Int)), (([2, 1] : List Int)), (([0, 0] : List Int))] : List (List Int)))).bind fun t152 => (if t152 = true then (if bt122.2 = 0 then ((mizmazeref01_Same.f k bt122.1 (([1, 0, 0, 1] : List Int))).bind fun t156 => (if t156 = true then (if bt135.2.2 = 0 then (if bt135.1 = 2 then (some ((bt135.2.1.length : Int) == 0)) else (none)) else (none)) else (none))) else (none)) else (none))) else (none))))) = some r := h
  clear h
  replace H := Option.bind_eq_some_iff.mp H
  obtain ⟨⟨t117, t120⟩, A10, H⟩ := H
  replace H : ((short_Shortest.f k t117).bind fun bt122 => ((short_Rank.f k (([(([1, 1] : List Int)), (([0, 0] : List Int))] : List (List Int)))).bind fun bt135 => (if t120 = 0 then ((mizmazeref01_Sames.f k t117 (([(([1, 0] : List Int)), (([2, 1] : List Int)), (([0, 0] : List Int))] : List (List Int)))).bind fun t152 => (if t152 = true then (if bt122.2 = 0 then ((mizmazeref01_Same.f k bt122.1 (([1, 0, 0, 1] : List Int))).bind fun t156 => (if t156 = true then (if bt135.2.2 = 0 then (if bt135.1 = 2 then (some ((bt135.2.1.length : Int) == 0)) else (none)) else (none)) else (none))) else (none)) else (none))) else (none)))) = some r := H
  have A1 := Aside0.mk A10
  clear A10
  replace H := Option.bind_eq_some_iff.mp H
  obtain ⟨⟨t122, t125⟩, A20, H⟩ := H
  replace H : ((short_Rank.f k (([(([1, 1] : List Int)), (([0, 0] : List Int))] : List (List Int)))).bind fun bt135 => (if t120 = 0 then ((mizmazeref01_Sames.f k t117 (([(([1, 0] : List Int)), (([2, 1] : List Int)), (([0, 0] : List Int))] : List (List Int)))).bind fun t152 => (if t152 = true then (if t125 = 0 then ((mizmazeref01_Same.f k t122 (([1, 0, 0, 1] : List Int))).bind fun t156 => (if t156 = true then (if bt135.2.2 = 0 then (if bt135.1 = 2 then (some ((bt135.2.1.length : Int) == 0)) else (none)) else (none)) else (none))) else (none)) else (none))) else (none))) = some r := H
  have A2 := Aside0.mk A20
  clear A20
  obtain ⟨y126, hy126⟩ : ∃ y_ : List Int, y_ = (([1, 1] : List Int)) := ⟨_, rfl⟩
  replace H : ((short_Rank.f k (([y126, (([0, 0] : List Int))] : List (List Int)))).bind fun bt135 => (if t120 = 0 then ((mizmazeref01_Sames.f k t117 (([(([1, 0] : List Int)), (([2, 1] : List Int)), (([0, 0] : List Int))] : List (List Int)))).bind fun t152 => (if t152 = true then (if t125 = 0 then ((mizmazeref01_Same.f k t122 (([1, 0, 0, 1] : List Int))).bind fun t156 => (if t156 = true then (if bt135.2.2 = 0 then (if bt135.1 = 2 then (some ((bt135.2.1.length : Int) == 0)) else (none)) else (none)) else (none))) else (none)) else (none))) else (none))) = some r := by first | (rw [hy126]; with_reducible exact H) | (have H2_ := (Option.bind_some _ _).symm.trans H; rw [hy126]; with_reducible exact H2_) | (have H2_ := (Option.bind_some _ _).symm.trans H; with_reducible exact H2_) | with_reducible exact H | (rw [hy126]; exact H) | exact H
  have Ny126 := Aside0.mk hy126
  clear hy126
  obtain ⟨y129, hy129⟩ : ∃ y_ : List Int, y_ = (([0, 0] : List Int)) := ⟨_, rfl⟩
  replace H : ((short_Rank.f k (([y126, y129] : List (List Int)))).bind fun bt135 => (if t120 = 0 then ((mizmazeref01_Sames.f k t117 (([(([1, 0] : List Int)), (([2, 1] : List Int)), (([0, 0] : List Int))] : List (List Int)))).bind fun t152 => (if t152 = true then (if t125 = 0 then ((mizmazeref01_Same.f k t122 (([1, 0, 0, 1] : List Int))).bind fun t156 => (if t156 = true then (if bt135.2.2 = 0 then (if bt135.1 = 2 then (some ((bt135.2.1.length : Int) == 0)) else (none)) else (none)) else (none))) else (none)) else (none))) else (none))) = some r := by first | (rw [hy129]; with_reducible exact H) | (have H2_ := (Option.bind_some _ _).symm.trans H; rw [hy129]; with_reducible exact H2_) | (have H2_ := (Option.bind_some _ _).symm.trans H; with_reducible exact H2_) | with_reducible exact H | (rw [hy129]; exact H) | exact H
  have Ny129 := Aside0.mk hy129
  clear hy129
  obtain ⟨y132, hy132⟩ : ∃ y_ : List (List Int), y_ = (([y126, y129] : List (List Int))) := ⟨_, rfl⟩
  replace H : ((short_Rank.f k y132).bind fun bt135 => (if t120 = 0 then ((mizmazeref01_Sames.f k t117 (([(([1, 0] : List Int)), (([2, 1] : List Int)), (([0, 0] : List Int))] : List (List Int)))).bind fun t152 => (if t152 = true then (if t125 = 0 then ((mizmazeref01_Same.f k t122 (([1, 0, 0, 1] : List Int))).bind fun t156 => (if t156 = true then (if bt135.2.2 = 0 then (if bt135.1 = 2 then (some ((bt135.2.1.length : Int) == 0)) else (none)) else (none)) else (none))) else (none)) else (none))) else (none))) = some r := by first | (rw [hy132]; with_reducible exact H) | (have H2_ := (Option.bind_some _ _).symm.trans H; rw [hy132]; with_reducible exact H2_) | (have H2_ := (Option.bind_some _ _).symm.trans H; with_reducible exact H2_) | with_reducible exact H | (rw [hy132]; exact H) | exact H
  have Ny132 := Aside0.mk hy132
  clear hy132
  replace H := Option.bind_eq_some_iff.mp H
  obtain ⟨⟨t135, t136, t139⟩, A30, H⟩ := H
  replace H : (if t120 = 0 then ((mizmazeref01_Sames.f k t117 (([(([1, 0] : List Int)), (([2, 1] : List Int)), (([0, 0] : List Int))] : List (List Int)))).bind fun t152 => (if t152 = true then (if t125 = 0 then ((mizmazeref01_Same.f k t122 (([1, 0, 0, 1] : List Int))).bind fun t156 => (if t156 = true then (if t139 = 0 then (if t135 = 2 then (some ((t136.length : Int) == 0)) else (none)) else (none)) else (none))) else (none)) else (none))) else (none)) = some r := H
  have A3 := Aside0.mk A30
  clear A30
  by_cases c4 : t120 = 0
  · rw [if_pos c4] at H
    have c4b0 : (t120 == 0) = true := beq_iff_eq.mpr c4
    have c4b1 : (t120 != 0) = false := bne_eq_false_iff_eq.mpr c4
    clear c4
    obtain ⟨y140, hy140⟩ : ∃ y_ : List Int, y_ = (([1, 0] : List Int)) := ⟨_, rfl⟩
    replace H : ((mizmazeref01_Sames.f k t117 (([y140, (([2, 1] : List Int)), (([0, 0] : List Int))] : List (List Int)))).bind fun t152 => (if t152 = true then (if t125 = 0 then ((mizmazeref01_Same.f k t122 (([1, 0, 0, 1] : List Int))).bind fun t156 => (if t156 = true then (if t139 = 0 then (if t135 = 2 then (some ((t136.length : Int) == 0)) else (none)) else (none)) else (none))) else (none)) else (none))) = some r := by first | (rw [hy140]; with_reducible exact H) | (have H2_ := (Option.bind_some _ _).symm.trans H; rw [hy140]; with_reducible exact H2_) | (have H2_ := (Option.bind_some _ _).symm.trans H; with_reducible exact H2_) | with_reducible exact H | (rw [hy140]; exact H) | exact H
    have Ny140 := Aside0.mk hy140
    clear hy140
    obtain ⟨y143, hy143⟩ : ∃ y_ : List Int, y_ = (([2, 1] : List Int)) := ⟨_, rfl⟩
    replace H : ((mizmazeref01_Sames.f k t117 (([y140, y143, (([0, 0] : List Int))] : List (List Int)))).bind fun t152 => (if t152 = true then (if t125 = 0 then ((mizmazeref01_Same.f k t122 (([1, 0, 0, 1] : List Int))).bind fun t156 => (if t156 = true then (if t139 = 0 then (if t135 = 2 then (some ((t136.length : Int) == 0)) else (none)) else (none)) else (none))) else (none)) else (none))) = some r := by first | (rw [hy143]; with_reducible exact H) | (have H2_ := (Option.bind_some _ _).symm.trans H; rw [hy143]; with_reducible exact H2_) | (have H2_ := (Option.bind_some _ _).symm.trans H; with_reducible exact H2_) | with_reducible exact H | (rw [hy143]; exact H) | exact H
    have Ny143 := Aside0.mk hy143
    clear hy143
    obtain ⟨y146, hy146⟩ : ∃ y_ : List Int, y_ = (([0, 0] : List Int)) := ⟨_, rfl⟩
    replace H : ((mizmazeref01_Sames.f k t117 (([y140, y143, y146] : List (List Int)))).bind fun t152 => (if t152 = true then (if t125 = 0 then ((mizmazeref01_Same.f k t122 (([1, 0, 0, 1] : List Int))).bind fun t156 => (if t156 = true then (if t139 = 0 then (if t135 = 2 then (some ((t136.length : Int) == 0)) else (none)) else (none)) else (none))) else (none)) else (none))) = some r := by first | (rw [hy146]; with_reducible exact H) | (have H2_ := (Option.bind_some _ _).symm.trans H; rw [hy146]; with_reducible exact H2_) | (have H2_ := (Option.bind_some _ _).symm.trans H; with_reducible exact H2_) | with_reducible exact H | (rw [hy146]; exact H) | exact H
    have Ny146 := Aside0.mk hy146
    clear hy146
    obtain ⟨y149, hy149⟩ : ∃ y_ : List (List Int), y_ = (([y140, y143, y146] : List (List Int))) := ⟨_, rfl⟩
    replace H : ((mizmazeref01_Sames.f k t117 y149).bind fun t152 => (if t152 = true then (if t125 = 0 then ((mizmazeref01_Same.f k t122 (([1, 0, 0, 1] : List Int))).bind fun t156 => (if t156 = true then (if t139 = 0 then (if t135 = 2 then (some ((t136.length : Int) == 0)) else (none)) else (none)) else (none))) else (none)) else (none))) = some r := by first | (rw [hy149]; with_reducible exact H) | (have H2_ := (Option.bind_some _ _).symm.trans H; rw [hy149]; with_reducible exact H2_) | (have H2_ := (Option.bind_some _ _).symm.trans H; with_reducible exact H2_) | with_reducible exact H | (rw [hy149]; exact H) | exact H
    have Ny149 := Aside0.mk hy149
    clear hy149
    replace H := Option.bind_eq_some_iff.mp H
    obtain ⟨t152, A50, H⟩ := H
    replace H : (if t152 = true then (if t125 = 0 then ((mizmazeref01_Same.f k t122 (([1, 0, 0, 1] : List Int))).bind fun t156 => (if t156 = true then (if t139 = 0 then (if t135 = 2 then (some ((t136.length : Int) == 0)) else (none)) else (none)) else (none))) else (none)) else (none)) = some r := H
    have A5 := Aside0.mk A50
    clear A50
    by_cases c6 : t152 = true
    · subst c6
      have H1 : (if t125 = 0 then ((mizmazeref01_Same.f k t122 (([1, 0, 0, 1] : List Int))).bind fun t156 => (if t156 = true then (if t139 = 0 then (if t135 = 2 then (some ((t136.length : Int) == 0)) else (none)) else (none)) else (none))) else (none)) = some r := by rw [if_pos rfl] at H; exact H
      clear H
      have H := H1
      clear H1
      by_cases c7 : t125 = 0
      · rw [if_pos c7] at H
        have c7b0 : (t125 == 0) = true := beq_iff_eq.mpr c7
        have c7b1 : (t125 != 0) = false := bne_eq_false_iff_eq.mpr c7
        clear c7
        obtain ⟨y153, hy153⟩ : ∃ y_ : List Int, y_ = (([1, 0, 0, 1] : List Int)) := ⟨_, rfl⟩
        replace H : ((mizmazeref01_Same.f k t122 y153).bind fun t156 => (if t156 = true then (if t139 = 0 then (if t135 = 2 then (some ((t136.length : Int) == 0)) else (none)) else (none)) else (none))) = some r := by first | (rw [hy153]; with_reducible exact H) | (have H2_ := (Option.bind_some _ _).symm.trans H; rw [hy153]; with_reducible exact H2_) | (have H2_ := (Option.bind_some _ _).symm.trans H; with_reducible exact H2_) | with_reducible exact H | (rw [hy153]; exact H) | exact H
        have Ny153 := Aside0.mk hy153
        clear hy153
        replace H := Option.bind_eq_some_iff.mp H
        obtain ⟨t156, A80, H⟩ := H
        replace H : (if t156 = true then (if t139 = 0 then (if t135 = 2 then (some ((t136.length : Int) == 0)) else (none)) else (none)) else (none)) = some r := H
        have A8 := Aside0.mk A80
        clear A80
        by_cases c9 : t156 = true
        · subst c9
          have H1 : (if t139 = 0 then (if t135 = 2 then (some ((t136.length : Int) == 0)) else (none)) else (none)) = some r := by rw [if_pos rfl] at H; exact H
          clear H
          have H := H1
          clear H1
          by_cases c10 : t139 = 0
          · rw [if_pos c10] at H
            have c10b0 : (t139 == 0) = true := beq_iff_eq.mpr c10
            have c10b1 : (t139 != 0) = false := bne_eq_false_iff_eq.mpr c10
            clear c10
            by_cases c11 : t135 = 2
            · rw [if_pos c11] at H
              have c11b0 : (t135 == 2) = true := beq_iff_eq.mpr c11
              have c11b1 : (t135 != 2) = false := bne_eq_false_iff_eq.mpr c11
              clear c11
              obtain rfl := Option.some.inj H
              go_enter Try.func20, Try.ntmps20
              go_wp2_with (first | ((with_reducible refine gate_callee (f := 23) rfl ?_); refine goesL_ (some 9) rfl rfl Try.func23 (by kernel_rfl) rfl #[.int .i64 3] rfl (by (try simp only [List.map_toArray, List.map_cons, List.map_nil]); first | done | rfl | (simp only [List.length_drop, List.length_take]; rfl)) ?_; (with_reducible refine (short_Cerny.calls k 3 t117 t120 _ A1.out).mono ?_); rintro e w12 ⟨v118, rfl, ho0, hb⟩; refine ⟨_, rfl, ?_⟩; have n0_ := Aside0.mk (Kd.N_lower (Kd.N_mono (ok' := fun k_ => True) (Kd.S_N (Kd.S_bound ho0)) (fun k_ hk_ => trivial)) (below_size (by repeat (first | (with_reducible first | exact HB.out | apply below_alloc | apply pw_below_drewN | apply below_drew1) | exact HB.out)))); have n1_ := Aside0.mk (below_step (by repeat (first | (with_reducible first | exact HB.out | apply below_alloc | apply pw_below_drewN | apply below_drew1) | exact HB.out)) hb); clear HB; have HO119 := n0_; have HB := n1_; clear n0_ n1_; (try clear hb); (try clear hb2); (try clear hk); (try clear hi); (try clear ho0)) | ((with_reducible refine gate_dst (N := 1) rfl ?_); (try (refine gate_guard (by rfl) ?_; dsimp only)); refine box_event ?hg (N := 1) ?hd (cs := #[.slice none 0 0]) (t := 24) ?hr ?_; (case hd => rfl); (case hg => rfl); (case hr => first | (go_simp; done) | (go_simp; rfl)); intro gb121 hg w13 hbox hb; have n0_ := Aside0.mk (Kd.N_below (Kd.N_elderB (by (with_reducible repeat (first | apply Kd.N_alloc | apply Kd.N_drewN | apply Kd.N_drew)); exact HO119.out) gb121 (Nat.le_of_eq hg.symm)) hb); have n1_ := Aside0.mk (below_step (by repeat (first | (with_reducible first | exact HB.out | apply below_alloc | apply pw_below_drewN | apply below_drew1) | exact HB.out)) hb); have n2_ := Aside0.mk (hbox); have n3_ := Aside0.mk ((by rw [hg]; exact (below_size (by repeat (first | (with_reducible first | exact HB.out | apply below_alloc | apply pw_below_drewN | apply below_drew1) | exact HB.out))) : w.heap.size ≤ gb121)); have n4_ := Aside0.mk ((by rw [hg]; exact (below_size (by repeat (first | (with_reducible first | exact HB.out | apply below_alloc | apply pw_below_drewN | apply below_drew1) | exact HB.out))) : w.heap.size ≤ gb121)); clear HO119; clear HB; have HO119 := n0_; have HB := n1_; have BK121 := n2_; have GW121 := n3_; have GE121 := n4_; clear n0_ n1_ n2_ n3_ n4_; clear hb hbox hg; obtain ⟨Ao14, co14, eo14⟩ := Kd.N_slice HO119.out; subst eo14; have hcz15_0 : w13.cell? ⟨gb121, 0, none⟩ = some (.slice none 0 0) := (blk_cell BK121.out 0).trans rfl; have hfz15_0 := blk_frozen BK121.out 0) | ((with_reducible refine gate_callee (f := 15) rfl ?_); refine goesL_ (some 14) rfl rfl Try.func15 (by kernel_rfl) rfl #[.agg #[.slice Ao14 t117.length co14]] rfl (by (try simp only [List.map_toArray, List.map_cons, List.map_nil]); first | done | rfl | (simp only [List.length_drop, List.length_take]; rfl)) ?_; (with_reducible refine (short_Shortest.calls k _ _ t117 t122 t125 _ ?side1 ?side2 A2.out).mono ?_); (case side1 => refine (Kd.N_reads' (e := 25) (base := w.heap.size) (ok := fun k_ => (True ∧ k_ ≠ gb121)) (n := t117.length) (c := co14) ?_).2.2; exact (by (with_reducible repeat (first | apply Kd.N_alloc | apply Kd.N_drewN | apply Kd.N_drew)); exact (Kd.N_mono (Kd.N_far (p := ⟨gb121, 0, none⟩) (Kd.N_mono HO119.out (fun k_ hk => (⟨hk, hk.2⟩ : _ ∧ k_ ≠ gb121))) (fun _ hk => hk.2) (.slice Ao14 t117.length co14)) (fun _ h_ => h_.1)))); (case side2 => exact (Kd.N_reads' HO119.out).2.1); rintro e w16 ⟨v123, rfl, ho0, hb⟩; refine ⟨_, rfl, ?_⟩; have n0_ := Aside0.mk (Kd.N_elder' (by (with_reducible repeat (first | apply Kd.N_alloc | apply Kd.N_drewN | apply Kd.N_drew)); exact (Kd.N_mono (Kd.N_far (p := ⟨gb121, 0, none⟩) (Kd.N_mono HO119.out (fun k_ hk => (⟨hk, hk.2⟩ : _ ∧ k_ ≠ gb121))) (fun _ hk => hk.2) (.slice Ao14 t117.length co14)) (fun _ h_ => h_.1))) (Kd.R_base ho0) hb); have n1_ := Aside0.mk (Kd.R_lower ho0 (below_size (by repeat (first | (with_reducible first | exact HB.out | apply below_alloc | apply pw_below_drewN | apply below_drew1 | refine below_set ?_ GE121.out) | exact HB.out)))); have n2_ := Aside0.mk (blk_below (g := gb121) (o := .cells #[.slice Ao14 t117.length co14] 24 (0, 0)) (by (with_reducible repeat (first | refine blk_drewN ?_ _ | refine blk_drew ?_ | refine blk_alloc ?_ _)); refine blk_put (cs := #[.slice none 0 0]) ?_ 0 _ rfl; (with_reducible repeat (first | refine blk_drewN ?_ _ | refine blk_drew ?_ | refine blk_alloc ?_ _)); exact BK121.out) hb); have n3_ := Aside0.mk (below_step (by repeat (first | (with_reducible first | exact HB.out | apply below_alloc | apply pw_below_drewN | apply below_drew1 | refine below_set ?_ GE121.out) | exact HB.out)) hb); clear HO119; clear BK121; clear HB; have HO119 := n0_; have HO124 := n1_; have BK121 := n2_; have HB := n3_; clear n0_ n1_ n2_ n3_; (try clear hb); (try clear hb2); (try clear hk); (try clear hi); (try clear ho0)) | ((with_reducible refine gate_dst (N := 18) rfl ?_); (try (refine gate_guard (by rfl) ?_; dsimp only)); refine Kd.R_lit (Kd.int .i64) _ 3 ?hg (N := 18) ?hd (xs := ([1, 1] : List Int)) (inner := [.int .i64 1, .int .i64 1]) (ok := fun _ => True) (okp := fun _ => True) ?hr ?hp (fun _ hk => hk) trivial (Below.refl _ _) (Nat.le_refl _) (by simp) ?_; (case hd => rfl); (case hg => rfl); (case hr => first | (go_simp; done) | (go_simp; rfl)); (case hp => exact (Reps.one (show Kd.M (Kd.int .i64) _ _ _ 1 [.int .i64 1] from rfl) (Reps.one (show Kd.M (Kd.int .i64) _ _ _ 1 [.int .i64 1] from rfl) (Reps.none _ _)))); intro v127 w17 ho18 hb hg_ hnew_; clear hg_ hnew_; (first | rw [← Ny126.out] at ho18 | (simp only [Int.reduceToNat] at ho18; rw [← Ny126.out] at ho18)); have n0_ := Aside0.mk (Kd.N_elder' (by (with_reducible repeat (first | apply Kd.N_alloc | apply Kd.N_drewN | apply Kd.N_drew)); exact HO119.out) (Kd.R_base ho18) hb); have n1_ := Aside0.mk (Kd.R_elder' (by (with_reducible repeat (first | apply Kd.R_alloc | apply Kd.R_drewN | apply Kd.R_drew)); exact HO124.out) (Kd.R_base ho18) hb); have n2_ := Aside0.mk (Kd.R_lower (Kd.R_new' ho18 (Kd.R_lt (by (with_reducible repeat (first | apply Kd.R_alloc | apply Kd.R_drewN | apply Kd.R_drew)); exact HO124.out))) (below_size (by repeat (first | (with_reducible first | exact HB.out | apply below_alloc | apply pw_below_drewN | apply below_drew1 | refine below_set ?_ GE121.out) | exact HB.out)))); have n3_ := Aside0.mk (blk_below (g := gb121) (o := .cells #[.slice Ao14 t117.length co14] 24 (0, 0)) (by (with_reducible repeat (first | refine blk_drewN ?_ _ | refine blk_drew ?_ | refine blk_alloc ?_ _)); exact BK121.out) hb); have n4_ := Aside0.mk (below_step (by repeat (first | (with_reducible first | exact HB.out | apply below_alloc | apply pw_below_drewN | apply below_drew1 | refine below_set ?_ GE121.out) | exact HB.out)) hb); clear HO119; clear HO124; clear BK121; clear HB; have HO119 := n0_; have HO124 := n1_; have HO128 := n2_; have BK121 := n3_; have HB := n4_; clear n0_ n1_ n2_ n3_ n4_; clear hb ho18) | ((with_reducible refine gate_dst (N := 19) rfl ?_); (try (refine gate_guard (by rfl) ?_; dsimp only)); refine Kd.R_lit (Kd.int .i64) _ 3 ?hg (N := 19) ?hd (xs := ([0, 0] : List Int)) (inner := [.int .i64 0, .int .i64 0]) (ok := fun _ => True) (okp := fun _ => True) ?hr ?hp (fun _ hk => hk) trivial (Below.refl _ _) (Nat.le_refl _) (by simp) ?_; (case hd => rfl); (case hg => rfl); (case hr => first | (go_simp; done) | (go_simp; rfl)); (case hp => exact (Reps.one (show Kd.M (Kd.int .i64) _ _ _ 0 [.int .i64 0] from rfl) (Reps.one (show Kd.M (Kd.int .i64) _ _ _ 0 [.int .i64 0] from rfl) (Reps.none _ _)))); intro v130 w19 ho20 hb hg_ hnew_; clear hg_ hnew_; (first | rw [← Ny129.out] at ho20 | (simp only [Int.reduceToNat] at ho20; rw [← Ny129.out] at ho20)); have n0_ := Aside0.mk (Kd.N_elder' (by (with_reducible repeat (first | apply Kd.N_alloc | apply Kd.N_drewN | apply Kd.N_drew)); exact HO119.out) (Kd.R_base ho20) hb); have n1_ := Aside0.mk (Kd.R_elder' (by (with_reducible repeat (first | apply Kd.R_alloc | apply Kd.R_drewN | apply Kd.R_drew)); exact HO124.out) (Kd.R_base ho20) hb); have n2_ := Aside0.mk (Kd.R_elder' (by (with_reducible repeat (first | apply Kd.R_alloc | apply Kd.R_drewN | apply Kd.R_drew)); exact HO128.out) (Kd.R_base ho20) hb); have n3_ := Aside0.mk (Kd.R_lower (Kd.R_new' (Kd.R_new' ho20 (Kd.R_lt (by (with_reducible repeat (first | apply Kd.R_alloc | apply Kd.R_drewN | apply Kd.R_drew)); exact HO124.out))) (Kd.R_lt (by (with_reducible repeat (first | apply Kd.R_alloc | apply Kd.R_drewN | apply Kd.R_drew)); exact HO128.out))) (below_size (by repeat (first | (with_reducible first | exact HB.out | apply below_alloc | apply pw_below_drewN | apply below_drew1 | refine below_set ?_ GE121.out) | exact HB.out)))); have n4_ := Aside0.mk (blk_below (g := gb121) (o := .cells #[.slice Ao14 t117.length co14] 24 (0, 0)) (by (with_reducible repeat (first | refine blk_drewN ?_ _ | refine blk_drew ?_ | refine blk_alloc ?_ _)); exact BK121.out) hb); have n5_ := Aside0.mk (below_step (by repeat (first | (with_reducible first | exact HB.out | apply below_alloc | apply pw_below_drewN | apply below_drew1 | refine below_set ?_ GE121.out) | exact HB.out)) hb); clear HO119; clear HO124; clear HO128; clear BK121; clear HB; have HO119 := n0_; have HO124 := n1_; have HO128 := n2_; have HO131 := n3_; have BK121 := n4_; have HB := n5_; clear n0_ n1_ n2_ n3_ n4_ n5_; clear hb ho20; obtain ⟨Ao21, co21, eo21⟩ := Kd.R_slice HO128.out; subst eo21; obtain ⟨Ao22, co22, eo22⟩ := Kd.R_slice HO131.out; subst eo22) | ((with_reducible refine gate_dst (N := 20) rfl ?_); (try (refine gate_guard (by rfl) ?_; dsimp only)); refine Kd.N_lit (Kd.slice 3 (Kd.int .i64)) _ 25 ?hg (N' := 20) ?hd (xs := ([y126, y129] : List (List Int))) (inner := [.slice Ao21 y126.length co21, .slice Ao22 y129.length co22]) (ok := (fun k_ => some k_ ≠ (.slice Ao14 t117.length co14 : Value).ownBlock ∧ some k_ ≠ (v123 : Value).ownBlock ∧ k_ ≠ gb121)) (okp := (fun k_ => some k_ ≠ (.slice Ao14 t117.length co14 : Value).ownBlock ∧ some k_ ≠ (v123 : Value).ownBlock ∧ k_ ≠ gb121)) ?hr ?hp (fun _ hk => hk) ((show ∀ k_, w19.heap.size ≤ k_ → (fun k_ => some k_ ≠ (.slice Ao14 t117.length co14 : Value).ownBlock ∧ some k_ ≠ (v123 : Value).ownBlock ∧ k_ ≠ gb121) k_ from fun k_ hk => ⟨Kd.fresh' (Kd.N_lt (by (with_reducible repeat (first | apply Kd.N_alloc | apply Kd.N_drewN | apply Kd.N_drew)); exact HO119.out)) k_ hk, Kd.fresh' (Kd.R_lt (by (with_reducible repeat (first | apply Kd.R_alloc | apply Kd.R_drewN | apply Kd.R_drew)); exact HO124.out)) k_ hk, Kd.freshB (g := gb121) (o := .cells #[.slice Ao14 t117.length co14] 24 (0, 0)) (by (with_reducible repeat (first | refine blk_drewN ?_ _ | refine blk_drew ?_ | refine blk_alloc ?_ _)); exact BK121.out) k_ hk⟩) _ (Nat.le_refl _)) (Below.refl _ _) (Nat.le_refl _) (by simp) ?_; (case hd => rfl); (case hg => rfl); (case hr => first | (go_simp; done) | (go_simp; rfl)); (case hp => exact (Reps.one (show Kd.FK (Kd.slice 3 (Kd.int .i64)) _ _ y126 [.slice Ao21 y126.length co21] from (Kd.FK_slice_mk (Kd.R_reads' (Kd.R_mono (ok' := (fun k_ => some k_ ≠ (.slice Ao14 t117.length co14 : Value).ownBlock ∧ some k_ ≠ (v123 : Value).ownBlock ∧ k_ ≠ gb121)) (Kd.R_types (Kd.R_apart' (HO128.out) (Kd.N_typed HO119.out) (by decide)) BK121.out (by decide)) (fun k_ hk => ⟨hk.1.2, ⟨hk.1.1.1.2, hk.2⟩⟩))).2.1 (Kd.R_F (Kd.R_mono (ok' := (fun k_ => some k_ ≠ (.slice Ao14 t117.length co14 : Value).ownBlock ∧ some k_ ≠ (v123 : Value).ownBlock ∧ k_ ≠ gb121)) (Kd.R_types (Kd.R_apart' (HO128.out) (Kd.N_typed HO119.out) (by decide)) BK121.out (by decide)) (fun k_ hk => ⟨hk.1.2, ⟨hk.1.1.1.2, hk.2⟩⟩))))) (Reps.one (show Kd.FK (Kd.slice 3 (Kd.int .i64)) _ _ y129 [.slice Ao22 y129.length co22] from (Kd.FK_slice_mk (Kd.R_reads' (Kd.R_mono (ok' := (fun k_ => some k_ ≠ (.slice Ao14 t117.length co14 : Value).ownBlock ∧ some k_ ≠ (v123 : Value).ownBlock ∧ k_ ≠ gb121)) (Kd.R_types (Kd.R_apart' (HO131.out) (Kd.N_typed HO119.out) (by decide)) BK121.out (by decide)) (fun k_ hk => ⟨hk.1.2, ⟨hk.1.1.1.2, hk.2⟩⟩))).2.1 (Kd.R_F (Kd.R_mono (ok' := (fun k_ => some k_ ≠ (.slice Ao14 t117.length co14 : Value).ownBlock ∧ some k_ ≠ (v123 : Value).ownBlock ∧ k_ ≠ gb121)) (Kd.R_types (Kd.R_apart' (HO131.out) (Kd.N_typed HO119.out) (by decide)) BK121.out (by decide)) (fun k_ hk => ⟨hk.1.2, ⟨hk.1.1.1.2, hk.2⟩⟩))))) (Reps.none _ _)))); intro v133 w23 ho24 hb hg_ hnew_; clear hg_ hnew_; (first | rw [← Ny132.out] at ho24 | (simp only [Int.reduceToNat] at ho24; rw [← Ny132.out] at ho24)); have n0_ := Aside0.mk (Kd.N_elder' (by (with_reducible repeat (first | apply Kd.N_alloc | apply Kd.N_drewN | apply Kd.N_drew)); exact HO119.out) (by first | exact Kd.N_base ho24 | exact Kd.S_base ho24 | exact Kd.R_base ho24) hb); have n1_ := Aside0.mk (Kd.R_below (by (with_reducible repeat (first | apply Kd.R_alloc | apply Kd.R_drewN | apply Kd.R_drew)); exact HO124.out) hb); have n2_ := Aside0.mk (Kd.N_lower ho24 (below_size (by repeat (first | (with_reducible first | exact HB.out | apply below_alloc | apply pw_below_drewN | apply below_drew1 | refine below_set ?_ GE121.out) | exact HB.out)))); have n3_ := Aside0.mk (blk_below (g := gb121) (o := .cells #[.slice Ao14 t117.length co14] 24 (0, 0)) (by (with_reducible repeat (first | refine blk_drewN ?_ _ | refine blk_drew ?_ | refine blk_alloc ?_ _)); exact BK121.out) hb); have n4_ := Aside0.mk (below_step (by repeat (first | (with_reducible first | exact HB.out | apply below_alloc | apply pw_below_drewN | apply below_drew1 | refine below_set ?_ GE121.out) | exact HB.out)) hb); clear HO119; clear HO124; clear BK121; clear HB; clear HO128; clear HO131; have HO119 := n0_; have HO124 := n1_; have HO134 := n2_; have BK121 := n3_; have HB := n4_; clear n0_ n1_ n2_ n3_ n4_; clear hb ho24; obtain ⟨Ao25, co25, eo25⟩ := Kd.N_slice HO134.out; subst eo25) | ((with_reducible refine gate_callee (f := 21) rfl ?_); refine goesL_ (some 22) rfl rfl Try.func21 (by kernel_rfl) rfl #[.agg #[.slice Ao25 y132.length co25]] rfl (by (try simp only [List.map_toArray, List.map_cons, List.map_nil]); first | done | rfl | (simp only [List.length_drop, List.length_take]; rfl)) ?_; (with_reducible refine (short_Rank.calls k _ _ y132 t135 t136 t139 _ ?side1 ?side2 A3.out).mono ?_); (case side1 => repeat (first | exact (Kd.N_reads' HO134.out).2.2 | (with_reducible refine Kd.C_alloc ?_ _) | (with_reducible refine Kd.C_drewN ?_ _) | (with_reducible refine Kd.C_drew ?_))); (case side2 => exact (Kd.N_reads' HO134.out).2.1); rintro e w26 ⟨v137, rfl, ho0, hb⟩; refine ⟨_, rfl, ?_⟩; have n0_ := Aside0.mk (Kd.N_elder' (by (with_reducible repeat (first | apply Kd.N_alloc | apply Kd.N_drewN | apply Kd.N_drew)); exact HO119.out) (Kd.R_base ho0) hb); have n1_ := Aside0.mk (Kd.R_elder' (by (with_reducible repeat (first | apply Kd.R_alloc | apply Kd.R_drewN | apply Kd.R_drew)); exact HO124.out) (Kd.R_base ho0) hb); have n2_ := Aside0.mk (Kd.N_elder' (by (with_reducible repeat (first | apply Kd.N_alloc | apply Kd.N_drewN | apply Kd.N_drew)); exact HO134.out) (Kd.R_base ho0) hb); have n3_ := Aside0.mk (Kd.R_lower (Kd.R_new' ho0 (Kd.R_lt (by (with_reducible repeat (first | apply Kd.R_alloc | apply Kd.R_drewN | apply Kd.R_drew)); exact HO124.out))) (below_size (by repeat (first | (with_reducible first | exact HB.out | apply below_alloc | apply pw_below_drewN | apply below_drew1 | refine below_set ?_ GE121.out) | exact HB.out)))); have n4_ := Aside0.mk (blk_below (g := gb121) (o := .cells #[.slice Ao14 t117.length co14] 24 (0, 0)) (by (with_reducible repeat (first | refine blk_drewN ?_ _ | refine blk_drew ?_ | refine blk_alloc ?_ _)); exact BK121.out) hb); have n5_ := Aside0.mk (below_step (by repeat (first | (with_reducible first | exact HB.out | apply below_alloc | apply pw_below_drewN | apply below_drew1 | refine below_set ?_ GE121.out) | exact HB.out)) hb); clear HO119; clear HO124; clear HO134; clear BK121; clear HB; have HO119 := n0_; have HO124 := n1_; have HO134 := n2_; have HO138 := n3_; have BK121 := n4_; have HB := n5_; clear n0_ n1_ n2_ n3_ n4_ n5_; (try clear hb); (try clear hb2); (try clear hk); (try clear hi); (try clear ho0); have hcz27_0 : w26.cell? ⟨gb121, 0, none⟩ = some (.slice Ao14 t117.length co14) := (blk_cell BK121.out 0).trans rfl; have hfz27_0 := blk_frozen BK121.out 0) | ((with_reducible refine gate_dst (N := 31) rfl ?_); (try (refine gate_guard (by rfl) ?_; dsimp only)); refine Kd.R_lit (Kd.int .i64) _ 3 ?hg (N := 31) ?hd (xs := ([1, 0] : List Int)) (inner := [.int .i64 1, .int .i64 0]) (ok := fun _ => True) (okp := fun _ => True) ?hr ?hp (fun _ hk => hk) trivial (Below.refl _ _) (Nat.le_refl _) (by simp) ?_; (case hd => rfl); (case hg => rfl); (case hr => first | (go_simp; done) | (go_simp; rfl)); (case hp => exact (Reps.one (show Kd.M (Kd.int .i64) _ _ _ 1 [.int .i64 1] from rfl) (Reps.one (show Kd.M (Kd.int .i64) _ _ _ 0 [.int .i64 0] from rfl) (Reps.none _ _)))); intro v141 w28 ho29 hb hg_ hnew_; clear hg_ hnew_; (first | rw [← Ny140.out] at ho29 | (simp only [Int.reduceToNat] at ho29; rw [← Ny140.out] at ho29)); have n0_ := Aside0.mk (Kd.N_elder' (by (with_reducible repeat (first | apply Kd.N_alloc | apply Kd.N_drewN | apply Kd.N_drew)); exact HO119.out) (Kd.R_base ho29) hb); have n1_ := Aside0.mk (Kd.R_elder' (by (with_reducible repeat (first | apply Kd.R_alloc | apply Kd.R_drewN | apply Kd.R_drew)); exact HO124.out) (Kd.R_base ho29) hb); have n2_ := Aside0.mk (Kd.N_elder' (by (with_reducible repeat (first | apply Kd.N_alloc | apply Kd.N_drewN | apply Kd.N_drew)); exact HO134.out) (Kd.R_base ho29) hb); have n3_ := Aside0.mk (Kd.R_elder' (by (with_reducible repeat (first | apply Kd.R_alloc | apply Kd.R_drewN | apply Kd.R_drew)); exact HO138.out) (Kd.R_base ho29) hb); have n4_ := Aside0.mk (Kd.R_lower (Kd.R_new' (Kd.R_new' ho29 (Kd.R_lt (by (with_reducible repeat (first | apply Kd.R_alloc | apply Kd.R_drewN | apply Kd.R_drew)); exact HO124.out))) (Kd.R_lt (by (with_reducible repeat (first | apply Kd.R_alloc | apply Kd.R_drewN | apply Kd.R_drew)); exact HO138.out))) (below_size (by repeat (first | (with_reducible first | exact HB.out | apply below_alloc | apply pw_below_drewN | apply below_drew1 | refine below_set ?_ GE121.out) | exact HB.out)))); have n5_ := Aside0.mk (blk_below (g := gb121) (o := .cells #[.slice Ao14 t117.length co14] 24 (0, 0)) (by (with_reducible repeat (first | refine blk_drewN ?_ _ | refine blk_drew ?_ | refine blk_alloc ?_ _)); exact BK121.out) hb); have n6_ := Aside0.mk (below_step (by repeat (first | (with_reducible first | exact HB.out | apply below_alloc | apply pw_below_drewN | apply below_drew1 | refine below_set ?_ GE121.out) | exact HB.out)) hb); clear HO119; clear HO124; clear HO134; clear HO138; clear BK121; clear HB; have HO119 := n0_; have HO124 := n1_; have HO134 := n2_; have HO138 := n3_; have HO142 := n4_; have BK121 := n5_; have HB := n6_; clear n0_ n1_ n2_ n3_ n4_ n5_ n6_; clear hb ho29) | ((with_reducible refine gate_dst (N := 32) rfl ?_); (try (refine gate_guard (by rfl) ?_; dsimp only)); refine Kd.R_lit (Kd.int .i64) _ 3 ?hg (N := 32) ?hd (xs := ([2, 1] : List Int)) (inner := [.int .i64 2, .int .i64 1]) (ok := fun _ => True) (okp := fun _ => True) ?hr ?hp (fun _ hk => hk) trivial (Below.refl _ _) (Nat.le_refl _) (by simp) ?_; (case hd => rfl); (case hg => rfl); (case hr => first | (go_simp; done) | (go_simp; rfl)); (case hp => exact (Reps.one (show Kd.M (Kd.int .i64) _ _ _ 2 [.int .i64 2] from rfl) (Reps.one (show Kd.M (Kd.int .i64) _ _ _ 1 [.int .i64 1] from rfl) (Reps.none _ _)))); intro v144 w30 ho31 hb hg_ hnew_; clear hg_ hnew_; (first | rw [← Ny143.out] at ho31 | (simp only [Int.reduceToNat] at ho31; rw [← Ny143.out] at ho31)); have n0_ := Aside0.mk (Kd.N_elder' (by (with_reducible repeat (first | apply Kd.N_alloc | apply Kd.N_drewN | apply Kd.N_drew)); exact HO119.out) (Kd.R_base ho31) hb); have n1_ := Aside0.mk (Kd.R_elder' (by (with_reducible repeat (first | apply Kd.R_alloc | apply Kd.R_drewN | apply Kd.R_drew)); exact HO124.out) (Kd.R_base ho31) hb); have n2_ := Aside0.mk (Kd.N_elder' (by (with_reducible repeat (first | apply Kd.N_alloc | apply Kd.N_drewN | apply Kd.N_drew)); exact HO134.out) (Kd.R_base ho31) hb); have n3_ := Aside0.mk (Kd.R_elder' (by (with_reducible repeat (first | apply Kd.R_alloc | apply Kd.R_drewN | apply Kd.R_drew)); exact HO138.out) (Kd.R_base ho31) hb); have n4_ := Aside0.mk (Kd.R_elder' (by (with_reducible repeat (first | apply Kd.R_alloc | apply Kd.R_drewN | apply Kd.R_drew)); exact HO142.out) (Kd.R_base ho31) hb); have n5_ := Aside0.mk (Kd.R_lower (Kd.R_new' (Kd.R_new' (Kd.R_new' ho31 (Kd.R_lt (by (with_reducible repeat (first | apply Kd.R_alloc | apply Kd.R_drewN | apply Kd.R_drew)); exact HO124.out))) (Kd.R_lt (by (with_reducible repeat (first | apply Kd.R_alloc | apply Kd.R_drewN | apply Kd.R_drew)); exact HO138.out))) (Kd.R_lt (by (with_reducible repeat (first | apply Kd.R_alloc | apply Kd.R_drewN | apply Kd.R_drew)); exact HO142.out))) (below_size (by repeat (first | (with_reducible first | exact HB.out | apply below_alloc | apply pw_below_drewN | apply below_drew1 | refine below_set ?_ GE121.out) | exact HB.out)))); have n6_ := Aside0.mk (blk_below (g := gb121) (o := .cells #[.slice Ao14 t117.length co14] 24 (0, 0)) (by (with_reducible repeat (first | refine blk_drewN ?_ _ | refine blk_drew ?_ | refine blk_alloc ?_ _)); exact BK121.out) hb); have n7_ := Aside0.mk (below_step (by repeat (first | (with_reducible first | exact HB.out | apply below_alloc | apply pw_below_drewN | apply below_drew1 | refine below_set ?_ GE121.out) | exact HB.out)) hb); clear HO119; clear HO124; clear HO134; clear HO138; clear HO142; clear BK121; clear HB; have HO119 := n0_; have HO124 := n1_; have HO134 := n2_; have HO138 := n3_; have HO142 := n4_; have HO145 := n5_; have BK121 := n6_; have HB := n7_; clear n0_ n1_ n2_ n3_ n4_ n5_ n6_ n7_; clear hb ho31) | ((with_reducible refine gate_dst (N := 33) rfl ?_); (try (refine gate_guard (by rfl) ?_; dsimp only)); refine Kd.R_lit (Kd.int .i64) _ 3 ?hg (N := 33) ?hd (xs := ([0, 0] : List Int)) (inner := [.int .i64 0, .int .i64 0]) (ok := fun _ => True) (okp := fun _ => True) ?hr ?hp (fun _ hk => hk) trivial (Below.refl _ _) (Nat.le_refl _) (by simp) ?_; (case hd => rfl); (case hg => rfl); (case hr => first | (go_simp; done) | (go_simp; rfl)); (case hp => exact (Reps.one (show Kd.M (Kd.int .i64) _ _ _ 0 [.int .i64 0] from rfl) (Reps.one (show Kd.M (Kd.int .i64) _ _ _ 0 [.int .i64 0] from rfl) (Reps.none _ _)))); intro v147 w32 ho33 hb hg_ hnew_; clear hg_ hnew_; (first | rw [← Ny146.out] at ho33 | (simp only [Int.reduceToNat] at ho33; rw [← Ny146.out] at ho33)); have n0_ := Aside0.mk (Kd.N_elder' (by (with_reducible repeat (first | apply Kd.N_alloc | apply Kd.N_drewN | apply Kd.N_drew)); exact HO119.out) (Kd.R_base ho33) hb); have n1_ := Aside0.mk (Kd.R_elder' (by (with_reducible repeat (first | apply Kd.R_alloc | apply Kd.R_drewN | apply Kd.R_drew)); exact HO124.out) (Kd.R_base ho33) hb); have n2_ := Aside0.mk (Kd.N_elder' (by (with_reducible repeat (first | apply Kd.N_alloc | apply Kd.N_drewN | apply Kd.N_drew)); exact HO134.out) (Kd.R_base ho33) hb); have n3_ := Aside0.mk (Kd.R_elder' (by (with_reducible repeat (first | apply Kd.R_alloc | apply Kd.R_drewN | apply Kd.R_drew)); exact HO138.out) (Kd.R_base ho33) hb); have n4_ := Aside0.mk (Kd.R_elder' (by (with_reducible repeat (first | apply Kd.R_alloc | apply Kd.R_drewN | apply Kd.R_drew)); exact HO142.out) (Kd.R_base ho33) hb); have n5_ := Aside0.mk (Kd.R_elder' (by (with_reducible repeat (first | apply Kd.R_alloc | apply Kd.R_drewN | apply Kd.R_drew)); exact HO145.out) (Kd.R_base ho33) hb); have n6_ := Aside0.mk (Kd.R_lower (Kd.R_new' (Kd.R_new' (Kd.R_new' (Kd.R_new' ho33 (Kd.R_lt (by (with_reducible repeat (first | apply Kd.R_alloc | apply Kd.R_drewN | apply Kd.R_drew)); exact HO124.out))) (Kd.R_lt (by (with_reducible repeat (first | apply Kd.R_alloc | apply Kd.R_drewN | apply Kd.R_drew)); exact HO138.out))) (Kd.R_lt (by (with_reducible repeat (first | apply Kd.R_alloc | apply Kd.R_drewN | apply Kd.R_drew)); exact HO142.out))) (Kd.R_lt (by (with_reducible repeat (first | apply Kd.R_alloc | apply Kd.R_drewN | apply Kd.R_drew)); exact HO145.out))) (below_size (by repeat (first | (with_reducible first | exact HB.out | apply below_alloc | apply pw_below_drewN | apply below_drew1 | refine below_set ?_ GE121.out) | exact HB.out)))); have n7_ := Aside0.mk (blk_below (g := gb121) (o := .cells #[.slice Ao14 t117.length co14] 24 (0, 0)) (by (with_reducible repeat (first | refine blk_drewN ?_ _ | refine blk_drew ?_ | refine blk_alloc ?_ _)); exact BK121.out) hb); have n8_ := Aside0.mk (below_step (by repeat (first | (with_reducible first | exact HB.out | apply below_alloc | apply pw_below_drewN | apply below_drew1 | refine below_set ?_ GE121.out) | exact HB.out)) hb); clear HO119; clear HO124; clear HO134; clear HO138; clear HO142; clear HO145; clear BK121; clear HB; have HO119 := n0_; have HO124 := n1_; have HO134 := n2_; have HO138 := n3_; have HO142 := n4_; have HO145 := n5_; have HO148 := n6_; have BK121 := n7_; have HB := n8_; clear n0_ n1_ n2_ n3_ n4_ n5_ n6_ n7_ n8_; clear hb ho33; obtain ⟨Ao34, co34, eo34⟩ := Kd.R_slice HO142.out; subst eo34; obtain ⟨Ao35, co35, eo35⟩ := Kd.R_slice HO145.out; subst eo35; obtain ⟨Ao36, co36, eo36⟩ := Kd.R_slice HO148.out; subst eo36) | ((with_reducible refine gate_dst (N := 34) rfl ?_); (try (refine gate_guard (by rfl) ?_; dsimp only)); refine Kd.N_lit (Kd.slice 3 (Kd.int .i64)) _ 25 ?hg (N' := 34) ?hd (xs := ([y140, y143, y146] : List (List Int))) (inner := [.slice Ao34 y140.length co34, .slice Ao35 y143.length co35, .slice Ao36 y146.length co36]) (ok := (fun k_ => some k_ ≠ (.slice Ao14 t117.length co14 : Value).ownBlock ∧ some k_ ≠ (v123 : Value).ownBlock ∧ some k_ ≠ (.slice Ao25 y132.length co25 : Value).ownBlock ∧ some k_ ≠ (v137 : Value).ownBlock ∧ k_ ≠ gb121)) (okp := (fun k_ => some k_ ≠ (.slice Ao14 t117.length co14 : Value).ownBlock ∧ some k_ ≠ (v123 : Value).ownBlock ∧ some k_ ≠ (.slice Ao25 y132.length co25 : Value).ownBlock ∧ some k_ ≠ (v137 : Value).ownBlock ∧ k_ ≠ gb121)) ?hr ?hp (fun _ hk => hk) ((show ∀ k_, w32.heap.size ≤ k_ → (fun k_ => some k_ ≠ (.slice Ao14 t117.length co14 : Value).ownBlock ∧ some k_ ≠ (v123 : Value).ownBlock ∧ some k_ ≠ (.slice Ao25 y132.length co25 : Value).ownBlock ∧ some k_ ≠ (v137 : Value).ownBlock ∧ k_ ≠ gb121) k_ from fun k_ hk => ⟨Kd.fresh' (Kd.N_lt (by (with_reducible repeat (first | apply Kd.N_alloc | apply Kd.N_drewN | apply Kd.N_drew)); exact HO119.out)) k_ hk, Kd.fresh' (Kd.R_lt (by (with_reducible repeat (first | apply Kd.R_alloc | apply Kd.R_drewN | apply Kd.R_drew)); exact HO124.out)) k_ hk, Kd.fresh' (Kd.N_lt (by (with_reducible repeat (first | apply Kd.N_alloc | apply Kd.N_drewN | apply Kd.N_drew)); exact HO134.out)) k_ hk, Kd.fresh' (Kd.R_lt (by (with_reducible repeat (first | apply Kd.R_alloc | apply Kd.R_drewN | apply Kd.R_drew)); exact HO138.out)) k_ hk, Kd.freshB (g := gb121) (o := .cells #[.slice Ao14 t117.length co14] 24 (0, 0)) (by (with_reducible repeat (first | refine blk_drewN ?_ _ | refine blk_drew ?_ | refine blk_alloc ?_ _)); exact BK121.out) k_ hk⟩) _ (Nat.le_refl _)) (Below.refl _ _) (Nat.le_refl _) (by simp) ?_; (case hd => rfl); (case hg => rfl); (case hr => first | (go_simp; done) | (go_simp; rfl)); (case hp => exact (Reps.one (show Kd.FK (Kd.slice 3 (Kd.int .i64)) _ _ y140 [.slice Ao34 y140.length co34] from (Kd.FK_slice_mk (Kd.R_reads' (Kd.R_mono (ok' := (fun k_ => some k_ ≠ (.slice Ao14 t117.length co14 : Value).ownBlock ∧ some k_ ≠ (v123 : Value).ownBlock ∧ some k_ ≠ (.slice Ao25 y132.length co25 : Value).ownBlock ∧ some k_ ≠ (v137 : Value).ownBlock ∧ k_ ≠ gb121)) (Kd.R_types (Kd.R_apart' (Kd.R_apart' (HO142.out) (Kd.N_typed HO119.out) (by decide)) (Kd.N_typed HO134.out) (by decide)) BK121.out (by decide)) (fun k_ hk => ⟨hk.1.1.2, ⟨hk.1.1.1.1.1.1.2, ⟨hk.1.2, ⟨hk.1.1.1.1.1.2, hk.2⟩⟩⟩⟩))).2.1 (Kd.R_F (Kd.R_mono (ok' := (fun k_ => some k_ ≠ (.slice Ao14 t117.length co14 : Value).ownBlock ∧ some k_ ≠ (v123 : Value).ownBlock ∧ some k_ ≠ (.slice Ao25 y132.length co25 : Value).ownBlock ∧ some k_ ≠ (v137 : Value).ownBlock ∧ k_ ≠ gb121)) (Kd.R_types (Kd.R_apart' (Kd.R_apart' (HO142.out) (Kd.N_typed HO119.out) (by decide)) (Kd.N_typed HO134.out) (by decide)) BK121.out (by decide)) (fun k_ hk => ⟨hk.1.1.2, ⟨hk.1.1.1.1.1.1.2, ⟨hk.1.2, ⟨hk.1.1.1.1.1.2, hk.2⟩⟩⟩⟩))))) (Reps.one (show Kd.FK (Kd.slice 3 (Kd.int .i64)) _ _ y143 [.slice Ao35 y143.length co35] from (Kd.FK_slice_mk (Kd.R_reads' (Kd.R_mono (ok' := (fun k_ => some k_ ≠ (.slice Ao14 t117.length co14 : Value).ownBlock ∧ some k_ ≠ (v123 : Value).ownBlock ∧ some k_ ≠ (.slice Ao25 y132.length co25 : Value).ownBlock ∧ some k_ ≠ (v137 : Value).ownBlock ∧ k_ ≠ gb121)) (Kd.R_types (Kd.R_apart' (Kd.R_apart' (HO145.out) (Kd.N_typed HO119.out) (by decide)) (Kd.N_typed HO134.out) (by decide)) BK121.out (by decide)) (fun k_ hk => ⟨hk.1.1.2, ⟨hk.1.1.1.1.1.1.2, ⟨hk.1.2, ⟨hk.1.1.1.1.1.2, hk.2⟩⟩⟩⟩))).2.1 (Kd.R_F (Kd.R_mono (ok' := (fun k_ => some k_ ≠ (.slice Ao14 t117.length co14 : Value).ownBlock ∧ some k_ ≠ (v123 : Value).ownBlock ∧ some k_ ≠ (.slice Ao25 y132.length co25 : Value).ownBlock ∧ some k_ ≠ (v137 : Value).ownBlock ∧ k_ ≠ gb121)) (Kd.R_types (Kd.R_apart' (Kd.R_apart' (HO145.out) (Kd.N_typed HO119.out) (by decide)) (Kd.N_typed HO134.out) (by decide)) BK121.out (by decide)) (fun k_ hk => ⟨hk.1.1.2, ⟨hk.1.1.1.1.1.1.2, ⟨hk.1.2, ⟨hk.1.1.1.1.1.2, hk.2⟩⟩⟩⟩))))) (Reps.one (show Kd.FK (Kd.slice 3 (Kd.int .i64)) _ _ y146 [.slice Ao36 y146.length co36] from (Kd.FK_slice_mk (Kd.R_reads' (Kd.R_mono (ok' := (fun k_ => some k_ ≠ (.slice Ao14 t117.length co14 : Value).ownBlock ∧ some k_ ≠ (v123 : Value).ownBlock ∧ some k_ ≠ (.slice Ao25 y132.length co25 : Value).ownBlock ∧ some k_ ≠ (v137 : Value).ownBlock ∧ k_ ≠ gb121)) (Kd.R_types (Kd.R_apart' (Kd.R_apart' (HO148.out) (Kd.N_typed HO119.out) (by decide)) (Kd.N_typed HO134.out) (by decide)) BK121.out (by decide)) (fun k_ hk => ⟨hk.1.1.2, ⟨hk.1.1.1.1.1.1.2, ⟨hk.1.2, ⟨hk.1.1.1.1.1.2, hk.2⟩⟩⟩⟩))).2.1 (Kd.R_F (Kd.R_mono (ok' := (fun k_ => some k_ ≠ (.slice Ao14 t117.length co14 : Value).ownBlock ∧ some k_ ≠ (v123 : Value).ownBlock ∧ some k_ ≠ (.slice Ao25 y132.length co25 : Value).ownBlock ∧ some k_ ≠ (v137 : Value).ownBlock ∧ k_ ≠ gb121)) (Kd.R_types (Kd.R_apart' (Kd.R_apart' (HO148.out) (Kd.N_typed HO119.out) (by decide)) (Kd.N_typed HO134.out) (by decide)) BK121.out (by decide)) (fun k_ hk => ⟨hk.1.1.2, ⟨hk.1.1.1.1.1.1.2, ⟨hk.1.2, ⟨hk.1.1.1.1.1.2, hk.2⟩⟩⟩⟩))))) (Reps.none _ _))))); intro v150 w37 ho38 hb hg_ hnew_; clear hg_ hnew_; (first | rw [← Ny149.out] at ho38 | (simp only [Int.reduceToNat] at ho38; rw [← Ny149.out] at ho38)); have n0_ := Aside0.mk (Kd.N_elder' (by (with_reducible repeat (first | apply Kd.N_alloc | apply Kd.N_drewN | apply Kd.N_drew)); exact HO119.out) (by first | exact Kd.N_base ho38 | exact Kd.S_base ho38 | exact Kd.R_base ho38) hb); have n1_ := Aside0.mk (Kd.R_below (by (with_reducible repeat (first | apply Kd.R_alloc | apply Kd.R_drewN | apply Kd.R_drew)); exact HO124.out) hb); have n2_ := Aside0.mk (Kd.N_elder' (by (with_reducible repeat (first | apply Kd.N_alloc | apply Kd.N_drewN | apply Kd.N_drew)); exact HO134.out) (by first | exact Kd.N_base ho38 | exact Kd.S_base ho38 | exact Kd.R_base ho38) hb); have n3_ := Aside0.mk (Kd.R_below (by (with_reducible repeat (first | apply Kd.R_alloc | apply Kd.R_drewN | apply Kd.R_drew)); exact HO138.out) hb); have n4_ := Aside0.mk (Kd.N_lower ho38 (below_size (by repeat (first | (with_reducible first | exact HB.out | apply below_alloc | apply pw_below_drewN | apply below_drew1 | refine below_set ?_ GE121.out) | exact HB.out)))); have n5_ := Aside0.mk (blk_below (g := gb121) (o := .cells #[.slice Ao14 t117.length co14] 24 (0, 0)) (by (with_reducible repeat (first | refine blk_drewN ?_ _ | refine blk_drew ?_ | refine blk_alloc ?_ _)); exact BK121.out) hb); have n6_ := Aside0.mk (below_step (by repeat (first | (with_reducible first | exact HB.out | apply below_alloc | apply pw_below_drewN | apply below_drew1 | refine below_set ?_ GE121.out) | exact HB.out)) hb); clear HO119; clear HO124; clear HO134; clear HO138; clear BK121; clear HB; clear HO142; clear HO145; clear HO148; have HO119 := n0_; have HO124 := n1_; have HO134 := n2_; have HO138 := n3_; have HO151 := n4_; have BK121 := n5_; have HB := n6_; clear n0_ n1_ n2_ n3_ n4_ n5_ n6_; clear hb ho38; obtain ⟨Ao39, co39, eo39⟩ := Kd.N_slice HO151.out; subst eo39) | (go_at_call 24; (with_reducible refine (mizmazeref01_Sames.calls k _ _ t117 _ _ y149 true _ ?side1 ?side2 ?side3 ?side4 A5.out).mono ?_); (case side1 => repeat (first | exact (Kd.N_reads' HO119.out).2.2 | (with_reducible refine Kd.C_alloc ?_ _) | (with_reducible refine Kd.C_drewN ?_ _) | (with_reducible refine Kd.C_drew ?_))); (case side2 => exact (Kd.N_reads' HO119.out).2.1); (case side3 => repeat (first | exact (Kd.N_reads' HO151.out).2.2 | (with_reducible refine Kd.C_alloc ?_ _) | (with_reducible refine Kd.C_drewN ?_ _) | (with_reducible refine Kd.C_drew ?_))); (case side4 => exact (Kd.N_reads' HO151.out).2.1); rintro e w' ⟨rfl, ⟨nd, rfl⟩⟩) | ((with_reducible refine gate_dst (N := 43) rfl ?_); (try (refine gate_guard (by rfl) ?_; dsimp only)); refine Kd.R_lit (Kd.int .i64) _ 3 ?hg (N := 43) ?hd (xs := ([1, 0, 0, 1] : List Int)) (inner := [.int .i64 1, .int .i64 0, .int .i64 0, .int .i64 1]) (ok := fun _ => True) (okp := fun _ => True) ?hr ?hp (fun _ hk => hk) trivial (Below.refl _ _) (Nat.le_refl _) (by simp) ?_; (case hd => rfl); (case hg => rfl); (case hr => first | (go_simp; done) | (go_simp; rfl)); (case hp => exact (Reps.one (show Kd.M (Kd.int .i64) _ _ _ 1 [.int .i64 1] from rfl) (Reps.one (show Kd.M (Kd.int .i64) _ _ _ 0 [.int .i64 0] from rfl) (Reps.one (show Kd.M (Kd.int .i64) _ _ _ 0 [.int .i64 0] from rfl) (Reps.one (show Kd.M (Kd.int .i64) _ _ _ 1 [.int .i64 1] from rfl) (Reps.none _ _)))))); intro v154 w40 ho41 hb hg_ hnew_; clear hg_ hnew_; (first | rw [← Ny153.out] at ho41 | (simp only [Int.reduceToNat] at ho41; rw [← Ny153.out] at ho41)); have n0_ := Aside0.mk (Kd.N_elder' (by (with_reducible repeat (first | apply Kd.N_alloc | apply Kd.N_drewN | apply Kd.N_drew)); exact HO119.out) (Kd.R_base ho41) hb); have n1_ := Aside0.mk (Kd.R_elder' (by (with_reducible repeat (first | apply Kd.R_alloc | apply Kd.R_drewN | apply Kd.R_drew)); exact HO124.out) (Kd.R_base ho41) hb); have n2_ := Aside0.mk (Kd.N_elder' (by (with_reducible repeat (first | apply Kd.N_alloc | apply Kd.N_drewN | apply Kd.N_drew)); exact HO134.out) (Kd.R_base ho41) hb); have n3_ := Aside0.mk (Kd.R_elder' (by (with_reducible repeat (first | apply Kd.R_alloc | apply Kd.R_drewN | apply Kd.R_drew)); exact HO138.out) (Kd.R_base ho41) hb); have n4_ := Aside0.mk (Kd.N_elder' (by (with_reducible repeat (first | apply Kd.N_alloc | apply Kd.N_drewN | apply Kd.N_drew)); exact HO151.out) (Kd.R_base ho41) hb); have n5_ := Aside0.mk (Kd.R_lower (Kd.R_new' (Kd.R_new' ho41 (Kd.R_lt (by (with_reducible repeat (first | apply Kd.R_alloc | apply Kd.R_drewN | apply Kd.R_drew)); exact HO124.out))) (Kd.R_lt (by (with_reducible repeat (first | apply Kd.R_alloc | apply Kd.R_drewN | apply Kd.R_drew)); exact HO138.out))) (below_size (by repeat (first | (with_reducible first | exact HB.out | apply below_alloc | apply pw_below_drewN | apply below_drew1 | refine below_set ?_ GE121.out) | exact HB.out)))); have n6_ := Aside0.mk (blk_below (g := gb121) (o := .cells #[.slice Ao14 t117.length co14] 24 (0, 0)) (by (with_reducible repeat (first | refine blk_drewN ?_ _ | refine blk_drew ?_ | refine blk_alloc ?_ _)); exact BK121.out) hb); have n7_ := Aside0.mk (below_step (by repeat (first | (with_reducible first | exact HB.out | apply below_alloc | apply pw_below_drewN | apply below_drew1 | refine below_set ?_ GE121.out) | exact HB.out)) hb); clear HO119; clear HO124; clear HO134; clear HO138; clear HO151; clear BK121; clear HB; have HO119 := n0_; have HO124 := n1_; have HO134 := n2_; have HO138 := n3_; have HO151 := n4_; have HO155 := n5_; have BK121 := n6_; have HB := n7_; clear n0_ n1_ n2_ n3_ n4_ n5_ n6_ n7_; clear hb ho41; obtain ⟨Ao42, co42, eo42⟩ := Kd.R_slice HO124.out; subst eo42; obtain ⟨Ao43, co43, eo43⟩ := Kd.R_slice HO155.out; subst eo43) | (go_at_call 19; (with_reducible refine (mizmazeref01_Same.calls k _ _ t122 _ _ y153 true _ ?side1 ?side2 ?side3 ?side4 A8.out).mono ?_); (case side1 => repeat (first | exact (Kd.R_reads' HO124.out).2.2 | (with_reducible refine Kd.C_alloc ?_ _) | (with_reducible refine Kd.C_drewN ?_ _) | (with_reducible refine Kd.C_drew ?_))); (case side2 => exact (Kd.R_reads' HO124.out).2.1); (case side3 => repeat (first | exact (Kd.R_reads' HO155.out).2.2 | (with_reducible refine Kd.C_alloc ?_ _) | (with_reducible refine Kd.C_drewN ?_ _) | (with_reducible refine Kd.C_drew ?_))); (case side4 => exact (Kd.R_reads' HO155.out).2.1); rintro e w' ⟨rfl, ⟨nd, rfl⟩⟩; obtain ⟨Ao44, co44, eo44⟩ := Kd.R_slice HO138.out; subst eo44))
              go_ret
              exact ⟨by first | rfl | (simp [errW_none, errW_some] <;> rfl) | (simp [*, errW_none, errW_some] <;> rfl), by repeat (first | (with_reducible first | exact HB.out | apply below_alloc | apply pw_below_drewN | apply below_drew1 | refine below_set ?_ GE121.out) | exact HB.out)⟩
            · rw [if_neg c11] at H
              exact absurd H (by simp)
          · rw [if_neg c10] at H
            exact absurd H (by simp)
        · replace c9 := Bool.eq_false_iff.mpr c9
          subst c9
          have H1 : (none) = some r := by rw [if_neg (show ¬ (false = true) by decide)] at H; exact H
          clear H
          have H := H1
          clear H1
          exact absurd H (by simp)
      · rw [if_neg c7] at H
        exact absurd H (by simp)
    · replace c6 := Bool.eq_false_iff.mpr c6
      subst c6
      have H1 : (none) = some r := by rw [if_neg (show ¬ (false = true) by decide)] at H; exact H
      clear H
      have H := H1
      clear H1
      exact absurd H (by simp)
  · rw [if_neg c4] at H
    exact absurd H (by simp)

end Go.Proofs.Ytogoppejcmaocaa.Q
end
