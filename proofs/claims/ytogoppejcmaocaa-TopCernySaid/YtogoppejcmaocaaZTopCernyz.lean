/- The law TopCerny holds: the shortest reset word that is found for Cerny's automaton of n states has (n - 1)^2 letters, for n from 2 to 11; the law has no arguments. (text 26 of 30) -/
import Derived.Test.YtogoppejcmaocaaZTopCernyy
import Derived.Test.YtogoppejcmaocaaZTopCernyh
import Derived.Test.YtogoppejcmaocaaZTopCernyp
import Derived.RangeFuncLeaves
import Derived.RangeFuncRecord
/-! Part XShortest -/
section
namespace Go.Proofs.Ytogoppejcmaocaa.Q
open Go.RowKit Go.Proofs.YtogoppejcmaocaaW.PrintWords Go.Proofs.YtogoppejcmaocaaW.PrintLast Go.Proofs.YtogoppejcmaocaaW.PrintMore
attribute [local go_sem] Oper.semAt_some
set_option linter.unusedVariables false
set_option linter.unusedSimpArgs false
/-! ### short.sets, the maker -/
set_option maxHeartbeats 4000000 in
set_option maxRecDepth 100000 in
theorem short_sets.makes (A0 : Option Addr) (n c0 : Nat) (w : World) :
    Calls Try.prog 52 #[.agg #[.slice A0 n c0]] w fun e w' => ∃ B : Nat, e = .returned (.func (.func 75) #[] #[.pointer (some ⟨B, 0, none⟩)]) ∧ w.heap.size ≤ B ∧ w'.heap[B]? = some (.cells #[.slice A0 n c0] 24 (0, 0)) ∧ Below w.heap.size w w' := by
  go_enter Try.func52, Try.ntmps52
  go_wp2_with (first | ((with_reducible refine gate_dst (N := 1) rfl ?_); refine box_event ?hg (N := 1) ?hd (cs := #[.slice A0 n c0]) (t := 24) ?hr ?_; (case hd => rfl); (case hg => rfl); (case hr => first | (go_simp; done) | (go_simp; rfl)); intro B hBe w1 hbox hb1; have HBE := Aside0.mk (show w.heap.size ≤ B by omega); have HX := Aside0.mk hbox; have HB := Aside0.mk hb1; clear hbox hb1 hBe))
  go_ret
  exact ⟨B, rfl, HBE.out, HX.out, HB.out⟩
/-! ### short.Shortest -/
def firstS : List (Int × List Int) → Option (List Int × Int)
  | [] => some ([], 4)
  | x :: r => (short_set_size.f x.1).bind fun n => if n = 1 then some (x.2, 0) else firstS r
def short_Shortest.f (k : Nat) (a0 : List (List Int)) : Option (List Int × Int) := (short_check.f a0).bind fun e => if e = 0 then (if 0 < a0.length then (short_sets.f k a0).bind firstS else none) else some ([], e)
theorem short_Shortest.mono : ∀ a0 k, LeO (short_Shortest.f k a0) (short_Shortest.f (k + 1) a0) := by
  intro a0 k
  unfold short_Shortest.f
  repeat' first
  | (with_reducible exact short_sets.mono _ _)
  | (with_reducible exact LeO.refl _)
  | (with_reducible refine LeO.ite ?_ ?_)
  | (with_reducible refine LeO.bind ?_ (fun _ => ?_))
structure IF (t2 t3 : TypeId) (w : World) (C2 C3 : Nat) (own : Nat → Prop) (W : World) (u2 u3 : Value) : Prop where
  below : Below w.heap.size w W
  c2 : W.heap[C2]? = some (.cells #[u2] t2 (0, 0))
  c3 : W.heap[C3]? = some (.cells #[u3] t3 (0, 0))
  n2 : ¬ own C2
  n3 : ¬ own C3
  h2 : w.heap.size ≤ C2
  h3 : w.heap.size ≤ C3
theorem blk_ltS {W : World} {g : Nat} {o : Obj} (h : W.heap[g]? = some o) : g < W.heap.size := (Array.getElem?_eq_some_iff.1 h).1
theorem KeptL.cells {base : Nat} {own : Nat → Prop} {w w' : World} (h : KeptL base own w w') {g : Nat} {cs : Array Value} {t : TypeId} {fr : Nat × Nat} (hc : w.heap[g]? = some (.cells cs t fr)) (hn : ¬ own g) : w'.heap[g]? = some (.cells cs t fr) :=
  (h.block g (blk_ltS hc) hn (Or.inr fun r e => by rw [hc] at e; cases e)).trans hc
theorem KeptL.below {w0 : World} {own : Nat → Prop} {w w' : World} (h : KeptL w0.heap.size own w w') (hb : Below w0.heap.size w0 w) (hs : ∀ b, own b → w0.heap.size ≤ b) : Below w0.heap.size w0 w' :=
  ⟨h.os.trans hb.os, h.tape.trans hb.tape, h.output.trans hb.output, Nat.le_trans hb.size h.size, fun b hlt => (h.block b (Nat.lt_of_lt_of_le hlt hb.size) (fun ho => absurd (hs b ho) (by omega)) (Or.inl hlt)).trans (hb.block b hlt)⟩
theorem IF.stable {t2 t3 : TypeId} {w : World} {C2 C3 : Nat} {own own' : Nat → Prop} {W W' : World} {u2 u3 : Value} (h : IF t2 t3 w C2 C3 own W u2 u3) (hk : KeptL w.heap.size own W W') (hs : ∀ b, own b → w.heap.size ≤ b) (hn : ∀ b, own' b → own b ∨ W.heap.size ≤ b) : IF t2 t3 w C2 C3 own' W' u2 u3 :=
  ⟨hk.below h.below hs, hk.cells h.c2 h.n2, hk.cells h.c3 h.n3, fun ho => (hn _ ho).elim h.n2 (by have := blk_ltS h.c2; omega), fun ho => (hn _ ho).elim h.n3 (by have := blk_ltS h.c3; omega), h.h2, h.h3⟩
theorem IF.next {t2 t3 : TypeId} {w : World} {C2 C3 : Nat} {own : Nat → Prop} {W W' : World} {u2 u3 : Value} (h : IF t2 t3 w C2 C3 own W u2 u3) (hb : Below W.heap.size W W') : IF t2 t3 w C2 C3 own W' u2 u3 :=
  ⟨below_step h.below hb, blk_below h.c2 hb, blk_below h.c3 hb, h.n2, h.n3, h.h2, h.h3⟩
theorem IF.start {w w1 : World} (h : Below w.heap.size w w1) : IF 25 26 w w1.heap.size (w1.heap.size + 1) (fun _ => False) ((w1.alloc (.cells #[.slice none 0 0] 25)).alloc (.cells #[.int .i64 0] 26)) (.slice none 0 0) (.int .i64 0) := by
  have hs := h.size
  refine ⟨(h.alloc hs _).alloc (by simp; omega) _, blk_alloc (World.alloc_heap_new _ _) _, ?_, id, id, hs, by omega⟩
  have := World.alloc_heap_new (w1.alloc (.cells #[.slice none 0 0] 25)) (.cells #[.int .i64 0] 26)
  rwa [World.size_alloc] at this
theorem R_stableL {base b0 : Nat} {own own' : Nat → Prop} {e : Nat} {W W' : World} {v : Value} {l : List Int} (h : Kd.R (Kd.int .i64) e W base (fun b => ¬ own b) v l) (hk : KeptL b0 own W W') (hn : ∀ b, own' b → own b ∨ W.heap.size ≤ b) : Kd.R (Kd.int .i64) e W' base (fun b => ¬ own' b) v l := by
  refine Kd.R_mono (Kd.R_step (Kd.R_bound h) fun b hb hlt => ?_) fun b hb ho => (hn b ho).elim hb.1 (by have := hb.2.2.1; omega)
  obtain ⟨hb1, _, _, q, _, cells, hc⟩ := hb
  rw [hk.cells hc hb1, hc]
theorem IF.other {t2 t3 : TypeId} {w : World} {C2 C3 : Nat} {own : Nat → Prop} {W : World} {u2 u3 : Value} (h : IF t2 t3 w C2 C3 own W u2 u3) (hne : C2 ≠ C3) (v : Value) : (W.setCell ⟨C2, 0, none⟩ v).heap[C3]? = some (.cells #[u3] t3 (0, 0)) :=
  (Below.heap_setCell W ⟨C2, 0, none⟩ v C3 (Ne.symm hne)).trans h.c3
theorem IF.putD {t2 t3 : TypeId} {w : World} {C2 C3 D : Nat} {own : Nat → Prop} {W : World} {u2 u3 : Value} {x : Option (List Deferred)} (h : IF t2 t3 w C2 C3 own W u2 u3) (hk : W.heap[D]? = some (.deferred x)) (hD : w.heap.size ≤ D) (o : Obj) : IF t2 t3 w C2 C3 own (W.putObj D o) u2 u3 := by
  have n2 : C2 ≠ D := fun e => by subst e; rw [h.c2] at hk; cases hk
  have n3 : C3 ≠ D := fun e => by subst e; rw [h.c3] at hk; cases hk
  exact ⟨⟨h.below.os, h.below.tape, h.below.output, by simpa using h.below.size, fun b hb => (World.putObj_heap_other (by omega)).trans (h.below.block b hb)⟩, (World.putObj_heap_other n2).trans h.c2, (World.putObj_heap_other n3).trans h.c3, h.n2, h.n3, h.h2, h.h3⟩
theorem R_putD {base D : Nat} {ok : Nat → Prop} {e : Nat} {W : World} {v : Value} {l : List Int} {x : Option (List Deferred)} (h : Kd.R (Kd.int .i64) e W base ok v l) (hk : W.heap[D]? = some (.deferred x)) (o : Obj) : Kd.R (Kd.int .i64) e (W.putObj D o) base (fun _ => True) v l := by
  refine Kd.R_mono (Kd.R_step (Kd.R_bound h) fun b hb hlt => ?_) fun b hb => trivial
  obtain ⟨_, _, _, q, _, cells, hc⟩ := hb
  exact World.putObj_heap_other fun e => by subst e; rw [hc] at hk; cases hk
theorem D_put {W : World} {D g : Nat} {x : Option (List Deferred)} {cs : Array Value} {t : TypeId} {fr : Nat × Nat} (hk : W.heap[D]? = some (.deferred x)) (hg : W.heap[g]? = some (.cells cs t fr)) (v : Value) : (W.setCell ⟨g, 0, none⟩ v).heap[D]? = some (.deferred x) :=
  (Below.heap_setCell W ⟨g, 0, none⟩ v D (fun e => by subst e; rw [hk] at hg; cases hg)).trans hk
theorem R_put2 {w : World} {C2 C3 base : Nat} {own ok : Nat → Prop} {W : World} {u2 u3 v v2 v3 : Value} {l : List Int} (h : Kd.R (Kd.int .i64) 3 W base ok v l) (hi : IF 25 26 w C2 C3 own W u2 u3) (_ : 3 ≠ 25 ∧ 3 ≠ 26) : Kd.R (Kd.int .i64) 3 ((W.setCell ⟨C2, 0, none⟩ v2).setCell ⟨C3, 0, none⟩ v3) base ok v l := by
  refine Kd.R_mono (Kd.R_step (Kd.R_bound h) fun b hb hlt => ?_) fun b hb => hb.1
  obtain ⟨_, _, _, q, hq, cells, hc⟩ := hb
  have hE : (Kd.int .i64).E = [] := rfl
  have hq : q = 3 := by rw [hE] at hq; simpa using hq
  subst hq
  have n2 : b ≠ C2 := fun e => by subst e; rw [hi.c2] at hc; cases hc
  have n3 : b ≠ C3 := fun e => by subst e; rw [hi.c3] at hc; cases hc
  rw [Below.heap_setCell _ ⟨C3, 0, none⟩ v3 b n3, Below.heap_setCell _ ⟨C2, 0, none⟩ v2 b n2]
theorem RoundKept.set {keep : Nat → Prop} {W : World} {g : Nat} (v : Value) (h : ¬ keep g) : RoundKept keep W (W.setCell ⟨g, 0, none⟩ v) :=
  RoundKept.of_grown (row := some g) (grownBy_setCell' W g v) fun b e => by cases e; exact h
theorem zip2 (t : Array Value) (p q : Tmp) (u v : Value) : ((#[p, q] : Array Tmp).zip #[u, v]).foldl (fun t (x : Tmp × Value) => t.setIfInBounds x.1 x.2) t = (t.setIfInBounds p u).setIfInBounds q v := by simp
theorem IF.put {t2 t3 : TypeId} {w : World} {C2 C3 : Nat} {own : Nat → Prop} {W : World} {u2 u3 : Value} (h : IF t2 t3 w C2 C3 own W u2 u3) (hne : C2 ≠ C3) (v2 v3 : Value) : IF t2 t3 w C2 C3 own ((W.setCell ⟨C2, 0, none⟩ v2).setCell ⟨C3, 0, none⟩ v3) v2 v3 := by
  have a2 := blk_put (cs := #[u2]) h.c2 0 v2 rfl
  have a3 : (W.setCell ⟨C2, 0, none⟩ v2).heap[C3]? = some (.cells #[u3] t3 (0, 0)) := (Below.heap_setCell W ⟨C2, 0, none⟩ v2 C3 (Ne.symm hne)).trans h.c3
  have b3 := blk_put (cs := #[u3]) a3 0 v3 rfl
  have b2 := (Below.heap_setCell (W.setCell ⟨C2, 0, none⟩ v2) ⟨C3, 0, none⟩ v3 C2 hne).trans a2
  exact ⟨(h.below.setCell (p := ⟨C2, 0, none⟩) h.h2 _).setCell (p := ⟨C3, 0, none⟩) h.h3 _, b2, b3, h.n2, h.n3, h.h2, h.h3⟩
theorem res_cells {fn : Func} (hf : fn.results = #[.cell 2 25, .cell 3 26]) {tmps : Array Value} {C2 C3 : Nat} (h2 : tmps.getD 2 undef = .pointer (some ⟨C2, 0, none⟩)) (h3 : tmps.getD 3 undef = .pointer (some ⟨C3, 0, none⟩)) {W : World} {A : Option Addr} {n c : Nat} {r : Int}
    (c2 : W.cell? ⟨C2, 0, none⟩ = some (.slice A n c)) (c3 : W.cell? ⟨C3, 0, none⟩ = some (.int .i64 r)) : (results fn tmps).run Try.prog W = .ok (.tuple #[.slice A n c, .int .i64 r]) W := by
  have h2' : tmps[2]?.getD undef = .pointer (some ⟨C2, 0, none⟩) := by simpa using h2
  have h3' : tmps[3]?.getD undef = .pointer (some ⟨C3, 0, none⟩) := by simpa using h3
  simp [results, hf, h2', h3', go_sem, c2, c3]
set_option maxHeartbeats 8000000 in
set_option maxRecDepth 100000 in
theorem short_Shortest.calls (k : Nat) (A0_0 : Option Addr) (c0_0 : Nat) (l0_0 : List (List Int)) (r1 : List Int) (r2 : Int) (w : World) (hr0_0 : Kd.C (Kd.slice 3 (Kd.int .i64)) w A0_0 l0_0.length l0_0) (hc0_0 : l0_0.length ≤ c0_0) (h : short_Shortest.f k l0_0 = some (r1, r2)) :
    Calls Try.prog 15 #[.agg #[.slice A0_0 l0_0.length c0_0]] w fun e w' => ∃ v0_ : Value, e = .returned (.tuple #[v0_, .int .i64 r2]) ∧ Kd.R (Kd.int .i64) 3 w' w.heap.size (fun _ => True) v0_ r1 ∧ Below w.heap.size w w' := by
  have HR := Aside0.mk hr0_0
  have HC := Aside0.mk hc0_0
  have HB0 := Below.refl w.heap.size w
  clear hr0_0 hc0_0
  obtain ⟨e, he, h⟩ := Option.bind_eq_some_iff.1 h
  have HE := Aside0.mk he
  have H := Aside0.mk h
  clear he h
  refine callsIn_wide.1 (callsIn_of_wp_marks (n := 0) Try.func15 rfl trivial (wpIn_wide.2 ?_) rfl)
  simp only [Try.ntmps15, List.size_toArray, List.length_cons, List.length_nil, Nat.reduceAdd, Nat.reduceSub, Array.replicate_succ, Array.replicate_zero, List.push_toArray, List.append_toArray, List.nil_append, List.cons_append]
  by_cases d : e = 0
  · rw [if_pos d] at H
    subst d
    have d' : ((0 : Int) == 0) = true := rfl
    go_wp2_with (first | ((with_reducible refine gate_dst (N := 1) rfl ?_); refine box_event ?hg (N := 1) ?hd (cs := #[.slice A0_0 l0_0.length c0_0]) (t := 24) ?hr ?_; (case hd => rfl); (case hg => rfl); (case hr => first | (go_simp; done) | (go_simp; rfl)); intro B hBe w1 hbox hb1; have HBE := Aside0.mk (show w.heap.size ≤ B by omega); have HB1 := Aside0.mk (below_step HB0 hb1);  have hI1 := IF.start HB1.out; have hx1 : ((w1.alloc (.cells #[.slice none 0 0] 25)).alloc (.cells #[.int .i64 0] 26)).heap[B]? = some (.cells #[.slice A0_0 l0_0.length c0_0] 24 (0, 0)) := blk_alloc (blk_alloc hbox _) _; have hcb : ((w1.alloc (.cells #[.slice none 0 0] 25)).alloc (.cells #[.int .i64 0] 26)).cell? ⟨B, 0, none⟩ = some (.slice A0_0 l0_0.length c0_0) := (blk_cell hx1 0).trans rfl; have HX := Aside0.mk hx1; have HI1 := Aside0.mk hI1; clear hbox hb1 hBe hI1 hx1)  | (go_at_call 51; refine (short_check.calls _ _ _ _ _ (Kd.C_below HR.out HI1.out.below) HC.out HE.out).mono ?_; rintro e2 w2 ⟨rfl, hb2⟩; have HI2 := Aside0.mk (HI1.out.next hb2); have hx2 := blk_below HX.out hb2; have HX2 := Aside0.mk hx2; have hcb2 : w2.cell? ⟨B, 0, none⟩ = some (.slice A0_0 l0_0.length c0_0) := (blk_cell hx2 0).trans rfl; have hc2 := blk_cell HI2.out.c2 0; have hf2 := blk_frozen HI2.out.c2 0; have hc3 := blk_cell HI2.out.c3 0; have hf3 := blk_frozen HI2.out.c3 0; simp only [List.getElem?_toArray, List.getElem?_cons_zero] at hc2 hc3; clear hb2 hx2)  | (go_at_call 52; refine (short_sets.makes _ _ _ _).mono ?_; rintro e2 w3 ⟨Bx, rfl, hBx, hx3, hb3⟩; have HI3 := Aside0.mk (HI2.out.next hb3); have HBX := Aside0.mk hBx; have HX3 := Aside0.mk hx3; clear hBx hx3 hb3))
    obtain ⟨hn, H2⟩ : 0 < l0_0.length ∧ (short_sets.f k l0_0).bind firstS = some (r1, r2) := by
      have h1 := H.out
      by_cases c : 0 < l0_0.length
      · exact ⟨c, by rw [if_pos c] at h1; exact h1⟩
      · rw [if_neg c] at h1; cases h1
    obtain ⟨L, hL, hF⟩ := Option.bind_eq_some_iff.1 H2
    have HF := Aside0.mk hF
    have HL := Aside0.mk hL
    clear H2 hF hL H hcb hcb2 hf2 hf3 hc2 hc3 d'
    have HBX' : Aside0 (w.heap.size ≤ Bx) := ⟨Nat.le_trans HI2.out.below.size HBX.out⟩
    have HN2 : Aside0 (w1.heap.size ≠ Bx) := ⟨fun e => by have := blk_ltS HI2.out.c2; have := HBX.out; omega⟩
    have HN3 : Aside0 (w1.heap.size + 1 ≠ Bx) := ⟨fun e => by have := blk_ltS HI2.out.c3; have := HBX.out; omega⟩
    have HNE : Aside0 (w1.heap.size ≠ w1.heap.size + 1) := ⟨by omega⟩
    clear HI1 HI2 HX HX2 HB1
    generalize w1.heap.size + 1 = C3 at HI3 HN3 HNE ⊢
    generalize w1.heap.size = C2 at HI3 HN2 HNE ⊢
    have seq := short_sets.seq k A0_0 c0_0 l0_0 L Bx w HR.out HC.out hn HL.out w3.heap.size
    refine wp_rangeFunc_iter (base := w.heap.size) (own0 := fun b => b = Bx) rfl (enters_ Try.func75 (by kernel_rfl) rfl) seq HI3.out.below.size (fun b hb => by subst hb; exact ⟨blk_ltS HX3.out, HBX'.out⟩) (fun W hW => ⟨below_step HI3.out.below hW, blk_below HX3.out hW, hW.size⟩) (fun own x W vs he => by obtain ⟨wv, rfl, _⟩ := he; rfl)
      (fun own pre W => IF 25 26 w C2 C3 own W (.slice none 0 0) (.int .i64 0) ∧ ∃ rest, L = pre ++ rest ∧ firstS rest = some (r1, r2))
      (fun c own pre W => c = .ret ∧ ∃ A n cp, IF 25 26 w C2 C3 own W (.slice A n cp) (.int .i64 r2) ∧ Kd.R (Kd.int .i64) 3 W w.heap.size (fun b => ¬ own b) (.slice A n cp) r1)
      ?stI ?stX ?start ?round ?done ?stop
    case stI =>
      rintro own own' s A B ⟨hi, hr⟩ hk hs hn
      exact ⟨hi.stable hk hs hn, hr⟩
    case stX =>
      rintro c own own' s A B ⟨rfl, A1, n1, c1, hi, hr⟩ hk hs hn
      exact ⟨rfl, A1, n1, c1, hi.stable hk hs hn, R_stableL hr hk hn⟩
    case start => exact ⟨⟨HI3.out.below, HI3.out.c2, HI3.out.c3, HN2.out, HN3.out, HI3.out.h2, HI3.out.h3⟩, L, rfl, HF.out⟩
    case round =>
      rintro l D own pre x vs W ⟨hi, rest, hL, hF⟩ ⟨rest2, hL2⟩ ⟨wv, rfl, hR⟩ ⟨r, hr⟩ ⟨dd, hd⟩ hl hD hnl hnD hbs
      obtain rfl : rest = x :: rest2 := List.append_cancel_left (hL.symm.trans hL2)
      obtain ⟨nz, hnz, hF2⟩ := Option.bind_eq_some_iff.1 hF
      have HNZ := Aside0.mk hnz
      have HF2 := Aside0.mk hF2
      have HP : Aside0 (L = pre ++ [x] ++ rest2) := ⟨by rw [hL2]; simp⟩
      have HI := Aside0.mk hi
      have HRV := Aside0.mk (Kd.R_lower hR HI3.out.below.size)
      have HBS := Aside0.mk hbs
      have HLW := Aside0.mk (show w.heap.size ≤ l from Nat.le_trans HI3.out.below.size hl)
      have HRL := Aside0.mk hr
      have n2l : C2 ≠ l := fun e => by subst e; rw [hi.c2] at hr; cases hr
      have n3l : C3 ≠ l := fun e => by subst e; rw [hi.c3] at hr; cases hr
      have n2D : C2 ≠ D := fun e => by subst e; rw [hi.c2] at hd; cases hd
      have n3D : C3 ≠ D := fun e => by subst e; rw [hi.c3] at hd; cases hd
      have K2 : Aside0 (¬ keepR w.heap.size own l D C2) := ⟨fun h => by rcases h with (h | h) | h | h; exact absurd hi.h2 (by omega); exact hi.n2 h; exact n2l h; exact n2D h⟩
      have K3 : Aside0 (¬ keepR w.heap.size own l D C3) := ⟨fun h => by rcases h with (h | h) | h | h; exact absurd hi.h3 (by omega); exact hi.n3 h; exact n3l h; exact n3D h⟩
      clear hi hR hbs hnz hF2 hF hL hL2 hd hr n2l n3l n2D n3D
      rw [zip2]
      simp only [List.setIfInBounds_toArray, List.set_cons_succ, List.set_cons_zero]
      gi_wp2
      refine ⟨RoundKept.refl _ _, ?_⟩
      rintro W2 ⟨r0, r1', hr1, rfl⟩
      have HK2 := Aside0.mk (KeptL.putObj (own := own) (.loop r1') hr1 HLW.out)
      have HI2 := Aside0.mk (HI.out.stable HK2.out HBS.out fun b hb => Or.inl hb)
      have HRV2 := Aside0.mk (R_stableL HRV.out HK2.out fun b hb => Or.inl hb)
      clear HK2 HI HRV hr1
      generalize W.putObj l (.loop r1') = W2 at HI2 HRV2 ⊢
      obtain ⟨Aw, cw, rfl⟩ := Kd.R_slice HRV2.out
      by_cases dn : nz = 1
      · subst dn
        have hh := HF2.out
        rw [if_pos rfl] at hh
        obtain ⟨rfl, rfl⟩ := Prod.mk.inj (Option.some.inj hh)
        have b1 : ((1 : Int) == 1) = true := rfl
        clear HF2 hh
        gi_wp2_with (refine ⟨trivial, rfl, ?_⟩; refine (CallsIn.inRound l (callsIn_wide.2 (short_set_size.calls _ _ _ HNZ.out))).mono ?_; rintro e3 W3 ⟨rfl, hd3⟩; have HB3 := Aside0.mk hd3.below; have HI4 := Aside0.mk (HI2.out.next hd3.below); have hc2 := (blk_cell HI4.out.c2 0).trans (rfl : _ = some (Value.slice none 0 0)); have hf2 := blk_frozen HI4.out.c2 0; have ho := HI4.out.other HNE.out (.slice Aw x.2.length cw); have hc3 := (blk_cell ho 0).trans (rfl : _ = some (Value.int .i64 0)); have hf3 := blk_frozen ho 0; have HRV4 := Aside0.mk (Kd.R_below HRV2.out hd3.below); clear hd3 ho)
        have HI5 := HI4.out.put HNE.out (.slice Aw x.2.length cw) (.int .i64 0)
        refine ⟨((RoundKept.of_below HB3.out).trans (RoundKept.set _ K2.out)).trans (RoundKept.set _ K3.out), rfl, _, _, _, HI5, ?_⟩
        exact R_put2 HRV4.out HI4.out (by decide)
      · have hh := HF2.out
        rw [if_neg dn] at hh
        have HF3 := Aside0.mk hh
        have b1 : (nz == 1) = false := by simp [dn]
        clear HF2 hh dn
        gi_wp2_with (refine ⟨trivial, rfl, ?_⟩; refine (CallsIn.inRound l (callsIn_wide.2 (short_set_size.calls _ _ _ HNZ.out))).mono ?_; rintro e3 W3 ⟨rfl, hd3⟩; have HB3 := Aside0.mk hd3.below; have HI4 := Aside0.mk (HI2.out.next hd3.below); clear hd3)
        exact ⟨RoundKept.of_below HB3.out, HI4.out, rest2, HP.out, HF3.out⟩
    case done =>
      rintro D own W ⟨hi, rest, hL, hF⟩ hbs hK hD
      obtain rfl : rest = [] := List.append_cancel_left (hL.symm.trans (List.append_nil L).symm)
      obtain ⟨rfl, rfl⟩ := Prod.mk.inj (Option.some.inj hF)
      have HI := Aside0.mk hi
      have HK := Aside0.mk hK
      have hc2 : W.cell? ⟨C2, 0, none⟩ = some (.slice none 0 0) := (blk_cell hi.c2 0).trans rfl
      have hf2 := blk_frozen hi.c2 0
      have ho := hi.other HNE.out (.slice none 0 0)
      have hc3 : (W.setCell ⟨C2, 0, none⟩ (.slice none 0 0)).cell? ⟨C3, 0, none⟩ = some (.int .i64 0) := (blk_cell ho 0).trans rfl
      have hf3 := blk_frozen ho 0
      have HD := Aside0.mk (show w.heap.size ≤ D from Nat.le_trans HI3.out.below.size hD)
      clear hi hK hL hF seq ho
      go_wp2_with fail
      have hK4 := D_put (D_put HK.out HI.out.c2 (.slice none 0 0)) (HI.out.other HNE.out (.slice none 0 0)) (.int .i64 4)
      have HI4 := (HI.out.put HNE.out (.slice none 0 0) (.int .i64 4)).putD hK4 HD.out (.deferred none)
      refine ⟨by simp, .inl ⟨_, _, rfl, run_takeDeferred hK4, ?_⟩⟩
      exact ⟨_, res_cells rfl rfl rfl ((blk_cell HI4.c2 0).trans rfl) ((blk_cell HI4.c3 0).trans rfl), _, rfl, Kd.R_nil _ _ _ _ _, HI4.below⟩
    case stop =>
      rintro D c own pre W ⟨rfl, A1, n1, c1, hi, hR⟩ hbs hK hD
      have HI := Aside0.mk hi
      have HK := Aside0.mk hK
      have HRV := Aside0.mk hR
      have HD := Aside0.mk (show w.heap.size ≤ D from Nat.le_trans HI3.out.below.size hD)
      clear hi hK hR seq
      go_wp2_with fail
      have HI4 := HI.out.putD HK.out HD.out (.deferred none)
      refine ⟨by simp, .inl ⟨_, _, rfl, run_takeDeferred HK.out, ?_⟩⟩
      exact ⟨_, res_cells rfl rfl rfl ((blk_cell HI4.c2 0).trans rfl) ((blk_cell HI4.c3 0).trans rfl), _, rfl, R_putD HRV.out HK.out _, HI4.below⟩
  · rw [if_neg d] at H
    have hh := Option.some.inj H.out
    obtain ⟨rfl, rfl⟩ := Prod.mk.inj hh
    have d' : (e == 0) = false := by simp [d]
    clear H hh
    go_wp2_with (first | ((with_reducible refine gate_dst (N := 1) rfl ?_); refine box_event ?hg (N := 1) ?hd (cs := #[.slice A0_0 l0_0.length c0_0]) (t := 24) ?hr ?_; (case hd => rfl); (case hg => rfl); (case hr => first | (go_simp; done) | (go_simp; rfl)); intro B hBe w1 hbox hb1; have HBE := Aside0.mk (show w.heap.size ≤ B by omega); have HB1 := Aside0.mk (below_step HB0 hb1);  have hI1 := IF.start HB1.out; have hx1 : ((w1.alloc (.cells #[.slice none 0 0] 25)).alloc (.cells #[.int .i64 0] 26)).heap[B]? = some (.cells #[.slice A0_0 l0_0.length c0_0] 24 (0, 0)) := blk_alloc (blk_alloc hbox _) _; have hcb : ((w1.alloc (.cells #[.slice none 0 0] 25)).alloc (.cells #[.int .i64 0] 26)).cell? ⟨B, 0, none⟩ = some (.slice A0_0 l0_0.length c0_0) := (blk_cell hx1 0).trans rfl; have HX := Aside0.mk hx1; have HI1 := Aside0.mk hI1; clear hbox hb1 hBe hI1 hx1)  | (go_at_call 51; refine (short_check.calls _ _ _ _ _ (Kd.C_below HR.out HI1.out.below) HC.out HE.out).mono ?_; rintro e2 w2 ⟨rfl, hb2⟩; have HI2 := Aside0.mk (HI1.out.next hb2); have hx2 := blk_below HX.out hb2; have HX2 := Aside0.mk hx2; have hcb2 : w2.cell? ⟨B, 0, none⟩ = some (.slice A0_0 l0_0.length c0_0) := (blk_cell hx2 0).trans rfl; have hc2 := blk_cell HI2.out.c2 0; have hf2 := blk_frozen HI2.out.c2 0; have hc3 := blk_cell HI2.out.c3 0; have hf3 := blk_frozen HI2.out.c3 0; simp only [List.getElem?_toArray, List.getElem?_cons_zero] at hc2 hc3; clear hb2 hx2))
    have HI4 := Aside0.mk (HI2.out.put (by omega) (.slice none 0 0) (.int .i64 e))
    refine ⟨_, res_cells rfl rfl rfl ((blk_cell HI4.out.c2 0).trans rfl) ((blk_cell HI4.out.c3 0).trans rfl), _, rfl, Kd.R_nil _ _ _ _ _, HI4.out.below⟩
end Go.Proofs.Ytogoppejcmaocaa.Q
end
/-! Part QTopShortens -/
section
-- Written by xprint.py, a program of this session's, over the kit's print. Lean checks it.
namespace Go.Proofs.Ytogoppejcmaocaa.Q
open Go.RowKit Go.Proofs.YtogoppejcmaocaaW.PrintWords Go.Proofs.YtogoppejcmaocaaW.PrintLast Go.Proofs.YtogoppejcmaocaaW.PrintMore
attribute [local go_sem] max2_int min2_int max_two min_two max_three min_three max_four min_four
set_option linter.unusedVariables false
set_option linter.unusedSimpArgs false

/-! ### mizmazetop_shortens: function 28 -/
def mizmazetop_shortens.f (k : Nat)  : Option (Bool) := (short_Shortest.f k (([(([1, 0] : List Int)), (([2, 1] : List Int)), (([0, 0] : List Int))] : List (List Int)))).bind fun bt220 => (if bt220.2 = 0 then ((mizmazetop_sameInts.f k bt220.1 (([1, 0, 0, 1] : List Int))).bind fun t227 => (some t227)) else (none))
theorem mizmazetop_shortens.mono : ∀ k, LeO (mizmazetop_shortens.f k ) (mizmazetop_shortens.f (k + 1) ) := by
  intro  k
  unfold mizmazetop_shortens.f
  repeat' first
      | (with_reducible exact mizmazetop_sameInts.mono _ _ _)
      | (with_reducible exact short_Shortest.mono _ _)
      | (with_reducible exact LeO.refl _)
      | (with_reducible exact LeO.none _)
      | (with_reducible refine LeO.ite ?_ ?_)
      | (with_reducible refine LeO.bind ?_ (fun _ => ?_))
      | exact mizmazetop_sameInts.mono _ _ _
      | exact short_Shortest.mono _ _
      | exact LeO.none _
      | refine LeO.ite ?_ ?_
      | refine LeO.bind ?_ (fun _ => ?_)
set_option maxHeartbeats 8000000 in
set_option maxRecDepth 100000 in
theorem mizmazetop_shortens.calls (k : Nat)  (r : Bool) (w : World) (h : mizmazetop_shortens.f k  = some r) :
    Calls Try.prog 28 #[] w fun e w' => e = .returned (.bool r) ∧ Below w.heap.size w w' := by
  have hu24 := Try.underlying24
  have HB := Aside0.mk (Below.refl w.heap.size w)
  have H : ((short_Shortest.f k (([(([1, 0] : List Int)), (([2, 1] : List Int)), (([0, 0] : List Int))] : List (List Int)))).bind fun bt220 => (if bt220.2 = 0 then ((mizmazetop_sameInts.f k bt220.1 (([1, 0, 0, 1] : List Int))).bind fun t227 => (some t227)) else (none))) = some r := h
  clear h
  obtain ⟨y208, hy208⟩ : ∃ y_ : List Int, y_ = (([1, 0] : List Int)) := ⟨_, rfl⟩
  replace H : ((short_Shortest.f k (([y208, (([2, 1] : List Int)), (([0, 0] : List Int))] : List (List Int)))).bind fun bt220 => (if bt220.2 = 0 then ((mizmazetop_sameInts.f k bt220.1 (([1, 0, 0, 1] : List Int))).bind fun t227 => (some t227)) else (none))) = some r := by first | (rw [hy208]; with_reducible exact H) | (have H2_ := (Option.bind_some _ _).symm.trans H; rw [hy208]; with_reducible exact H2_) | (have H2_ := (Option.bind_some _ _).symm.trans H; with_reducible exact H2_) | with_reducible exact H | (rw [hy208]; exact H) | exact H
  have Ny208 := Aside0.mk hy208
  clear hy208
  obtain ⟨y211, hy211⟩ : ∃ y_ : List Int, y_ = (([2, 1] : List Int)) := ⟨_, rfl⟩
  replace H : ((short_Shortest.f k (([y208, y211, (([0, 0] : List Int))] : List (List Int)))).bind fun bt220 => (if bt220.2 = 0 then ((mizmazetop_sameInts.f k bt220.1 (([1, 0, 0, 1] : List Int))).bind fun t227 => (some t227)) else (none))) = some r := by first | (rw [hy211]; with_reducible exact H) | (have H2_ := (Option.bind_some _ _).symm.trans H; rw [hy211]; with_reducible exact H2_) | (have H2_ := (Option.bind_some _ _).symm.trans H; with_reducible exact H2_) | with_reducible exact H | (rw [hy211]; exact H) | exact H
  have Ny211 := Aside0.mk hy211
  clear hy211
  obtain ⟨y214, hy214⟩ : ∃ y_ : List Int, y_ = (([0, 0] : List Int)) := ⟨_, rfl⟩
  replace H : ((short_Shortest.f k (([y208, y211, y214] : List (List Int)))).bind fun bt220 => (if bt220.2 = 0 then ((mizmazetop_sameInts.f k bt220.1 (([1, 0, 0, 1] : List Int))).bind fun t227 => (some t227)) else (none))) = some r := by first | (rw [hy214]; with_reducible exact H) | (have H2_ := (Option.bind_some _ _).symm.trans H; rw [hy214]; with_reducible exact H2_) | (have H2_ := (Option.bind_some _ _).symm.trans H; with_reducible exact H2_) | with_reducible exact H | (rw [hy214]; exact H) | exact H
  have Ny214 := Aside0.mk hy214
  clear hy214
  obtain ⟨y217, hy217⟩ : ∃ y_ : List (List Int), y_ = (([y208, y211, y214] : List (List Int))) := ⟨_, rfl⟩
  replace H : ((short_Shortest.f k y217).bind fun bt220 => (if bt220.2 = 0 then ((mizmazetop_sameInts.f k bt220.1 (([1, 0, 0, 1] : List Int))).bind fun t227 => (some t227)) else (none))) = some r := by first | (rw [hy217]; with_reducible exact H) | (have H2_ := (Option.bind_some _ _).symm.trans H; rw [hy217]; with_reducible exact H2_) | (have H2_ := (Option.bind_some _ _).symm.trans H; with_reducible exact H2_) | with_reducible exact H | (rw [hy217]; exact H) | exact H
  have Ny217 := Aside0.mk hy217
  clear hy217
  replace H := Option.bind_eq_some_iff.mp H
  obtain ⟨⟨t220, t223⟩, A10, H⟩ := H
  replace H : (if t223 = 0 then ((mizmazetop_sameInts.f k t220 (([1, 0, 0, 1] : List Int))).bind fun t227 => (some t227)) else (none)) = some r := H
  have A1 := Aside0.mk A10
  clear A10
  by_cases c2 : t223 = 0
  · rw [if_pos c2] at H
    have c2b0 : (t223 == 0) = true := beq_iff_eq.mpr c2
    have c2b1 : (t223 != 0) = false := bne_eq_false_iff_eq.mpr c2
    clear c2
    obtain ⟨y224, hy224⟩ : ∃ y_ : List Int, y_ = (([1, 0, 0, 1] : List Int)) := ⟨_, rfl⟩
    replace H : ((mizmazetop_sameInts.f k t220 y224).bind fun t227 => (some t227)) = some r := by first | (rw [hy224]; with_reducible exact H) | (have H2_ := (Option.bind_some _ _).symm.trans H; rw [hy224]; with_reducible exact H2_) | (have H2_ := (Option.bind_some _ _).symm.trans H; with_reducible exact H2_) | with_reducible exact H | (rw [hy224]; exact H) | exact H
    have Ny224 := Aside0.mk hy224
    clear hy224
    replace H := Option.bind_eq_some_iff.mp H
    obtain ⟨t227, A30, H⟩ := H
    replace H : (some t227) = some r := H
    have A3 := Aside0.mk A30
    clear A30
    obtain rfl := Option.some.inj H
    go_enter Try.func28, Try.ntmps28
    go_wp2_with (first | ((with_reducible refine gate_dst (N := 4) rfl ?_); (try (refine gate_guard (by rfl) ?_; dsimp only)); refine Kd.R_lit (Kd.int .i64) _ 3 ?hg (N := 4) ?hd (xs := ([1, 0] : List Int)) (inner := [.int .i64 1, .int .i64 0]) (ok := fun _ => True) (okp := fun _ => True) ?hr ?hp (fun _ hk => hk) trivial (Below.refl _ _) (Nat.le_refl _) (by simp) ?_; (case hd => rfl); (case hg => rfl); (case hr => first | (go_simp; done) | (go_simp; rfl)); (case hp => exact (Reps.one (show Kd.M (Kd.int .i64) _ _ _ 1 [.int .i64 1] from rfl) (Reps.one (show Kd.M (Kd.int .i64) _ _ _ 0 [.int .i64 0] from rfl) (Reps.none _ _)))); intro v209 w4 ho5 hb hg_ hnew_; clear hg_ hnew_; (first | rw [← Ny208.out] at ho5 | (simp only [Int.reduceToNat] at ho5; rw [← Ny208.out] at ho5)); have n0_ := Aside0.mk (Kd.R_lower ho5 (below_size (by repeat (first | (with_reducible first | exact HB.out | apply below_alloc | apply pw_below_drewN | apply below_drew1) | exact HB.out)))); have n1_ := Aside0.mk (below_step (by repeat (first | (with_reducible first | exact HB.out | apply below_alloc | apply pw_below_drewN | apply below_drew1) | exact HB.out)) hb); clear HB; have HO210 := n0_; have HB := n1_; clear n0_ n1_; clear hb ho5) | ((with_reducible refine gate_dst (N := 5) rfl ?_); (try (refine gate_guard (by rfl) ?_; dsimp only)); refine Kd.R_lit (Kd.int .i64) _ 3 ?hg (N := 5) ?hd (xs := ([2, 1] : List Int)) (inner := [.int .i64 2, .int .i64 1]) (ok := fun _ => True) (okp := fun _ => True) ?hr ?hp (fun _ hk => hk) trivial (Below.refl _ _) (Nat.le_refl _) (by simp) ?_; (case hd => rfl); (case hg => rfl); (case hr => first | (go_simp; done) | (go_simp; rfl)); (case hp => exact (Reps.one (show Kd.M (Kd.int .i64) _ _ _ 2 [.int .i64 2] from rfl) (Reps.one (show Kd.M (Kd.int .i64) _ _ _ 1 [.int .i64 1] from rfl) (Reps.none _ _)))); intro v212 w6 ho7 hb hg_ hnew_; clear hg_ hnew_; (first | rw [← Ny211.out] at ho7 | (simp only [Int.reduceToNat] at ho7; rw [← Ny211.out] at ho7)); have n0_ := Aside0.mk (Kd.R_elder' (by (with_reducible repeat (first | apply Kd.R_alloc | apply Kd.R_drewN | apply Kd.R_drew)); exact HO210.out) (Kd.R_base ho7) hb); have n1_ := Aside0.mk (Kd.R_lower (Kd.R_new' ho7 (Kd.R_lt (by (with_reducible repeat (first | apply Kd.R_alloc | apply Kd.R_drewN | apply Kd.R_drew)); exact HO210.out))) (below_size (by repeat (first | (with_reducible first | exact HB.out | apply below_alloc | apply pw_below_drewN | apply below_drew1) | exact HB.out)))); have n2_ := Aside0.mk (below_step (by repeat (first | (with_reducible first | exact HB.out | apply below_alloc | apply pw_below_drewN | apply below_drew1) | exact HB.out)) hb); clear HO210; clear HB; have HO210 := n0_; have HO213 := n1_; have HB := n2_; clear n0_ n1_ n2_; clear hb ho7) | ((with_reducible refine gate_dst (N := 6) rfl ?_); (try (refine gate_guard (by rfl) ?_; dsimp only)); refine Kd.R_lit (Kd.int .i64) _ 3 ?hg (N := 6) ?hd (xs := ([0, 0] : List Int)) (inner := [.int .i64 0, .int .i64 0]) (ok := fun _ => True) (okp := fun _ => True) ?hr ?hp (fun _ hk => hk) trivial (Below.refl _ _) (Nat.le_refl _) (by simp) ?_; (case hd => rfl); (case hg => rfl); (case hr => first | (go_simp; done) | (go_simp; rfl)); (case hp => exact (Reps.one (show Kd.M (Kd.int .i64) _ _ _ 0 [.int .i64 0] from rfl) (Reps.one (show Kd.M (Kd.int .i64) _ _ _ 0 [.int .i64 0] from rfl) (Reps.none _ _)))); intro v215 w8 ho9 hb hg_ hnew_; clear hg_ hnew_; (first | rw [← Ny214.out] at ho9 | (simp only [Int.reduceToNat] at ho9; rw [← Ny214.out] at ho9)); have n0_ := Aside0.mk (Kd.R_elder' (by (with_reducible repeat (first | apply Kd.R_alloc | apply Kd.R_drewN | apply Kd.R_drew)); exact HO210.out) (Kd.R_base ho9) hb); have n1_ := Aside0.mk (Kd.R_elder' (by (with_reducible repeat (first | apply Kd.R_alloc | apply Kd.R_drewN | apply Kd.R_drew)); exact HO213.out) (Kd.R_base ho9) hb); have n2_ := Aside0.mk (Kd.R_lower (Kd.R_new' (Kd.R_new' ho9 (Kd.R_lt (by (with_reducible repeat (first | apply Kd.R_alloc | apply Kd.R_drewN | apply Kd.R_drew)); exact HO210.out))) (Kd.R_lt (by (with_reducible repeat (first | apply Kd.R_alloc | apply Kd.R_drewN | apply Kd.R_drew)); exact HO213.out))) (below_size (by repeat (first | (with_reducible first | exact HB.out | apply below_alloc | apply pw_below_drewN | apply below_drew1) | exact HB.out)))); have n3_ := Aside0.mk (below_step (by repeat (first | (with_reducible first | exact HB.out | apply below_alloc | apply pw_below_drewN | apply below_drew1) | exact HB.out)) hb); clear HO210; clear HO213; clear HB; have HO210 := n0_; have HO213 := n1_; have HO216 := n2_; have HB := n3_; clear n0_ n1_ n2_ n3_; clear hb ho9; obtain ⟨Ao10, co10, eo10⟩ := Kd.R_slice HO210.out; subst eo10; obtain ⟨Ao11, co11, eo11⟩ := Kd.R_slice HO213.out; subst eo11; obtain ⟨Ao12, co12, eo12⟩ := Kd.R_slice HO216.out; subst eo12) | ((with_reducible refine gate_dst (N := 7) rfl ?_); (try (refine gate_guard (by rfl) ?_; dsimp only)); refine Kd.N_lit (Kd.slice 3 (Kd.int .i64)) _ 25 ?hg (N' := 7) ?hd (xs := ([y208, y211, y214] : List (List Int))) (inner := [.slice Ao10 y208.length co10, .slice Ao11 y211.length co11, .slice Ao12 y214.length co12]) (ok := (fun _ => True)) (okp := (fun _ => True)) ?hr ?hp (fun _ hk => hk) ((show ∀ k_, w8.heap.size ≤ k_ → (fun _ => True) k_ from fun k_ hk => trivial) _ (Nat.le_refl _)) (Below.refl _ _) (Nat.le_refl _) (by simp) ?_; (case hd => rfl); (case hg => rfl); (case hr => first | (go_simp; done) | (go_simp; rfl)); (case hp => exact (Reps.one (show Kd.FK (Kd.slice 3 (Kd.int .i64)) _ _ y208 [.slice Ao10 y208.length co10] from (Kd.FK_slice_mk (Kd.R_reads' (Kd.R_mono (ok' := (fun _ => True)) (HO210.out) (fun k_ hk => trivial))).2.1 (Kd.R_F (Kd.R_mono (ok' := (fun _ => True)) (HO210.out) (fun k_ hk => trivial))))) (Reps.one (show Kd.FK (Kd.slice 3 (Kd.int .i64)) _ _ y211 [.slice Ao11 y211.length co11] from (Kd.FK_slice_mk (Kd.R_reads' (Kd.R_mono (ok' := (fun _ => True)) (HO213.out) (fun k_ hk => trivial))).2.1 (Kd.R_F (Kd.R_mono (ok' := (fun _ => True)) (HO213.out) (fun k_ hk => trivial))))) (Reps.one (show Kd.FK (Kd.slice 3 (Kd.int .i64)) _ _ y214 [.slice Ao12 y214.length co12] from (Kd.FK_slice_mk (Kd.R_reads' (Kd.R_mono (ok' := (fun _ => True)) (HO216.out) (fun k_ hk => trivial))).2.1 (Kd.R_F (Kd.R_mono (ok' := (fun _ => True)) (HO216.out) (fun k_ hk => trivial))))) (Reps.none _ _))))); intro v218 w13 ho14 hb hg_ hnew_; clear hg_ hnew_; (first | rw [← Ny217.out] at ho14 | (simp only [Int.reduceToNat] at ho14; rw [← Ny217.out] at ho14)); have n0_ := Aside0.mk (Kd.N_lower ho14 (below_size (by repeat (first | (with_reducible first | exact HB.out | apply below_alloc | apply pw_below_drewN | apply below_drew1) | exact HB.out)))); have n1_ := Aside0.mk (below_step (by repeat (first | (with_reducible first | exact HB.out | apply below_alloc | apply pw_below_drewN | apply below_drew1) | exact HB.out)) hb); clear HB; clear HO210; clear HO213; clear HO216; have HO219 := n0_; have HB := n1_; clear n0_ n1_; clear hb ho14; obtain ⟨Ao15, co15, eo15⟩ := Kd.N_slice HO219.out; subst eo15) | ((with_reducible refine gate_callee (f := 15) rfl ?_); refine goesL_ (some 9) rfl rfl Try.func15 (by kernel_rfl) rfl #[.agg #[.slice Ao15 y217.length co15]] rfl (by (try simp only [List.map_toArray, List.map_cons, List.map_nil]); first | done | rfl | (simp only [List.length_drop, List.length_take]; rfl)) ?_; (with_reducible refine (short_Shortest.calls k _ _ y217 t220 t223 _ ?side1 ?side2 A1.out).mono ?_); (case side1 => repeat (first | exact (Kd.N_reads' HO219.out).2.2 | (with_reducible refine Kd.C_alloc ?_ _) | (with_reducible refine Kd.C_drewN ?_ _) | (with_reducible refine Kd.C_drew ?_))); (case side2 => exact (Kd.N_reads' HO219.out).2.1); rintro e w16 ⟨v221, rfl, ho0, hb⟩; refine ⟨_, rfl, ?_⟩; have n0_ := Aside0.mk (Kd.N_elder' (by (with_reducible repeat (first | apply Kd.N_alloc | apply Kd.N_drewN | apply Kd.N_drew)); exact HO219.out) (Kd.R_base ho0) hb); have n1_ := Aside0.mk (Kd.R_lower ho0 (below_size (by repeat (first | (with_reducible first | exact HB.out | apply below_alloc | apply pw_below_drewN | apply below_drew1) | exact HB.out)))); have n2_ := Aside0.mk (below_step (by repeat (first | (with_reducible first | exact HB.out | apply below_alloc | apply pw_below_drewN | apply below_drew1) | exact HB.out)) hb); clear HO219; clear HB; have HO219 := n0_; have HO222 := n1_; have HB := n2_; clear n0_ n1_ n2_; (try clear hb); (try clear hb2); (try clear hk); (try clear hi); (try clear ho0)) | ((with_reducible refine gate_dst (N := 16) rfl ?_); (try (refine gate_guard (by rfl) ?_; dsimp only)); refine Kd.R_lit (Kd.int .i64) _ 3 ?hg (N := 16) ?hd (xs := ([1, 0, 0, 1] : List Int)) (inner := [.int .i64 1, .int .i64 0, .int .i64 0, .int .i64 1]) (ok := fun _ => True) (okp := fun _ => True) ?hr ?hp (fun _ hk => hk) trivial (Below.refl _ _) (Nat.le_refl _) (by simp) ?_; (case hd => rfl); (case hg => rfl); (case hr => first | (go_simp; done) | (go_simp; rfl)); (case hp => exact (Reps.one (show Kd.M (Kd.int .i64) _ _ _ 1 [.int .i64 1] from rfl) (Reps.one (show Kd.M (Kd.int .i64) _ _ _ 0 [.int .i64 0] from rfl) (Reps.one (show Kd.M (Kd.int .i64) _ _ _ 0 [.int .i64 0] from rfl) (Reps.one (show Kd.M (Kd.int .i64) _ _ _ 1 [.int .i64 1] from rfl) (Reps.none _ _)))))); intro v225 w17 ho18 hb hg_ hnew_; clear hg_ hnew_; (first | rw [← Ny224.out] at ho18 | (simp only [Int.reduceToNat] at ho18; rw [← Ny224.out] at ho18)); have n0_ := Aside0.mk (Kd.N_elder' (by (with_reducible repeat (first | apply Kd.N_alloc | apply Kd.N_drewN | apply Kd.N_drew)); exact HO219.out) (Kd.R_base ho18) hb); have n1_ := Aside0.mk (Kd.R_elder' (by (with_reducible repeat (first | apply Kd.R_alloc | apply Kd.R_drewN | apply Kd.R_drew)); exact HO222.out) (Kd.R_base ho18) hb); have n2_ := Aside0.mk (Kd.R_lower (Kd.R_new' ho18 (Kd.R_lt (by (with_reducible repeat (first | apply Kd.R_alloc | apply Kd.R_drewN | apply Kd.R_drew)); exact HO222.out))) (below_size (by repeat (first | (with_reducible first | exact HB.out | apply below_alloc | apply pw_below_drewN | apply below_drew1) | exact HB.out)))); have n3_ := Aside0.mk (below_step (by repeat (first | (with_reducible first | exact HB.out | apply below_alloc | apply pw_below_drewN | apply below_drew1) | exact HB.out)) hb); clear HO219; clear HO222; clear HB; have HO219 := n0_; have HO222 := n1_; have HO226 := n2_; have HB := n3_; clear n0_ n1_ n2_ n3_; clear hb ho18; obtain ⟨Ao19, co19, eo19⟩ := Kd.R_slice HO222.out; subst eo19; obtain ⟨Ao20, co20, eo20⟩ := Kd.R_slice HO226.out; subst eo20) | (go_at_call 59; (with_reducible refine (mizmazetop_sameInts.calls k _ _ t220 _ _ y224 t227 _ ?side1 ?side2 ?side3 ?side4 A3.out).mono ?_); (case side1 => repeat (first | exact (Kd.R_reads' HO222.out).2.2 | (with_reducible refine Kd.C_alloc ?_ _) | (with_reducible refine Kd.C_drewN ?_ _) | (with_reducible refine Kd.C_drew ?_))); (case side2 => exact (Kd.R_reads' HO222.out).2.1); (case side3 => repeat (first | exact (Kd.R_reads' HO226.out).2.2 | (with_reducible refine Kd.C_alloc ?_ _) | (with_reducible refine Kd.C_drewN ?_ _) | (with_reducible refine Kd.C_drew ?_))); (case side4 => exact (Kd.R_reads' HO226.out).2.1); rintro e w' ⟨rfl, ⟨nd, rfl⟩⟩))
    go_ret
    exact ⟨by first | rfl | (simp [errW_none, errW_some] <;> rfl) | (simp [*, errW_none, errW_some] <;> rfl), by repeat (first | (with_reducible first | exact HB.out | apply below_alloc | apply pw_below_drewN | apply below_drew1) | exact HB.out)⟩
  · rw [if_neg c2] at H
    exact absurd H (by simp)

end Go.Proofs.Ytogoppejcmaocaa.Q
end
/-! Part QTopTopCerny -/
section
-- Written by xprint.py, a program of this session's, over the kit's print. Lean checks it.
namespace Go.Proofs.Ytogoppejcmaocaa.Q
open Go.RowKit Go.Proofs.YtogoppejcmaocaaW.PrintWords Go.Proofs.YtogoppejcmaocaaW.PrintLast Go.Proofs.YtogoppejcmaocaaW.PrintMore
attribute [local go_sem] max2_int min2_int max_two min_two max_three min_three max_four min_four
set_option linter.unusedVariables false
set_option linter.unusedSimpArgs false

/-! ### mizmazetop_TopCerny: function 6 -/
mutual
def mizmazetop_TopCerny.l0 : Nat → Int → Option (Bool)
  | 0, _ => none
  | k + 1, x1 => if x1 ≤ 11 then ((short_Cerny.f k x1).bind fun bt229 => (if bt229.2 = 0 then ((mizmazetop_valid.f k bt229.1).bind fun t234 => (if t234 = true then (if (bt229.1.length : Int) = x1 then (if 0 < (bt229.1.length : Int) then (mizmazetop_TopCerny.j1 k x1 (((rd_L1 bt229.1 0).length : Int) != 2) bt229.1) else (none)) else (mizmazetop_TopCerny.j1 k x1 true bt229.1)) else (mizmazetop_TopCerny.j1 k x1 true bt229.1))) else (mizmazetop_TopCerny.j1 k x1 true bt229.1))) else ((mizmazetop_shortens.f k).bind fun t228 => (some t228))
def mizmazetop_TopCerny.j1 : Nat → Int → Bool → List (List Int) → Option (Bool)
  | 0, _, _, _ => none
  | k + 1, x1, x36, x234000 => if x36 = true then (some false) else (mizmazetop_TopCerny.l1 k x1 0 x234000)
def mizmazetop_TopCerny.l1 : Nat → Int → Int → List (List Int) → Option (Bool)
  | 0, _, _, _ => none
  | k + 1, x1, x4, x234000 => if x4 < x1 then (if 0 ≤ x4 then (if x4 < (x234000.length : Int) then (if 0 < ((rd_L1 x234000 x4).length : Int) then (if x1 = 0 then (none) else (if (rd (rd_L1 x234000 x4) 0) = (Int.tmod (wrap64 (x4 + 1)) x1) then (if x4 < (wrap64 (x1 - 1)) then (if 1 < ((rd_L1 x234000 x4).length : Int) then (if (rd (rd_L1 x234000 x4) 1) = x4 then (if x4 = (wrap64 (x1 - 1)) then (if (rd (rd_L1 x234000 x4) 1) = 0 then (mizmazetop_TopCerny.l1 k x1 (wrap64 (x4 + 1)) x234000) else (some false)) else (mizmazetop_TopCerny.l1 k x1 (wrap64 (x4 + 1)) x234000)) else (some false)) else (none)) else (if x4 = (wrap64 (x1 - 1)) then (if 1 < ((rd_L1 x234000 x4).length : Int) then (if (rd (rd_L1 x234000 x4) 1) = 0 then (mizmazetop_TopCerny.l1 k x1 (wrap64 (x4 + 1)) x234000) else (some false)) else (none)) else (mizmazetop_TopCerny.l1 k x1 (wrap64 (x4 + 1)) x234000))) else (some false))) else (none)) else (none)) else (none)) else ((short_Shortest.f k x234000).bind fun bt244 => (if bt244.2 = 0 then (if (bt244.1.length : Int) = (wrap64 ((wrap64 (x1 - 1)) * (wrap64 (x1 - 1)))) then ((mizmazetop_spread.f k x234000 bt244.1).bind fun t248 => (if t248 = 1 then (mizmazetop_TopCerny.l0 k (wrap64 (x1 + 1))) else (some false))) else (some false)) else (some false)))
end
def mizmazetop_TopCerny.f (k : Nat)  : Option (Bool) := mizmazetop_TopCerny.l0 k 2
theorem mizmazetop_TopCerny.mono_l : ∀ k, (∀ y0, LeO (mizmazetop_TopCerny.l0 k y0) (mizmazetop_TopCerny.l0 (k + 1) y0)) ∧ (∀ y0 y1 y2, LeO (mizmazetop_TopCerny.j1 k y0 y1 y2) (mizmazetop_TopCerny.j1 (k + 1) y0 y1 y2)) ∧ (∀ y0 y1 y2, LeO (mizmazetop_TopCerny.l1 k y0 y1 y2) (mizmazetop_TopCerny.l1 (k + 1) y0 y1 y2))
  | 0 => ⟨fun _ r h => by simp [mizmazetop_TopCerny.l0] at h, fun _ _ _ r h => by simp [mizmazetop_TopCerny.j1] at h, fun _ _ _ r h => by simp [mizmazetop_TopCerny.l1] at h⟩
  | k + 1 => by
    obtain ⟨ih0, ih1, ih2⟩ := mizmazetop_TopCerny.mono_l k
    refine ⟨?_, ?_, ?_⟩
    · intro y0
      unfold mizmazetop_TopCerny.l0
      repeat' first
      | (with_reducible exact ih0 _)
      | (with_reducible exact ih1 _ _ _)
      | (with_reducible exact ih2 _ _ _)
      | (with_reducible exact mizmazetop_shortens.mono _)
      | (with_reducible exact mizmazetop_spread.mono _ _ _)
      | (with_reducible exact mizmazetop_valid.mono _ _)
      | (with_reducible exact short_Cerny.mono _ _)
      | (with_reducible exact short_Shortest.mono _ _)
      | (with_reducible exact LeO.refl _)
      | (with_reducible exact LeO.none _)
      | (with_reducible refine LeO.ite ?_ ?_)
      | (with_reducible refine LeO.bind ?_ (fun _ => ?_))
      | exact ih0 _
      | exact ih1 _ _ _
      | exact ih2 _ _ _
      | exact mizmazetop_shortens.mono _
      | exact mizmazetop_spread.mono _ _ _
      | exact mizmazetop_valid.mono _ _
      | exact short_Cerny.mono _ _
      | exact short_Shortest.mono _ _
      | exact LeO.none _
      | refine LeO.ite ?_ ?_
      | refine LeO.bind ?_ (fun _ => ?_)
    · intro y0 y1 y2
      unfold mizmazetop_TopCerny.j1
      repeat' first
      | (with_reducible exact ih0 _)
      | (with_reducible exact ih1 _ _ _)
      | (with_reducible exact ih2 _ _ _)
      | (with_reducible exact mizmazetop_shortens.mono _)
      | (with_reducible exact mizmazetop_spread.mono _ _ _)
      | (with_reducible exact mizmazetop_valid.mono _ _)
      | (with_reducible exact short_Cerny.mono _ _)
      | (with_reducible exact short_Shortest.mono _ _)
      | (with_reducible exact LeO.refl _)
      | (with_reducible exact LeO.none _)
      | (with_reducible refine LeO.ite ?_ ?_)
      | (with_reducible refine LeO.bind ?_ (fun _ => ?_))
      | exact ih0 _
      | exact ih1 _ _ _
      | exact ih2 _ _ _
      | exact mizmazetop_shortens.mono _
      | exact mizmazetop_spread.mono _ _ _
      | exact mizmazetop_valid.mono _ _
      | exact short_Cerny.mono _ _
      | exact short_Shortest.mono _ _
      | exact LeO.none _
      | refine LeO.ite ?_ ?_
      | refine LeO.bind ?_ (fun _ => ?_)
    · intro y0 y1 y2
      unfold mizmazetop_TopCerny.l1
      repeat' first
      | (with_reducible exact ih0 _)
      | (with_reducible exact ih1 _ _ _)
      | (with_reducible exact ih2 _ _ _)
      | (with_reducible exact mizmazetop_shortens.mono _)
      | (with_reducible exact mizmazetop_spread.mono _ _ _)
      | (with_reducible exact mizmazetop_valid.mono _ _)
      | (with_reducible exact short_Cerny.mono _ _)
      | (with_reducible exact short_Shortest.mono _ _)
      | (with_reducible exact LeO.refl _)
      | (with_reducible exact LeO.none _)
      | (with_reducible refine LeO.ite ?_ ?_)
      | (with_reducible refine LeO.bind ?_ (fun _ => ?_))
      | exact ih0 _
      | exact ih1 _ _ _
      | exact ih2 _ _ _
      | exact mizmazetop_shortens.mono _
      | exact mizmazetop_spread.mono _ _ _
      | exact mizmazetop_valid.mono _ _
      | exact short_Cerny.mono _ _
      | exact short_Shortest.mono _ _
      | exact LeO.none _
      | refine LeO.ite ?_ ?_
      | refine LeO.bind ?_ (fun _ => ?_)
theorem mizmazetop_TopCerny.mono : ∀ k, LeO (mizmazetop_TopCerny.f k ) (mizmazetop_TopCerny.f (k + 1) ) := by
  intro  k
  obtain ⟨ih0, ih1, ih2⟩ := mizmazetop_TopCerny.mono_l k
  unfold mizmazetop_TopCerny.f
  repeat' first
      | (with_reducible exact ih0 _)
      | (with_reducible exact ih1 _ _ _)
      | (with_reducible exact ih2 _ _ _)
      | (with_reducible exact mizmazetop_shortens.mono _)
      | (with_reducible exact mizmazetop_spread.mono _ _ _)
      | (with_reducible exact mizmazetop_valid.mono _ _)
      | (with_reducible exact short_Cerny.mono _ _)
      | (with_reducible exact short_Shortest.mono _ _)
      | (with_reducible exact LeO.refl _)
      | (with_reducible exact LeO.none _)
      | (with_reducible refine LeO.ite ?_ ?_)
      | (with_reducible refine LeO.bind ?_ (fun _ => ?_))
      | exact ih0 _
      | exact ih1 _ _ _
      | exact ih2 _ _ _
      | exact mizmazetop_shortens.mono _
      | exact mizmazetop_spread.mono _ _ _
      | exact mizmazetop_valid.mono _ _
      | exact short_Cerny.mono _ _
      | exact short_Shortest.mono _ _
      | exact LeO.none _
      | refine LeO.ite ?_ ?_
      | refine LeO.bind ?_ (fun _ => ?_)
set_option maxHeartbeats 8000000 in
set_option maxRecDepth 100000 in
theorem mizmazetop_TopCerny.calls (k : Nat)  (r : Bool) (w : World) (h : mizmazetop_TopCerny.f k  = some r) :
    Calls Try.prog 6 #[] w fun e w' => e = .returned (.bool r) ∧ Below w.heap.size w w' := by
  have hu24 := Try.underlying24
  have HB := Aside0.mk (Below.refl w.heap.size w)
  have H : (mizmazetop_TopCerny.l0 k 2) = some r := h
  clear h
  have H' := Aside0.mk H
  clear H
  go_enter Try.func6, Try.ntmps6
  go_wp2
  repeat (go_quiet (fail); try go_wp2)
  go_loopg [1] k (fun kq v1 w' => ∃ (x1_1 : Int), v1 = .int .i64 x1_1 ∧ Aside0 (mizmazetop_TopCerny.l0 kq x1_1 = some r) ∧ Aside0 (kq ≤ k) ∧ Aside0 (Below w.heap.size w w'))
  case atStart => exact ⟨(2), (by first | rfl | (simp; done) | (simp [*]; done)), H', ⟨Nat.le_refl _⟩, ⟨by repeat (first | (with_reducible first | exact HB.out | apply below_alloc | apply pw_below_drewN | apply below_drew1) | exact HB.out)⟩⟩
  case round =>
    clear H'
    obtain ⟨x1_1, rfl, HA, HK1, HB⟩ := hrel
    cases gk with
    | zero => exact absurd HA.out (by simp [mizmazetop_TopCerny.l0])
    | succ k1 =>
      have H := HA.out
      clear HA
      simp only [mizmazetop_TopCerny.l0] at H
      by_cases c1 : x1_1 ≤ 11
      · rw [if_pos c1] at H
        have c1b0 : decide (x1_1 ≤ 11) = true := decide_eq_true c1
        clear c1
        replace H := Option.bind_eq_some_iff.mp H
        obtain ⟨⟨t229, t232⟩, A20, H⟩ := H
        replace H : (if t232 = 0 then ((mizmazetop_valid.f k1 t229).bind fun t234 => (if t234 = true then (if (t229.length : Int) = x1_1 then (if 0 < (t229.length : Int) then (mizmazetop_TopCerny.j1 k1 x1_1 (((rd_L1 t229 0).length : Int) != 2) t229) else (none)) else (mizmazetop_TopCerny.j1 k1 x1_1 true t229)) else (mizmazetop_TopCerny.j1 k1 x1_1 true t229))) else (mizmazetop_TopCerny.j1 k1 x1_1 true t229)) = some r := H
        have A2 := Aside0.mk A20
        clear A20
        have HC3 := Aside0.mk H
        clear H
        go_upto_region 5 with (first | (go_at_call 23; (with_reducible refine (short_Cerny.calls k1 x1_1 t229 t232 _ A2.out).mono ?_); rintro e w4 ⟨v230, rfl, ho0, hb⟩; have n0_ := Aside0.mk (Kd.S_lower ho0 (below_size (by repeat (first | (with_reducible first | exact HB.out | apply below_alloc | apply pw_below_drewN | apply below_drew1) | exact HB.out)))); have n1_ := Aside0.mk (below_step (by repeat (first | (with_reducible first | exact HB.out | apply below_alloc | apply pw_below_drewN | apply below_drew1) | exact HB.out)) hb); clear HB; have HO231 := n0_; have HB := n1_; clear n0_ n1_; (try clear hb); (try clear hb2); (try clear hk); (try clear hi); (try clear ho0)) | ((with_reducible refine gate_dst (N := 2) rfl ?_); (try (refine gate_guard (by rfl) ?_; dsimp only)); refine box_event ?hg (N := 2) ?hd (cs := #[.slice none 0 0]) (t := 24) ?hr ?_; (case hd => rfl); (case hg => rfl); (case hr => first | (go_simp; done) | (go_simp; rfl)); intro gb233 hg w5 hbox hb; have n0_ := Aside0.mk (Kd.S_below (by (with_reducible repeat (first | apply Kd.S_alloc | apply Kd.S_drewN | apply Kd.S_drew)); exact HO231.out) hb); have n1_ := Aside0.mk (below_step (by repeat (first | (with_reducible first | exact HB.out | apply below_alloc | apply pw_below_drewN | apply below_drew1) | exact HB.out)) hb); have n2_ := Aside0.mk (hbox); have n3_ := Aside0.mk ((by rw [hg]; exact (below_size (by repeat (first | (with_reducible first | exact HB.out | apply below_alloc | apply pw_below_drewN | apply below_drew1) | exact HB.out))) : w.heap.size ≤ gb233)); have n4_ := Aside0.mk ((by rw [hg]; exact (below_size (by repeat (first | (with_reducible first | exact HB.out | apply below_alloc | apply pw_below_drewN | apply below_drew1) | exact HB.out))) : w.heap.size ≤ gb233)); clear HO231; clear HB; have HO231 := n0_; have HB := n1_; have BK233 := n2_; have GW233 := n3_; have GE233 := n4_; clear n0_ n1_ n2_ n3_ n4_; clear hb hbox hg; obtain ⟨Ao6, co6, eo6⟩ := Kd.S_slice HO231.out; subst eo6; have hcz7_0 : w5.cell? ⟨gb233, 0, none⟩ = some (.slice none 0 0) := (blk_cell BK233.out 0).trans rfl; have hfz7_0 := blk_frozen BK233.out 0))
        repeat (go_quiet (first | (go_at_call 23; (with_reducible refine (short_Cerny.calls k1 x1_1 t229 t232 _ A2.out).mono ?_); rintro e w4 ⟨v230, rfl, ho0, hb⟩; have n0_ := Aside0.mk (Kd.S_lower ho0 (below_size (by repeat (first | (with_reducible first | exact HB.out | apply below_alloc | apply pw_below_drewN | apply below_drew1) | exact HB.out)))); have n1_ := Aside0.mk (below_step (by repeat (first | (with_reducible first | exact HB.out | apply below_alloc | apply pw_below_drewN | apply below_drew1) | exact HB.out)) hb); clear HB; have HO231 := n0_; have HB := n1_; clear n0_ n1_; (try clear hb); (try clear hb2); (try clear hk); (try clear hi); (try clear ho0)) | ((with_reducible refine gate_dst (N := 2) rfl ?_); (try (refine gate_guard (by rfl) ?_; dsimp only)); refine box_event ?hg (N := 2) ?hd (cs := #[.slice none 0 0]) (t := 24) ?hr ?_; (case hd => rfl); (case hg => rfl); (case hr => first | (go_simp; done) | (go_simp; rfl)); intro gb233 hg w5 hbox hb; have n0_ := Aside0.mk (Kd.S_below (by (with_reducible repeat (first | apply Kd.S_alloc | apply Kd.S_drewN | apply Kd.S_drew)); exact HO231.out) hb); have n1_ := Aside0.mk (below_step (by repeat (first | (with_reducible first | exact HB.out | apply below_alloc | apply pw_below_drewN | apply below_drew1) | exact HB.out)) hb); have n2_ := Aside0.mk (hbox); have n3_ := Aside0.mk ((by rw [hg]; exact (below_size (by repeat (first | (with_reducible first | exact HB.out | apply below_alloc | apply pw_below_drewN | apply below_drew1) | exact HB.out))) : w.heap.size ≤ gb233)); have n4_ := Aside0.mk ((by rw [hg]; exact (below_size (by repeat (first | (with_reducible first | exact HB.out | apply below_alloc | apply pw_below_drewN | apply below_drew1) | exact HB.out))) : w.heap.size ≤ gb233)); clear HO231; clear HB; have HO231 := n0_; have HB := n1_; have BK233 := n2_; have GW233 := n3_; have GE233 := n4_; clear n0_ n1_ n2_ n3_ n4_; clear hb hbox hg; obtain ⟨Ao6, co6, eo6⟩ := Kd.S_slice HO231.out; subst eo6; have hcz7_0 : w5.cell? ⟨gb233, 0, none⟩ = some (.slice none 0 0) := (blk_cell BK233.out 0).trans rfl; have hfz7_0 := blk_frozen BK233.out 0)); go_upto_region 5 with (first | (go_at_call 23; (with_reducible refine (short_Cerny.calls k1 x1_1 t229 t232 _ A2.out).mono ?_); rintro e w4 ⟨v230, rfl, ho0, hb⟩; have n0_ := Aside0.mk (Kd.S_lower ho0 (below_size (by repeat (first | (with_reducible first | exact HB.out | apply below_alloc | apply pw_below_drewN | apply below_drew1) | exact HB.out)))); have n1_ := Aside0.mk (below_step (by repeat (first | (with_reducible first | exact HB.out | apply below_alloc | apply pw_below_drewN | apply below_drew1) | exact HB.out)) hb); clear HB; have HO231 := n0_; have HB := n1_; clear n0_ n1_; (try clear hb); (try clear hb2); (try clear hk); (try clear hi); (try clear ho0)) | ((with_reducible refine gate_dst (N := 2) rfl ?_); (try (refine gate_guard (by rfl) ?_; dsimp only)); refine box_event ?hg (N := 2) ?hd (cs := #[.slice none 0 0]) (t := 24) ?hr ?_; (case hd => rfl); (case hg => rfl); (case hr => first | (go_simp; done) | (go_simp; rfl)); intro gb233 hg w5 hbox hb; have n0_ := Aside0.mk (Kd.S_below (by (with_reducible repeat (first | apply Kd.S_alloc | apply Kd.S_drewN | apply Kd.S_drew)); exact HO231.out) hb); have n1_ := Aside0.mk (below_step (by repeat (first | (with_reducible first | exact HB.out | apply below_alloc | apply pw_below_drewN | apply below_drew1) | exact HB.out)) hb); have n2_ := Aside0.mk (hbox); have n3_ := Aside0.mk ((by rw [hg]; exact (below_size (by repeat (first | (with_reducible first | exact HB.out | apply below_alloc | apply pw_below_drewN | apply below_drew1) | exact HB.out))) : w.heap.size ≤ gb233)); have n4_ := Aside0.mk ((by rw [hg]; exact (below_size (by repeat (first | (with_reducible first | exact HB.out | apply below_alloc | apply pw_below_drewN | apply below_drew1) | exact HB.out))) : w.heap.size ≤ gb233)); clear HO231; clear HB; have HO231 := n0_; have HB := n1_; have BK233 := n2_; have GW233 := n3_; have GE233 := n4_; clear n0_ n1_ n2_ n3_ n4_; clear hb hbox hg; obtain ⟨Ao6, co6, eo6⟩ := Kd.S_slice HO231.out; subst eo6; have hcz7_0 : w5.cell? ⟨gb233, 0, none⟩ = some (.slice none 0 0) := (blk_cell BK233.out 0).trans rfl; have hfz7_0 := blk_frozen BK233.out 0)))
        (try simp only [Act.put, List.setIfInBounds_toArray, List.set_cons_zero, List.set_cons_succ])
        go_cut [36] (fun v36 wc => ∃ (kq : Nat) (x36_2 : Bool), v36 = .bool x36_2 ∧ Aside0 (mizmazetop_TopCerny.j1 kq x1_1 x36_2 t229 = some r) ∧ Aside0 (kq ≤ k1) ∧ Aside0 (Kd.S (Kd.slice 3 (Kd.int .i64)) 25 wc w.heap.size (fun _ => True) (.slice Ao6 t229.length co6) t229) ∧ Aside0 (wc.heap[gb233]? = some (.cells #[(.slice Ao6 t229.length co6)] 24 (0, 0))) ∧ Aside0 (Below w.heap.size w wc))
        case first =>
          have H := HC3.out
          clear HC3
          by_cases c8 : t232 = 0
          · rw [if_pos c8] at H
            have c8b0 : (t232 == 0) = true := beq_iff_eq.mpr c8
            have c8b1 : (t232 != 0) = false := bne_eq_false_iff_eq.mpr c8
            clear c8
            (first | rw [c8b0] | (simp only [i64_w, i32_w]; rw [c8b0]) | skip)
            replace H := Option.bind_eq_some_iff.mp H
            obtain ⟨t234, A90, H⟩ := H
            replace H : (if t234 = true then (if (t229.length : Int) = x1_1 then (if 0 < (t229.length : Int) then (mizmazetop_TopCerny.j1 k1 x1_1 (((rd_L1 t229 0).length : Int) != 2) t229) else (none)) else (mizmazetop_TopCerny.j1 k1 x1_1 true t229)) else (mizmazetop_TopCerny.j1 k1 x1_1 true t229)) = some r := H
            have A9 := Aside0.mk A90
            clear A90
            by_cases c10 : t234 = true
            · subst c10
              have H1 : (if (t229.length : Int) = x1_1 then (if 0 < (t229.length : Int) then (mizmazetop_TopCerny.j1 k1 x1_1 (((rd_L1 t229 0).length : Int) != 2) t229) else (none)) else (mizmazetop_TopCerny.j1 k1 x1_1 true t229)) = some r := by rw [if_pos rfl] at H; exact H
              clear H
              have H := H1
              clear H1
              by_cases c11 : (t229.length : Int) = x1_1
              · rw [if_pos c11] at H
                have c11b0 : ((t229.length : Int) == x1_1) = true := beq_iff_eq.mpr c11
                have c11b1 : ((t229.length : Int) != x1_1) = false := bne_eq_false_iff_eq.mpr c11
                clear c11
                by_cases c12 : 0 < (t229.length : Int)
                · rw [if_pos c12] at H
                  have c12b0 : decide (0 < (t229.length : Int)) = true := decide_eq_true c12
                  have c12b1 : decide (0 < t229.length) = true := decide_eq_true (by omega)
                  clear c12
                  have H' := Aside0.mk H
                  clear H
                  have hcz13_0 : w5.cell? ⟨gb233, 0, none⟩ = some (.slice none 0 0) := (blk_cell BK233.out 0).trans rfl
                  have hfz13_0 := blk_frozen BK233.out 0
                  go_wp2_with (first | (go_at_call 26; (with_reducible refine (mizmazetop_valid.calls k1 _ _ t229 true _ ?side1 ?side2 A9.out).mono ?_); (case side1 => refine (Kd.S_reads' (e := 25) (base := w.heap.size) (ok := fun k_ => True) (n := t229.length) (c := co6) ?_).2.2; exact (by (with_reducible repeat (first | apply Kd.S_alloc | apply Kd.S_drewN | apply Kd.S_drew)); exact (Kd.S_mono (Kd.S_far (p := ⟨gb233, 0, none⟩) (Kd.S_types HO231.out BK233.out (by decide)) (fun _ hk => hk.2) (.slice Ao6 t229.length co6)) (fun _ h_ => h_.1)))); (case side2 => exact (Kd.S_reads' HO231.out).2.1); rintro e w14 ⟨rfl, hb⟩; have n0_ := Aside0.mk (Kd.S_below (by (with_reducible repeat (first | apply Kd.S_alloc | apply Kd.S_drewN | apply Kd.S_drew)); exact (Kd.S_mono (Kd.S_far (p := ⟨gb233, 0, none⟩) (Kd.S_types HO231.out BK233.out (by decide)) (fun _ hk => hk.2) (.slice Ao6 t229.length co6)) (fun _ h_ => h_.1))) hb); have n1_ := Aside0.mk (blk_below (g := gb233) (o := .cells #[.slice Ao6 t229.length co6] 24 (0, 0)) (by (with_reducible repeat (first | refine blk_drewN ?_ _ | refine blk_drew ?_ | refine blk_alloc ?_ _)); refine blk_put (cs := #[.slice none 0 0]) ?_ 0 _ rfl; (with_reducible repeat (first | refine blk_drewN ?_ _ | refine blk_drew ?_ | refine blk_alloc ?_ _)); exact BK233.out) hb); have n2_ := Aside0.mk (below_step (by repeat (first | (with_reducible first | exact HB.out | apply below_alloc | apply pw_below_drewN | apply below_drew1 | refine below_set ?_ GE233.out) | exact HB.out)) hb); clear HO231; clear BK233; clear HB; have HO231 := n0_; have BK233 := n1_; have HB := n2_; clear n0_ n1_ n2_; (try clear hb); (try clear hb2); (try clear hk); (try clear hi); have hcz15_0 : w14.cell? ⟨gb233, 0, none⟩ = some (.slice Ao6 t229.length co6) := (blk_cell BK233.out 0).trans rfl; have hfz15_0 := blk_frozen BK233.out 0; have p235 : 0 ≤ (0 : Int) := (by omega); have q235 : 0 < (t229.length : Int) := of_decide_eq_true (by first | (with_reducible assumption) | assumption); obtain ⟨ad235, A235_0, c235_0, e235, hx235_0, hl235_0, hi235_0⟩ := at_L1 (Kd.S_reads' HO231.out).2.2 0 p235 q235; cases e235; obtain ⟨ce235, hce235, hMe235, hcc235⟩ := Kd.S_get HO231.out [] 0 p235 (by first | exact q235 | exact of_decide_eq_true (by first | (with_reducible assumption) | assumption) | (have e_ := (Kd.S_reads' HO231.out).1; omega)); obtain ⟨ve235_0, rfl, ge235_0⟩ := hMe235; have hv235_0 := hcc235 0 _ rfl; rw [Nat.add_zero, show ((Kd.slice 3 (Kd.int .i64))).sz = 1 from rfl, Nat.mul_one] at hv235_0; replace hv235_0 := Option.some.inj (hv235_0.symm.trans hx235_0); rw [hv235_0] at ge235_0; have HL235_0 := Aside0.mk (show Kd.R (Kd.int .i64) 3 _ _ _ _ (rd_L1 t229 0) from ge235_0); clear hv235_0 ge235_0; clear hcc235 hce235; have qi235 : (0 < t229.length) = True := eq_true (by omega); (try rw [show ((0 : Int)).toNat = 0 from rfl] at hx235_0); (try rw [Addr.add_zero'] at hx235_0); have HR235_0 := Aside0.mk hi235_0; have HC235_0 := Aside0.mk hl235_0; clear hi235_0 hl235_0; replace p235 := eq_true p235; replace q235 := eq_true q235))
                  repeat (go_quiet (first | (go_at_call 26; (with_reducible refine (mizmazetop_valid.calls k1 _ _ t229 true _ ?side1 ?side2 A9.out).mono ?_); (case side1 => refine (Kd.S_reads' (e := 25) (base := w.heap.size) (ok := fun k_ => True) (n := t229.length) (c := co6) ?_).2.2; exact (by (with_reducible repeat (first | apply Kd.S_alloc | apply Kd.S_drewN | apply Kd.S_drew)); exact (Kd.S_mono (Kd.S_far (p := ⟨gb233, 0, none⟩) (Kd.S_types HO231.out BK233.out (by decide)) (fun _ hk => hk.2) (.slice Ao6 t229.length co6)) (fun _ h_ => h_.1)))); (case side2 => exact (Kd.S_reads' HO231.out).2.1); rintro e w14 ⟨rfl, hb⟩; have n0_ := Aside0.mk (Kd.S_below (by (with_reducible repeat (first | apply Kd.S_alloc | apply Kd.S_drewN | apply Kd.S_drew)); exact (Kd.S_mono (Kd.S_far (p := ⟨gb233, 0, none⟩) (Kd.S_types HO231.out BK233.out (by decide)) (fun _ hk => hk.2) (.slice Ao6 t229.length co6)) (fun _ h_ => h_.1))) hb); have n1_ := Aside0.mk (blk_below (g := gb233) (o := .cells #[.slice Ao6 t229.length co6] 24 (0, 0)) (by (with_reducible repeat (first | refine blk_drewN ?_ _ | refine blk_drew ?_ | refine blk_alloc ?_ _)); refine blk_put (cs := #[.slice none 0 0]) ?_ 0 _ rfl; (with_reducible repeat (first | refine blk_drewN ?_ _ | refine blk_drew ?_ | refine blk_alloc ?_ _)); exact BK233.out) hb); have n2_ := Aside0.mk (below_step (by repeat (first | (with_reducible first | exact HB.out | apply below_alloc | apply pw_below_drewN | apply below_drew1 | refine below_set ?_ GE233.out) | exact HB.out)) hb); clear HO231; clear BK233; clear HB; have HO231 := n0_; have BK233 := n1_; have HB := n2_; clear n0_ n1_ n2_; (try clear hb); (try clear hb2); (try clear hk); (try clear hi); have hcz15_0 : w14.cell? ⟨gb233, 0, none⟩ = some (.slice Ao6 t229.length co6) := (blk_cell BK233.out 0).trans rfl; have hfz15_0 := blk_frozen BK233.out 0; have p235 : 0 ≤ (0 : Int) := (by omega); have q235 : 0 < (t229.length : Int) := of_decide_eq_true (by first | (with_reducible assumption) | assumption); obtain ⟨ad235, A235_0, c235_0, e235, hx235_0, hl235_0, hi235_0⟩ := at_L1 (Kd.S_reads' HO231.out).2.2 0 p235 q235; cases e235; obtain ⟨ce235, hce235, hMe235, hcc235⟩ := Kd.S_get HO231.out [] 0 p235 (by first | exact q235 | exact of_decide_eq_true (by first | (with_reducible assumption) | assumption) | (have e_ := (Kd.S_reads' HO231.out).1; omega)); obtain ⟨ve235_0, rfl, ge235_0⟩ := hMe235; have hv235_0 := hcc235 0 _ rfl; rw [Nat.add_zero, show ((Kd.slice 3 (Kd.int .i64))).sz = 1 from rfl, Nat.mul_one] at hv235_0; replace hv235_0 := Option.some.inj (hv235_0.symm.trans hx235_0); rw [hv235_0] at ge235_0; have HL235_0 := Aside0.mk (show Kd.R (Kd.int .i64) 3 _ _ _ _ (rd_L1 t229 0) from ge235_0); clear hv235_0 ge235_0; clear hcc235 hce235; have qi235 : (0 < t229.length) = True := eq_true (by omega); (try rw [show ((0 : Int)).toNat = 0 from rfl] at hx235_0); (try rw [Addr.add_zero'] at hx235_0); have HR235_0 := Aside0.mk hi235_0; have HC235_0 := Aside0.mk hl235_0; clear hi235_0 hl235_0; replace p235 := eq_true p235; replace q235 := eq_true q235)); try go_wp2_with (first | (go_at_call 26; (with_reducible refine (mizmazetop_valid.calls k1 _ _ t229 true _ ?side1 ?side2 A9.out).mono ?_); (case side1 => refine (Kd.S_reads' (e := 25) (base := w.heap.size) (ok := fun k_ => True) (n := t229.length) (c := co6) ?_).2.2; exact (by (with_reducible repeat (first | apply Kd.S_alloc | apply Kd.S_drewN | apply Kd.S_drew)); exact (Kd.S_mono (Kd.S_far (p := ⟨gb233, 0, none⟩) (Kd.S_types HO231.out BK233.out (by decide)) (fun _ hk => hk.2) (.slice Ao6 t229.length co6)) (fun _ h_ => h_.1)))); (case side2 => exact (Kd.S_reads' HO231.out).2.1); rintro e w14 ⟨rfl, hb⟩; have n0_ := Aside0.mk (Kd.S_below (by (with_reducible repeat (first | apply Kd.S_alloc | apply Kd.S_drewN | apply Kd.S_drew)); exact (Kd.S_mono (Kd.S_far (p := ⟨gb233, 0, none⟩) (Kd.S_types HO231.out BK233.out (by decide)) (fun _ hk => hk.2) (.slice Ao6 t229.length co6)) (fun _ h_ => h_.1))) hb); have n1_ := Aside0.mk (blk_below (g := gb233) (o := .cells #[.slice Ao6 t229.length co6] 24 (0, 0)) (by (with_reducible repeat (first | refine blk_drewN ?_ _ | refine blk_drew ?_ | refine blk_alloc ?_ _)); refine blk_put (cs := #[.slice none 0 0]) ?_ 0 _ rfl; (with_reducible repeat (first | refine blk_drewN ?_ _ | refine blk_drew ?_ | refine blk_alloc ?_ _)); exact BK233.out) hb); have n2_ := Aside0.mk (below_step (by repeat (first | (with_reducible first | exact HB.out | apply below_alloc | apply pw_below_drewN | apply below_drew1 | refine below_set ?_ GE233.out) | exact HB.out)) hb); clear HO231; clear BK233; clear HB; have HO231 := n0_; have BK233 := n1_; have HB := n2_; clear n0_ n1_ n2_; (try clear hb); (try clear hb2); (try clear hk); (try clear hi); have hcz15_0 : w14.cell? ⟨gb233, 0, none⟩ = some (.slice Ao6 t229.length co6) := (blk_cell BK233.out 0).trans rfl; have hfz15_0 := blk_frozen BK233.out 0; have p235 : 0 ≤ (0 : Int) := (by omega); have q235 : 0 < (t229.length : Int) := of_decide_eq_true (by first | (with_reducible assumption) | assumption); obtain ⟨ad235, A235_0, c235_0, e235, hx235_0, hl235_0, hi235_0⟩ := at_L1 (Kd.S_reads' HO231.out).2.2 0 p235 q235; cases e235; obtain ⟨ce235, hce235, hMe235, hcc235⟩ := Kd.S_get HO231.out [] 0 p235 (by first | exact q235 | exact of_decide_eq_true (by first | (with_reducible assumption) | assumption) | (have e_ := (Kd.S_reads' HO231.out).1; omega)); obtain ⟨ve235_0, rfl, ge235_0⟩ := hMe235; have hv235_0 := hcc235 0 _ rfl; rw [Nat.add_zero, show ((Kd.slice 3 (Kd.int .i64))).sz = 1 from rfl, Nat.mul_one] at hv235_0; replace hv235_0 := Option.some.inj (hv235_0.symm.trans hx235_0); rw [hv235_0] at ge235_0; have HL235_0 := Aside0.mk (show Kd.R (Kd.int .i64) 3 _ _ _ _ (rd_L1 t229 0) from ge235_0); clear hv235_0 ge235_0; clear hcc235 hce235; have qi235 : (0 < t229.length) = True := eq_true (by omega); (try rw [show ((0 : Int)).toNat = 0 from rfl] at hx235_0); (try rw [Addr.add_zero'] at hx235_0); have HR235_0 := Aside0.mk hi235_0; have HC235_0 := Aside0.mk hl235_0; clear hi235_0 hl235_0; replace p235 := eq_true p235; replace q235 := eq_true q235)))
                  go_meet
                  case rel => exact ⟨_, ((((rd_L1 t229 0).length : Int) != 2)), (by first | rfl | (simp; done) | (simp [*]; done)), H', ⟨by have := HK1.out; first | omega | exact Nat.le_refl _⟩, ⟨by (with_reducible repeat (first | apply Kd.S_alloc | apply Kd.S_drewN | apply Kd.S_drew)); exact HO231.out⟩, ⟨by (with_reducible repeat (first | refine blk_drewN ?_ _ | refine blk_drew ?_ | refine blk_alloc ?_ _)); exact BK233.out⟩, ⟨by repeat (first | (with_reducible first | exact HB.out | apply below_alloc | apply pw_below_drewN | apply below_drew1 | refine below_set ?_ GE233.out) | exact HB.out)⟩⟩
                · rw [if_neg c12] at H
                  exact absurd H (by simp)
              · rw [if_neg c11] at H
                have c11b0 : ((t229.length : Int) == x1_1) = false := beq_eq_false_iff_ne.mpr c11
                have c11b1 : ((t229.length : Int) != x1_1) = true := bne_iff_ne.mpr c11
                have H' := Aside0.mk H
                clear H
                have hcz16_0 : w5.cell? ⟨gb233, 0, none⟩ = some (.slice none 0 0) := (blk_cell BK233.out 0).trans rfl
                have hfz16_0 := blk_frozen BK233.out 0
                go_wp2_with (first | (go_at_call 26; (with_reducible refine (mizmazetop_valid.calls k1 _ _ t229 true _ ?side1 ?side2 A9.out).mono ?_); (case side1 => refine (Kd.S_reads' (e := 25) (base := w.heap.size) (ok := fun k_ => True) (n := t229.length) (c := co6) ?_).2.2; exact (by (with_reducible repeat (first | apply Kd.S_alloc | apply Kd.S_drewN | apply Kd.S_drew)); exact (Kd.S_mono (Kd.S_far (p := ⟨gb233, 0, none⟩) (Kd.S_types HO231.out BK233.out (by decide)) (fun _ hk => hk.2) (.slice Ao6 t229.length co6)) (fun _ h_ => h_.1)))); (case side2 => exact (Kd.S_reads' HO231.out).2.1); rintro e w17 ⟨rfl, hb⟩; have n0_ := Aside0.mk (Kd.S_below (by (with_reducible repeat (first | apply Kd.S_alloc | apply Kd.S_drewN | apply Kd.S_drew)); exact (Kd.S_mono (Kd.S_far (p := ⟨gb233, 0, none⟩) (Kd.S_types HO231.out BK233.out (by decide)) (fun _ hk => hk.2) (.slice Ao6 t229.length co6)) (fun _ h_ => h_.1))) hb); have n1_ := Aside0.mk (blk_below (g := gb233) (o := .cells #[.slice Ao6 t229.length co6] 24 (0, 0)) (by (with_reducible repeat (first | refine blk_drewN ?_ _ | refine blk_drew ?_ | refine blk_alloc ?_ _)); refine blk_put (cs := #[.slice none 0 0]) ?_ 0 _ rfl; (with_reducible repeat (first | refine blk_drewN ?_ _ | refine blk_drew ?_ | refine blk_alloc ?_ _)); exact BK233.out) hb); have n2_ := Aside0.mk (below_step (by repeat (first | (with_reducible first | exact HB.out | apply below_alloc | apply pw_below_drewN | apply below_drew1 | refine below_set ?_ GE233.out) | exact HB.out)) hb); clear HO231; clear BK233; clear HB; have HO231 := n0_; have BK233 := n1_; have HB := n2_; clear n0_ n1_ n2_; (try clear hb); (try clear hb2); (try clear hk); (try clear hi); have hcz18_0 : w17.cell? ⟨gb233, 0, none⟩ = some (.slice Ao6 t229.length co6) := (blk_cell BK233.out 0).trans rfl; have hfz18_0 := blk_frozen BK233.out 0))
                repeat (go_quiet (first | (go_at_call 26; (with_reducible refine (mizmazetop_valid.calls k1 _ _ t229 true _ ?side1 ?side2 A9.out).mono ?_); (case side1 => refine (Kd.S_reads' (e := 25) (base := w.heap.size) (ok := fun k_ => True) (n := t229.length) (c := co6) ?_).2.2; exact (by (with_reducible repeat (first | apply Kd.S_alloc | apply Kd.S_drewN | apply Kd.S_drew)); exact (Kd.S_mono (Kd.S_far (p := ⟨gb233, 0, none⟩) (Kd.S_types HO231.out BK233.out (by decide)) (fun _ hk => hk.2) (.slice Ao6 t229.length co6)) (fun _ h_ => h_.1)))); (case side2 => exact (Kd.S_reads' HO231.out).2.1); rintro e w17 ⟨rfl, hb⟩; have n0_ := Aside0.mk (Kd.S_below (by (with_reducible repeat (first | apply Kd.S_alloc | apply Kd.S_drewN | apply Kd.S_drew)); exact (Kd.S_mono (Kd.S_far (p := ⟨gb233, 0, none⟩) (Kd.S_types HO231.out BK233.out (by decide)) (fun _ hk => hk.2) (.slice Ao6 t229.length co6)) (fun _ h_ => h_.1))) hb); have n1_ := Aside0.mk (blk_below (g := gb233) (o := .cells #[.slice Ao6 t229.length co6] 24 (0, 0)) (by (with_reducible repeat (first | refine blk_drewN ?_ _ | refine blk_drew ?_ | refine blk_alloc ?_ _)); refine blk_put (cs := #[.slice none 0 0]) ?_ 0 _ rfl; (with_reducible repeat (first | refine blk_drewN ?_ _ | refine blk_drew ?_ | refine blk_alloc ?_ _)); exact BK233.out) hb); have n2_ := Aside0.mk (below_step (by repeat (first | (with_reducible first | exact HB.out | apply below_alloc | apply pw_below_drewN | apply below_drew1 | refine below_set ?_ GE233.out) | exact HB.out)) hb); clear HO231; clear BK233; clear HB; have HO231 := n0_; have BK233 := n1_; have HB := n2_; clear n0_ n1_ n2_; (try clear hb); (try clear hb2); (try clear hk); (try clear hi); have hcz18_0 : w17.cell? ⟨gb233, 0, none⟩ = some (.slice Ao6 t229.length co6) := (blk_cell BK233.out 0).trans rfl; have hfz18_0 := blk_frozen BK233.out 0)); try go_wp2_with (first | (go_at_call 26; (with_reducible refine (mizmazetop_valid.calls k1 _ _ t229 true _ ?side1 ?side2 A9.out).mono ?_); (case side1 => refine (Kd.S_reads' (e := 25) (base := w.heap.size) (ok := fun k_ => True) (n := t229.length) (c := co6) ?_).2.2; exact (by (with_reducible repeat (first | apply Kd.S_alloc | apply Kd.S_drewN | apply Kd.S_drew)); exact (Kd.S_mono (Kd.S_far (p := ⟨gb233, 0, none⟩) (Kd.S_types HO231.out BK233.out (by decide)) (fun _ hk => hk.2) (.slice Ao6 t229.length co6)) (fun _ h_ => h_.1)))); (case side2 => exact (Kd.S_reads' HO231.out).2.1); rintro e w17 ⟨rfl, hb⟩; have n0_ := Aside0.mk (Kd.S_below (by (with_reducible repeat (first | apply Kd.S_alloc | apply Kd.S_drewN | apply Kd.S_drew)); exact (Kd.S_mono (Kd.S_far (p := ⟨gb233, 0, none⟩) (Kd.S_types HO231.out BK233.out (by decide)) (fun _ hk => hk.2) (.slice Ao6 t229.length co6)) (fun _ h_ => h_.1))) hb); have n1_ := Aside0.mk (blk_below (g := gb233) (o := .cells #[.slice Ao6 t229.length co6] 24 (0, 0)) (by (with_reducible repeat (first | refine blk_drewN ?_ _ | refine blk_drew ?_ | refine blk_alloc ?_ _)); refine blk_put (cs := #[.slice none 0 0]) ?_ 0 _ rfl; (with_reducible repeat (first | refine blk_drewN ?_ _ | refine blk_drew ?_ | refine blk_alloc ?_ _)); exact BK233.out) hb); have n2_ := Aside0.mk (below_step (by repeat (first | (with_reducible first | exact HB.out | apply below_alloc | apply pw_below_drewN | apply below_drew1 | refine below_set ?_ GE233.out) | exact HB.out)) hb); clear HO231; clear BK233; clear HB; have HO231 := n0_; have BK233 := n1_; have HB := n2_; clear n0_ n1_ n2_; (try clear hb); (try clear hb2); (try clear hk); (try clear hi); have hcz18_0 : w17.cell? ⟨gb233, 0, none⟩ = some (.slice Ao6 t229.length co6) := (blk_cell BK233.out 0).trans rfl; have hfz18_0 := blk_frozen BK233.out 0)))
                go_meet
                case rel => exact ⟨_, (true), (by first | rfl | (simp; done) | (simp [*]; done)), H', ⟨by have := HK1.out; first | omega | exact Nat.le_refl _⟩, ⟨by (with_reducible repeat (first | apply Kd.S_alloc | apply Kd.S_drewN | apply Kd.S_drew)); exact HO231.out⟩, ⟨by (with_reducible repeat (first | refine blk_drewN ?_ _ | refine blk_drew ?_ | refine blk_alloc ?_ _)); exact BK233.out⟩, ⟨by repeat (first | (with_reducible first | exact HB.out | apply below_alloc | apply pw_below_drewN | apply below_drew1 | refine below_set ?_ GE233.out) | exact HB.out)⟩⟩
            · replace c10 := Bool.eq_false_iff.mpr c10
              subst c10
              have H1 : (mizmazetop_TopCerny.j1 k1 x1_1 true t229) = some r := by rw [if_neg (show ¬ (false = true) by decide)] at H; exact H
              clear H
              have H := H1
              clear H1
              have H' := Aside0.mk H
              clear H
              have hcz19_0 : w5.cell? ⟨gb233, 0, none⟩ = some (.slice none 0 0) := (blk_cell BK233.out 0).trans rfl
              have hfz19_0 := blk_frozen BK233.out 0
              go_wp2_with (first | (go_at_call 26; (with_reducible refine (mizmazetop_valid.calls k1 _ _ t229 false _ ?side1 ?side2 A9.out).mono ?_); (case side1 => refine (Kd.S_reads' (e := 25) (base := w.heap.size) (ok := fun k_ => True) (n := t229.length) (c := co6) ?_).2.2; exact (by (with_reducible repeat (first | apply Kd.S_alloc | apply Kd.S_drewN | apply Kd.S_drew)); exact (Kd.S_mono (Kd.S_far (p := ⟨gb233, 0, none⟩) (Kd.S_types HO231.out BK233.out (by decide)) (fun _ hk => hk.2) (.slice Ao6 t229.length co6)) (fun _ h_ => h_.1)))); (case side2 => exact (Kd.S_reads' HO231.out).2.1); rintro e w20 ⟨rfl, hb⟩; have n0_ := Aside0.mk (Kd.S_below (by (with_reducible repeat (first | apply Kd.S_alloc | apply Kd.S_drewN | apply Kd.S_drew)); exact (Kd.S_mono (Kd.S_far (p := ⟨gb233, 0, none⟩) (Kd.S_types HO231.out BK233.out (by decide)) (fun _ hk => hk.2) (.slice Ao6 t229.length co6)) (fun _ h_ => h_.1))) hb); have n1_ := Aside0.mk (blk_below (g := gb233) (o := .cells #[.slice Ao6 t229.length co6] 24 (0, 0)) (by (with_reducible repeat (first | refine blk_drewN ?_ _ | refine blk_drew ?_ | refine blk_alloc ?_ _)); refine blk_put (cs := #[.slice none 0 0]) ?_ 0 _ rfl; (with_reducible repeat (first | refine blk_drewN ?_ _ | refine blk_drew ?_ | refine blk_alloc ?_ _)); exact BK233.out) hb); have n2_ := Aside0.mk (below_step (by repeat (first | (with_reducible first | exact HB.out | apply below_alloc | apply pw_below_drewN | apply below_drew1 | refine below_set ?_ GE233.out) | exact HB.out)) hb); clear HO231; clear BK233; clear HB; have HO231 := n0_; have BK233 := n1_; have HB := n2_; clear n0_ n1_ n2_; (try clear hb); (try clear hb2); (try clear hk); (try clear hi)))
              repeat (go_quiet (first | (go_at_call 26; (with_reducible refine (mizmazetop_valid.calls k1 _ _ t229 false _ ?side1 ?side2 A9.out).mono ?_); (case side1 => refine (Kd.S_reads' (e := 25) (base := w.heap.size) (ok := fun k_ => True) (n := t229.length) (c := co6) ?_).2.2; exact (by (with_reducible repeat (first | apply Kd.S_alloc | apply Kd.S_drewN | apply Kd.S_drew)); exact (Kd.S_mono (Kd.S_far (p := ⟨gb233, 0, none⟩) (Kd.S_types HO231.out BK233.out (by decide)) (fun _ hk => hk.2) (.slice Ao6 t229.length co6)) (fun _ h_ => h_.1)))); (case side2 => exact (Kd.S_reads' HO231.out).2.1); rintro e w20 ⟨rfl, hb⟩; have n0_ := Aside0.mk (Kd.S_below (by (with_reducible repeat (first | apply Kd.S_alloc | apply Kd.S_drewN | apply Kd.S_drew)); exact (Kd.S_mono (Kd.S_far (p := ⟨gb233, 0, none⟩) (Kd.S_types HO231.out BK233.out (by decide)) (fun _ hk => hk.2) (.slice Ao6 t229.length co6)) (fun _ h_ => h_.1))) hb); have n1_ := Aside0.mk (blk_below (g := gb233) (o := .cells #[.slice Ao6 t229.length co6] 24 (0, 0)) (by (with_reducible repeat (first | refine blk_drewN ?_ _ | refine blk_drew ?_ | refine blk_alloc ?_ _)); refine blk_put (cs := #[.slice none 0 0]) ?_ 0 _ rfl; (with_reducible repeat (first | refine blk_drewN ?_ _ | refine blk_drew ?_ | refine blk_alloc ?_ _)); exact BK233.out) hb); have n2_ := Aside0.mk (below_step (by repeat (first | (with_reducible first | exact HB.out | apply below_alloc | apply pw_below_drewN | apply below_drew1 | refine below_set ?_ GE233.out) | exact HB.out)) hb); clear HO231; clear BK233; clear HB; have HO231 := n0_; have BK233 := n1_; have HB := n2_; clear n0_ n1_ n2_; (try clear hb); (try clear hb2); (try clear hk); (try clear hi))); try go_wp2_with (first | (go_at_call 26; (with_reducible refine (mizmazetop_valid.calls k1 _ _ t229 false _ ?side1 ?side2 A9.out).mono ?_); (case side1 => refine (Kd.S_reads' (e := 25) (base := w.heap.size) (ok := fun k_ => True) (n := t229.length) (c := co6) ?_).2.2; exact (by (with_reducible repeat (first | apply Kd.S_alloc | apply Kd.S_drewN | apply Kd.S_drew)); exact (Kd.S_mono (Kd.S_far (p := ⟨gb233, 0, none⟩) (Kd.S_types HO231.out BK233.out (by decide)) (fun _ hk => hk.2) (.slice Ao6 t229.length co6)) (fun _ h_ => h_.1)))); (case side2 => exact (Kd.S_reads' HO231.out).2.1); rintro e w20 ⟨rfl, hb⟩; have n0_ := Aside0.mk (Kd.S_below (by (with_reducible repeat (first | apply Kd.S_alloc | apply Kd.S_drewN | apply Kd.S_drew)); exact (Kd.S_mono (Kd.S_far (p := ⟨gb233, 0, none⟩) (Kd.S_types HO231.out BK233.out (by decide)) (fun _ hk => hk.2) (.slice Ao6 t229.length co6)) (fun _ h_ => h_.1))) hb); have n1_ := Aside0.mk (blk_below (g := gb233) (o := .cells #[.slice Ao6 t229.length co6] 24 (0, 0)) (by (with_reducible repeat (first | refine blk_drewN ?_ _ | refine blk_drew ?_ | refine blk_alloc ?_ _)); refine blk_put (cs := #[.slice none 0 0]) ?_ 0 _ rfl; (with_reducible repeat (first | refine blk_drewN ?_ _ | refine blk_drew ?_ | refine blk_alloc ?_ _)); exact BK233.out) hb); have n2_ := Aside0.mk (below_step (by repeat (first | (with_reducible first | exact HB.out | apply below_alloc | apply pw_below_drewN | apply below_drew1 | refine below_set ?_ GE233.out) | exact HB.out)) hb); clear HO231; clear BK233; clear HB; have HO231 := n0_; have BK233 := n1_; have HB := n2_; clear n0_ n1_ n2_; (try clear hb); (try clear hb2); (try clear hk); (try clear hi))))
              go_meet
              case rel => exact ⟨_, (true), (by first | rfl | (simp; done) | (simp [*]; done)), H', ⟨by have := HK1.out; first | omega | exact Nat.le_refl _⟩, ⟨by (with_reducible repeat (first | apply Kd.S_alloc | apply Kd.S_drewN | apply Kd.S_drew)); exact HO231.out⟩, ⟨by (with_reducible repeat (first | refine blk_drewN ?_ _ | refine blk_drew ?_ | refine blk_alloc ?_ _)); exact BK233.out⟩, ⟨by repeat (first | (with_reducible first | exact HB.out | apply below_alloc | apply pw_below_drewN | apply below_drew1 | refine below_set ?_ GE233.out) | exact HB.out)⟩⟩
          · rw [if_neg c8] at H
            have c8b0 : (t232 == 0) = false := beq_eq_false_iff_ne.mpr c8
            have c8b1 : (t232 != 0) = true := bne_iff_ne.mpr c8
            (first | rw [c8b0] | (simp only [i64_w, i32_w]; rw [c8b0]) | skip)
            have H' := Aside0.mk H
            clear H
            go_wp2
            repeat (go_quiet (fail); try go_wp2)
            go_meet
            case rel => exact ⟨_, (true), (by first | rfl | (simp; done) | (simp [*]; done)), H', ⟨by have := HK1.out; first | omega | exact Nat.le_refl _⟩, ⟨by (with_reducible repeat (first | apply Kd.S_alloc | apply Kd.S_drewN | apply Kd.S_drew)); exact Kd.S_mono (Kd.S_far (p := ⟨gb233, 0, none⟩) (Kd.S_types HO231.out BK233.out (by decide)) (fun _ hk => hk.2) (.slice Ao6 t229.length co6)) (fun _ hk => trivial)⟩, ⟨by (with_reducible repeat (first | refine blk_drewN ?_ _ | refine blk_drew ?_ | refine blk_alloc ?_ _)); refine blk_put (cs := #[.slice none 0 0]) ?_ 0 _ rfl; (with_reducible repeat (first | refine blk_drewN ?_ _ | refine blk_drew ?_ | refine blk_alloc ?_ _)); exact BK233.out⟩, ⟨by repeat (first | (with_reducible first | exact HB.out | apply below_alloc | apply pw_below_drewN | apply below_drew1 | refine below_set ?_ GE233.out) | exact HB.out)⟩⟩
        case rest =>
          clear HC3
          try clear c1
          try clear c1b0
          try clear c2
          try clear p2
          try clear q2
          try clear hx2
          try clear qi2
          try clear c6
          try clear c8
          try clear c8b0
          try clear c8b1
          try clear c10
          try clear c11
          try clear c11b0
          try clear c11b1
          try clear c12
          try clear c12b0
          try clear c12b1
          try clear hcz13_0
          try clear hcz15_0
          try clear hcz16_0
          try clear hcz18_0
          try clear hcz19_0
          try clear hcz7_0
          try clear hfz13_0
          try clear hfz15_0
          try clear hfz16_0
          try clear hfz18_0
          try clear hfz19_0
          try clear hfz7_0
          try clear hx235_0
          try clear p235
          try clear q235
          obtain ⟨kq, x36_2, rfl, HA, HJ2, HO_234000, BK233, HB⟩ := hcut
          cases kq with
          | zero => exact absurd HA.out (by simp [mizmazetop_TopCerny.j1])
          | succ kj2 =>
            have H := HA.out
            clear HA
            simp only [mizmazetop_TopCerny.j1] at H
            by_cases c21 : x36_2 = true
            · subst c21
              have H1 : (some false) = some r := by rw [if_pos rfl] at H; exact H
              clear H
              have H := H1
              clear H1
              obtain rfl := Option.some.inj H
              go_wp2
              repeat (go_quiet (fail); try go_wp2)
              go_ret
              exact ⟨by first | rfl | (simp [errW_none, errW_some] <;> rfl) | (simp [*, errW_none, errW_some] <;> rfl), by repeat (first | (with_reducible first | exact HB.out | apply below_alloc | apply pw_below_drewN | apply below_drew1 | refine below_set ?_ GE233.out) | exact HB.out)⟩
            · replace c21 := Bool.eq_false_iff.mpr c21
              subst c21
              have H1 : (mizmazetop_TopCerny.l1 kj2 x1_1 0 t229) = some r := by rw [if_neg (show ¬ (false = true) by decide)] at H; exact H
              clear H
              have H := H1
              clear H1
              have H' := Aside0.mk H
              clear H
              go_wp2
              repeat (go_quiet (fail); try go_wp2)
              go_loopg [4] kj2 (fun kq v4 w' => ∃ (x4_3 : Int), v4 = .int .i64 x4_3 ∧ Aside0 (mizmazetop_TopCerny.l1 kq x1_1 x4_3 t229 = some r) ∧ Aside0 (kq ≤ kj2) ∧ Aside0 (Kd.S (Kd.slice 3 (Kd.int .i64)) 25 w' w.heap.size (fun _ => True) (.slice Ao6 t229.length co6) t229) ∧ Aside0 (w'.heap[gb233]? = some (.cells #[(.slice Ao6 t229.length co6)] 24 (0, 0))) ∧ Aside0 (Below w.heap.size w w'))
              case atStart => exact ⟨(0), (by first | rfl | (simp; done) | (simp [*]; done)), H', ⟨Nat.le_refl _⟩, ⟨by (with_reducible repeat (first | apply Kd.S_alloc | apply Kd.S_drewN | apply Kd.S_drew)); exact HO_234000.out⟩, ⟨by (with_reducible repeat (first | refine blk_drewN ?_ _ | refine blk_drew ?_ | refine blk_alloc ?_ _)); exact BK233.out⟩, ⟨by repeat (first | (with_reducible first | exact HB.out | apply below_alloc | apply pw_below_drewN | apply below_drew1 | refine below_set ?_ GE233.out) | exact HB.out)⟩⟩
              case round =>
                clear H'
                try clear c1
                try clear c1b0
                try clear c2
                try clear p2
                try clear q2
                try clear hx2
                try clear qi2
                try clear c6
                try clear c8
                try clear c8b0
                try clear c8b1
                try clear c10
                try clear c11
                try clear c11b0
                try clear c11b1
                try clear c12
                try clear c12b0
                try clear c12b1
                try clear c21
                try clear hcz13_0
                try clear hcz15_0
                try clear hcz16_0
                try clear hcz18_0
                try clear hcz19_0
                try clear hcz7_0
                try clear hfz13_0
                try clear hfz15_0
                try clear hfz16_0
                try clear hfz18_0
                try clear hfz19_0
                try clear hfz7_0
                try clear hx235_0
                try clear p2
                try clear p235
                try clear q2
                try clear q235
                obtain ⟨x4_3, rfl, HA, HK3, HO_234000, BK233, HB⟩ := hrel
                cases gk with
                | zero => exact absurd HA.out (by simp [mizmazetop_TopCerny.l1])
                | succ k3 =>
                  have H := HA.out
                  clear HA
                  simp only [mizmazetop_TopCerny.l1] at H
                  by_cases c22 : x4_3 < x1_1
                  · rw [if_pos c22] at H
                    have c22b0 : decide (x4_3 < x1_1) = true := decide_eq_true c22
                    clear c22
                    by_cases c23 : 0 ≤ x4_3
                    · rw [if_pos c23] at H
                      have c23b0 : decide (0 ≤ x4_3) = true := decide_eq_true c23
                      clear c23
                      by_cases c24 : x4_3 < (t229.length : Int)
                      · rw [if_pos c24] at H
                        have c24b0 : decide (x4_3 < (t229.length : Int)) = true := decide_eq_true c24
                        clear c24
                        by_cases c25 : 0 < ((rd_L1 t229 x4_3).length : Int)
                        · rw [if_pos c25] at H
                          have c25b0 : decide (0 < ((rd_L1 t229 x4_3).length : Int)) = true := decide_eq_true c25
                          have c25b1 : decide (0 < (rd_L1 t229 x4_3).length) = true := decide_eq_true (by omega)
                          clear c25
                          by_cases c26 : x1_1 = 0
                          · rw [if_pos c26] at H
                            exact absurd H (by simp)
                          · rw [if_neg c26] at H
                            have c26b0 : (x1_1 == 0) = false := beq_eq_false_iff_ne.mpr c26
                            have c26b1 : (x1_1 != 0) = true := bne_iff_ne.mpr c26
                            by_cases c27 : (rd (rd_L1 t229 x4_3) 0) = (Int.tmod (wrap64 (x4_3 + 1)) x1_1)
                            · rw [if_pos c27] at H
                              have c27b0 : ((rd (rd_L1 t229 x4_3) 0) == (Int.tmod (wrap64 (x4_3 + 1)) x1_1)) = true := beq_iff_eq.mpr c27
                              have c27b1 : ((rd (rd_L1 t229 x4_3) 0) != (Int.tmod (wrap64 (x4_3 + 1)) x1_1)) = false := bne_eq_false_iff_eq.mpr c27
                              clear c27
                              by_cases c28 : x4_3 < (wrap64 (x1_1 - 1))
                              · rw [if_pos c28] at H
                                have c28b0 : decide (x4_3 < (wrap64 (x1_1 - 1))) = true := decide_eq_true c28
                                clear c28
                                by_cases c29 : 1 < ((rd_L1 t229 x4_3).length : Int)
                                · rw [if_pos c29] at H
                                  have c29b0 : decide (1 < ((rd_L1 t229 x4_3).length : Int)) = true := decide_eq_true c29
                                  have c29b1 : decide (1 < (rd_L1 t229 x4_3).length) = true := decide_eq_true (by omega)
                                  clear c29
                                  by_cases c30 : (rd (rd_L1 t229 x4_3) 1) = x4_3
                                  · rw [if_pos c30] at H
                                    have c30b0 : ((rd (rd_L1 t229 x4_3) 1) == x4_3) = true := beq_iff_eq.mpr c30
                                    have c30b1 : ((rd (rd_L1 t229 x4_3) 1) != x4_3) = false := bne_eq_false_iff_eq.mpr c30
                                    clear c30
                                    by_cases c31 : x4_3 = (wrap64 (x1_1 - 1))
                                    · rw [if_pos c31] at H
                                      have c31b0 : (x4_3 == (wrap64 (x1_1 - 1))) = true := beq_iff_eq.mpr c31
                                      have c31b1 : (x4_3 != (wrap64 (x1_1 - 1))) = false := bne_eq_false_iff_eq.mpr c31
                                      clear c31
                                      by_cases c32 : (rd (rd_L1 t229 x4_3) 1) = 0
                                      · rw [if_pos c32] at H
                                        have c32b0 : ((rd (rd_L1 t229 x4_3) 1) == 0) = true := beq_iff_eq.mpr c32
                                        have c32b1 : ((rd (rd_L1 t229 x4_3) 1) != 0) = false := bne_eq_false_iff_eq.mpr c32
                                        clear c32
                                        have H' := Aside0.mk H
                                        clear H
                                        have hcz33_0 : wr.cell? ⟨gb233, 0, none⟩ = some (.slice Ao6 t229.length co6) := (blk_cell BK233.out 0).trans rfl
                                        have hfz33_0 := blk_frozen BK233.out 0
                                        have p236 : 0 ≤ (x4_3 : Int) := of_decide_eq_true (by first | (with_reducible assumption) | assumption)
                                        have q236 : x4_3 < (t229.length : Int) := of_decide_eq_true (by first | (with_reducible assumption) | assumption)
                                        obtain ⟨ad236, A236_0, c236_0, e236, hx236_0, hl236_0, hi236_0⟩ := at_L1 (Kd.S_reads' HO_234000.out).2.2 x4_3 p236 q236
                                        cases e236
                                        obtain ⟨ce236, hce236, hMe236, hcc236⟩ := Kd.S_get HO_234000.out [] x4_3 p236 (by first | exact q236 | exact of_decide_eq_true (by first | (with_reducible assumption) | assumption) | (have e_ := (Kd.S_reads' HO_234000.out).1; omega))
                                        obtain ⟨ve236_0, rfl, ge236_0⟩ := hMe236
                                        have hv236_0 := hcc236 0 _ rfl
                                        rw [Nat.add_zero, show ((Kd.slice 3 (Kd.int .i64))).sz = 1 from rfl, Nat.mul_one] at hv236_0
                                        replace hv236_0 := Option.some.inj (hv236_0.symm.trans hx236_0)
                                        rw [hv236_0] at ge236_0
                                        have HL236_0 := Aside0.mk (show Kd.R (Kd.int .i64) 3 _ _ _ _ (rd_L1 t229 x4_3) from ge236_0)
                                        clear hv236_0 ge236_0
                                        clear hcc236 hce236
                                        have HR236_0 := Aside0.mk hi236_0
                                        have HC236_0 := Aside0.mk hl236_0
                                        clear hi236_0 hl236_0
                                        replace p236 := eq_true p236
                                        replace q236 := eq_true q236
                                        have p237 : 0 ≤ (0 : Int) := (by omega)
                                        have q237 : 0 < ((rd_L1 t229 x4_3).length : Int) := of_decide_eq_true (by first | (with_reducible assumption) | assumption)
                                        obtain ⟨ad237, e237, hx237_0⟩ := Kd.at_int (by repeat (first | (with_reducible exact HR236_0.out) | (with_reducible refine Kd.C_alloc ?_ _) | (with_reducible refine Kd.C_drewN ?_ _) | (with_reducible refine Kd.C_drew ?_) | exact HR236_0.out)) 0 p237 q237
                                        cases e237
                                        have qi237 : (0 < (rd_L1 t229 x4_3).length) = True := eq_true (by omega)
                                        (try rw [show ((0 : Int)).toNat = 0 from rfl] at hx237_0)
                                        (try rw [Addr.add_zero'] at hx237_0)
                                        replace p237 := eq_true p237
                                        replace q237 := eq_true q237
                                        have p238 : 0 ≤ (x4_3 : Int) := of_decide_eq_true (by first | (with_reducible assumption) | assumption)
                                        have q238 : x4_3 < (t229.length : Int) := of_decide_eq_true (by first | (with_reducible assumption) | assumption)
                                        obtain ⟨ad238, A238_0, c238_0, e238, hx238_0, hl238_0, hi238_0⟩ := at_L1 (Kd.S_reads' HO_234000.out).2.2 x4_3 p238 q238
                                        obtain rfl : ad236 = ad238 := (by injection e238)
                                        obtain ⟨ce238, hce238, hMe238, hcc238⟩ := Kd.S_get HO_234000.out [] x4_3 p238 (by first | exact q238 | exact of_decide_eq_true (by first | (with_reducible assumption) | assumption) | (have e_ := (Kd.S_reads' HO_234000.out).1; omega))
                                        obtain ⟨ve238_0, rfl, ge238_0⟩ := hMe238
                                        have hv238_0 := hcc238 0 _ rfl
                                        rw [Nat.add_zero, show ((Kd.slice 3 (Kd.int .i64))).sz = 1 from rfl, Nat.mul_one] at hv238_0
                                        replace hv238_0 := Option.some.inj (hv238_0.symm.trans hx238_0)
                                        rw [hv238_0] at ge238_0
                                        have HL238_0 := Aside0.mk (show Kd.R (Kd.int .i64) 3 _ _ _ _ (rd_L1 t229 x4_3) from ge238_0)
                                        clear hv238_0 ge238_0
                                        clear hcc238 hce238
                                        have HR238_0 := Aside0.mk hi238_0
                                        have HC238_0 := Aside0.mk hl238_0
                                        clear hi238_0 hl238_0
                                        replace p238 := eq_true p238
                                        replace q238 := eq_true q238
                                        have ea_ := Option.some.inj (hx236_0.symm.trans hx238_0)
                                        injection ea_ with ea_ en_ ec_
                                        subst ea_
                                        subst ec_
                                        clear en_
                                        have p239 : 0 ≤ (1 : Int) := (by omega)
                                        have q239 : 1 < ((rd_L1 t229 x4_3).length : Int) := of_decide_eq_true (by first | (with_reducible assumption) | assumption)
                                        obtain ⟨ad239, e239, hx239_0⟩ := Kd.at_int (by repeat (first | (with_reducible exact HR238_0.out) | (with_reducible refine Kd.C_alloc ?_ _) | (with_reducible refine Kd.C_drewN ?_ _) | (with_reducible refine Kd.C_drew ?_) | exact HR238_0.out)) 1 p239 q239
                                        cases e239
                                        (try simp only [show (1 : Int).toNat = 1 from rfl, Nat.reduceMul, Nat.reduceEqDiff, Go.Addr.add, ↓reduceIte] at hx239_0)
                                        have qi239 : (1 < (rd_L1 t229 x4_3).length) = True := eq_true (by omega)
                                        (try rw [show ((1 : Int)).toNat = 1 from rfl] at hx239_0)
                                        replace p239 := eq_true p239
                                        replace q239 := eq_true q239
                                        have p240 : 0 ≤ (x4_3 : Int) := of_decide_eq_true (by first | (with_reducible assumption) | assumption)
                                        have q240 : x4_3 < (t229.length : Int) := of_decide_eq_true (by first | (with_reducible assumption) | assumption)
                                        obtain ⟨ad240, A240_0, c240_0, e240, hx240_0, hl240_0, hi240_0⟩ := at_L1 (Kd.S_reads' HO_234000.out).2.2 x4_3 p240 q240
                                        obtain rfl : ad236 = ad240 := (by injection e240)
                                        obtain ⟨ce240, hce240, hMe240, hcc240⟩ := Kd.S_get HO_234000.out [] x4_3 p240 (by first | exact q240 | exact of_decide_eq_true (by first | (with_reducible assumption) | assumption) | (have e_ := (Kd.S_reads' HO_234000.out).1; omega))
                                        obtain ⟨ve240_0, rfl, ge240_0⟩ := hMe240
                                        have hv240_0 := hcc240 0 _ rfl
                                        rw [Nat.add_zero, show ((Kd.slice 3 (Kd.int .i64))).sz = 1 from rfl, Nat.mul_one] at hv240_0
                                        replace hv240_0 := Option.some.inj (hv240_0.symm.trans hx240_0)
                                        rw [hv240_0] at ge240_0
                                        have HL240_0 := Aside0.mk (show Kd.R (Kd.int .i64) 3 _ _ _ _ (rd_L1 t229 x4_3) from ge240_0)
                                        clear hv240_0 ge240_0
                                        clear hcc240 hce240
                                        have HR240_0 := Aside0.mk hi240_0
                                        have HC240_0 := Aside0.mk hl240_0
                                        clear hi240_0 hl240_0
                                        replace p240 := eq_true p240
                                        replace q240 := eq_true q240
                                        have ea_ := Option.some.inj (hx236_0.symm.trans hx240_0)
                                        injection ea_ with ea_ en_ ec_
                                        subst ea_
                                        subst ec_
                                        clear en_
                                        have p241 : 0 ≤ (1 : Int) := (by omega)
                                        have q241 : 1 < ((rd_L1 t229 x4_3).length : Int) := of_decide_eq_true (by first | (with_reducible assumption) | assumption)
                                        obtain ⟨ad241, e241, hx241_0⟩ := Kd.at_int (by repeat (first | (with_reducible exact HR240_0.out) | (with_reducible refine Kd.C_alloc ?_ _) | (with_reducible refine Kd.C_drewN ?_ _) | (with_reducible refine Kd.C_drew ?_) | exact HR240_0.out)) 1 p241 q241
                                        cases e241
                                        (try simp only [show (1 : Int).toNat = 1 from rfl, Nat.reduceMul, Nat.reduceEqDiff, Go.Addr.add, ↓reduceIte] at hx241_0)
                                        have qi241 : (1 < (rd_L1 t229 x4_3).length) = True := eq_true (by omega)
                                        (try rw [show ((1 : Int)).toNat = 1 from rfl] at hx241_0)
                                        replace p241 := eq_true p241
                                        replace q241 := eq_true q241
                                        go_wp2
                                        repeat (go_quiet (fail); try go_wp2)
                                        go_roundg k3
                                        case measure => have := HK1.out; have := HJ2.out; have := HK3.out; omega
                                        case rel => exact ⟨(wrap64 (x4_3 + 1)), (by first | rfl | (simp; done) | (simp [*]; done)), H', ⟨by have := HK1.out; have := HJ2.out; have := HK3.out; omega⟩, ⟨by (with_reducible repeat (first | apply Kd.S_alloc | apply Kd.S_drewN | apply Kd.S_drew)); exact HO_234000.out⟩, ⟨by (with_reducible repeat (first | refine blk_drewN ?_ _ | refine blk_drew ?_ | refine blk_alloc ?_ _)); exact BK233.out⟩, ⟨by repeat (first | (with_reducible first | exact HB.out | apply below_alloc | apply pw_below_drewN | apply below_drew1 | refine below_set ?_ GE233.out) | exact HB.out)⟩⟩
                                      · rw [if_neg c32] at H
                                        have c32b0 : ((rd (rd_L1 t229 x4_3) 1) == 0) = false := beq_eq_false_iff_ne.mpr c32
                                        have c32b1 : ((rd (rd_L1 t229 x4_3) 1) != 0) = true := bne_iff_ne.mpr c32
                                        obtain rfl := Option.some.inj H
                                        have hcz34_0 : wr.cell? ⟨gb233, 0, none⟩ = some (.slice Ao6 t229.length co6) := (blk_cell BK233.out 0).trans rfl
                                        have hfz34_0 := blk_frozen BK233.out 0
                                        have p236 : 0 ≤ (x4_3 : Int) := of_decide_eq_true (by first | (with_reducible assumption) | assumption)
                                        have q236 : x4_3 < (t229.length : Int) := of_decide_eq_true (by first | (with_reducible assumption) | assumption)
                                        obtain ⟨ad236, A236_0, c236_0, e236, hx236_0, hl236_0, hi236_0⟩ := at_L1 (Kd.S_reads' HO_234000.out).2.2 x4_3 p236 q236
                                        cases e236
                                        obtain ⟨ce236, hce236, hMe236, hcc236⟩ := Kd.S_get HO_234000.out [] x4_3 p236 (by first | exact q236 | exact of_decide_eq_true (by first | (with_reducible assumption) | assumption) | (have e_ := (Kd.S_reads' HO_234000.out).1; omega))
                                        obtain ⟨ve236_0, rfl, ge236_0⟩ := hMe236
                                        have hv236_0 := hcc236 0 _ rfl
                                        rw [Nat.add_zero, show ((Kd.slice 3 (Kd.int .i64))).sz = 1 from rfl, Nat.mul_one] at hv236_0
                                        replace hv236_0 := Option.some.inj (hv236_0.symm.trans hx236_0)
                                        rw [hv236_0] at ge236_0
                                        have HL236_0 := Aside0.mk (show Kd.R (Kd.int .i64) 3 _ _ _ _ (rd_L1 t229 x4_3) from ge236_0)
                                        clear hv236_0 ge236_0
                                        clear hcc236 hce236
                                        have HR236_0 := Aside0.mk hi236_0
                                        have HC236_0 := Aside0.mk hl236_0
                                        clear hi236_0 hl236_0
                                        replace p236 := eq_true p236
                                        replace q236 := eq_true q236
                                        have p237 : 0 ≤ (0 : Int) := (by omega)
                                        have q237 : 0 < ((rd_L1 t229 x4_3).length : Int) := of_decide_eq_true (by first | (with_reducible assumption) | assumption)
                                        obtain ⟨ad237, e237, hx237_0⟩ := Kd.at_int (by repeat (first | (with_reducible exact HR236_0.out) | (with_reducible refine Kd.C_alloc ?_ _) | (with_reducible refine Kd.C_drewN ?_ _) | (with_reducible refine Kd.C_drew ?_) | exact HR236_0.out)) 0 p237 q237
                                        cases e237
                                        have qi237 : (0 < (rd_L1 t229 x4_3).length) = True := eq_true (by omega)
                                        (try rw [show ((0 : Int)).toNat = 0 from rfl] at hx237_0)
                                        (try rw [Addr.add_zero'] at hx237_0)
                                        replace p237 := eq_true p237
                                        replace q237 := eq_true q237
                                        have p238 : 0 ≤ (x4_3 : Int) := of_decide_eq_true (by first | (with_reducible assumption) | assumption)
                                        have q238 : x4_3 < (t229.length : Int) := of_decide_eq_true (by first | (with_reducible assumption) | assumption)
                                        obtain ⟨ad238, A238_0, c238_0, e238, hx238_0, hl238_0, hi238_0⟩ := at_L1 (Kd.S_reads' HO_234000.out).2.2 x4_3 p238 q238
                                        obtain rfl : ad236 = ad238 := (by injection e238)
                                        obtain ⟨ce238, hce238, hMe238, hcc238⟩ := Kd.S_get HO_234000.out [] x4_3 p238 (by first | exact q238 | exact of_decide_eq_true (by first | (with_reducible assumption) | assumption) | (have e_ := (Kd.S_reads' HO_234000.out).1; omega))
                                        obtain ⟨ve238_0, rfl, ge238_0⟩ := hMe238
                                        have hv238_0 := hcc238 0 _ rfl
                                        rw [Nat.add_zero, show ((Kd.slice 3 (Kd.int .i64))).sz = 1 from rfl, Nat.mul_one] at hv238_0
                                        replace hv238_0 := Option.some.inj (hv238_0.symm.trans hx238_0)
                                        rw [hv238_0] at ge238_0
                                        have HL238_0 := Aside0.mk (show Kd.R (Kd.int .i64) 3 _ _ _ _ (rd_L1 t229 x4_3) from ge238_0)
                                        clear hv238_0 ge238_0
                                        clear hcc238 hce238
                                        have HR238_0 := Aside0.mk hi238_0
                                        have HC238_0 := Aside0.mk hl238_0
                                        clear hi238_0 hl238_0
                                        replace p238 := eq_true p238
                                        replace q238 := eq_true q238
                                        have ea_ := Option.some.inj (hx236_0.symm.trans hx238_0)
                                        injection ea_ with ea_ en_ ec_
                                        subst ea_
                                        subst ec_
                                        clear en_
                                        have p239 : 0 ≤ (1 : Int) := (by omega)
                                        have q239 : 1 < ((rd_L1 t229 x4_3).length : Int) := of_decide_eq_true (by first | (with_reducible assumption) | assumption)
                                        obtain ⟨ad239, e239, hx239_0⟩ := Kd.at_int (by repeat (first | (with_reducible exact HR238_0.out) | (with_reducible refine Kd.C_alloc ?_ _) | (with_reducible refine Kd.C_drewN ?_ _) | (with_reducible refine Kd.C_drew ?_) | exact HR238_0.out)) 1 p239 q239
                                        cases e239
                                        (try simp only [show (1 : Int).toNat = 1 from rfl, Nat.reduceMul, Nat.reduceEqDiff, Go.Addr.add, ↓reduceIte] at hx239_0)
                                        have qi239 : (1 < (rd_L1 t229 x4_3).length) = True := eq_true (by omega)
                                        (try rw [show ((1 : Int)).toNat = 1 from rfl] at hx239_0)
                                        replace p239 := eq_true p239
                                        replace q239 := eq_true q239
                                        have p240 : 0 ≤ (x4_3 : Int) := of_decide_eq_true (by first | (with_reducible assumption) | assumption)
                                        have q240 : x4_3 < (t229.length : Int) := of_decide_eq_true (by first | (with_reducible assumption) | assumption)
                                        obtain ⟨ad240, A240_0, c240_0, e240, hx240_0, hl240_0, hi240_0⟩ := at_L1 (Kd.S_reads' HO_234000.out).2.2 x4_3 p240 q240
                                        obtain rfl : ad236 = ad240 := (by injection e240)
                                        obtain ⟨ce240, hce240, hMe240, hcc240⟩ := Kd.S_get HO_234000.out [] x4_3 p240 (by first | exact q240 | exact of_decide_eq_true (by first | (with_reducible assumption) | assumption) | (have e_ := (Kd.S_reads' HO_234000.out).1; omega))
                                        obtain ⟨ve240_0, rfl, ge240_0⟩ := hMe240
                                        have hv240_0 := hcc240 0 _ rfl
                                        rw [Nat.add_zero, show ((Kd.slice 3 (Kd.int .i64))).sz = 1 from rfl, Nat.mul_one] at hv240_0
                                        replace hv240_0 := Option.some.inj (hv240_0.symm.trans hx240_0)
                                        rw [hv240_0] at ge240_0
                                        have HL240_0 := Aside0.mk (show Kd.R (Kd.int .i64) 3 _ _ _ _ (rd_L1 t229 x4_3) from ge240_0)
                                        clear hv240_0 ge240_0
                                        clear hcc240 hce240
                                        have HR240_0 := Aside0.mk hi240_0
                                        have HC240_0 := Aside0.mk hl240_0
                                        clear hi240_0 hl240_0
                                        replace p240 := eq_true p240
                                        replace q240 := eq_true q240
                                        have ea_ := Option.some.inj (hx236_0.symm.trans hx240_0)
                                        injection ea_ with ea_ en_ ec_
                                        subst ea_
                                        subst ec_
                                        clear en_
                                        have p241 : 0 ≤ (1 : Int) := (by omega)
                                        have q241 : 1 < ((rd_L1 t229 x4_3).length : Int) := of_decide_eq_true (by first | (with_reducible assumption) | assumption)
                                        obtain ⟨ad241, e241, hx241_0⟩ := Kd.at_int (by repeat (first | (with_reducible exact HR240_0.out) | (with_reducible refine Kd.C_alloc ?_ _) | (with_reducible refine Kd.C_drewN ?_ _) | (with_reducible refine Kd.C_drew ?_) | exact HR240_0.out)) 1 p241 q241
                                        cases e241
                                        (try simp only [show (1 : Int).toNat = 1 from rfl, Nat.reduceMul, Nat.reduceEqDiff, Go.Addr.add, ↓reduceIte] at hx241_0)
                                        have qi241 : (1 < (rd_L1 t229 x4_3).length) = True := eq_true (by omega)
                                        (try rw [show ((1 : Int)).toNat = 1 from rfl] at hx241_0)
                                        replace p241 := eq_true p241
                                        replace q241 := eq_true q241
                                        go_wp2
                                        repeat (go_quiet (fail); try go_wp2)
                                        go_ret
                                        exact ⟨by first | rfl | (simp [errW_none, errW_some] <;> rfl) | (simp [*, errW_none, errW_some] <;> rfl), by repeat (first | (with_reducible first | exact HB.out | apply below_alloc | apply pw_below_drewN | apply below_drew1 | refine below_set ?_ GE233.out) | exact HB.out)⟩
                                    · rw [if_neg c31] at H
                                      have c31b0 : (x4_3 == (wrap64 (x1_1 - 1))) = false := beq_eq_false_iff_ne.mpr c31
                                      have c31b1 : (x4_3 != (wrap64 (x1_1 - 1))) = true := bne_iff_ne.mpr c31
                                      have H' := Aside0.mk H
                                      clear H
                                      have hcz35_0 : wr.cell? ⟨gb233, 0, none⟩ = some (.slice Ao6 t229.length co6) := (blk_cell BK233.out 0).trans rfl
                                      have hfz35_0 := blk_frozen BK233.out 0
                                      have p236 : 0 ≤ (x4_3 : Int) := of_decide_eq_true (by first | (with_reducible assumption) | assumption)
                                      have q236 : x4_3 < (t229.length : Int) := of_decide_eq_true (by first | (with_reducible assumption) | assumption)
                                      obtain ⟨ad236, A236_0, c236_0, e236, hx236_0, hl236_0, hi236_0⟩ := at_L1 (Kd.S_reads' HO_234000.out).2.2 x4_3 p236 q236
                                      cases e236
                                      obtain ⟨ce236, hce236, hMe236, hcc236⟩ := Kd.S_get HO_234000.out [] x4_3 p236 (by first | exact q236 | exact of_decide_eq_true (by first | (with_reducible assumption) | assumption) | (have e_ := (Kd.S_reads' HO_234000.out).1; omega))
                                      obtain ⟨ve236_0, rfl, ge236_0⟩ := hMe236
                                      have hv236_0 := hcc236 0 _ rfl
                                      rw [Nat.add_zero, show ((Kd.slice 3 (Kd.int .i64))).sz = 1 from rfl, Nat.mul_one] at hv236_0
                                      replace hv236_0 := Option.some.inj (hv236_0.symm.trans hx236_0)
                                      rw [hv236_0] at ge236_0
                                      have HL236_0 := Aside0.mk (show Kd.R (Kd.int .i64) 3 _ _ _ _ (rd_L1 t229 x4_3) from ge236_0)
                                      clear hv236_0 ge236_0
                                      clear hcc236 hce236
                                      have HR236_0 := Aside0.mk hi236_0
                                      have HC236_0 := Aside0.mk hl236_0
                                      clear hi236_0 hl236_0
                                      replace p236 := eq_true p236
                                      replace q236 := eq_true q236
                                      have p237 : 0 ≤ (0 : Int) := (by omega)
                                      have q237 : 0 < ((rd_L1 t229 x4_3).length : Int) := of_decide_eq_true (by first | (with_reducible assumption) | assumption)
                                      obtain ⟨ad237, e237, hx237_0⟩ := Kd.at_int (by repeat (first | (with_reducible exact HR236_0.out) | (with_reducible refine Kd.C_alloc ?_ _) | (with_reducible refine Kd.C_drewN ?_ _) | (with_reducible refine Kd.C_drew ?_) | exact HR236_0.out)) 0 p237 q237
                                      cases e237
                                      have qi237 : (0 < (rd_L1 t229 x4_3).length) = True := eq_true (by omega)
                                      (try rw [show ((0 : Int)).toNat = 0 from rfl] at hx237_0)
                                      (try rw [Addr.add_zero'] at hx237_0)
                                      replace p237 := eq_true p237
                                      replace q237 := eq_true q237
                                      have p238 : 0 ≤ (x4_3 : Int) := of_decide_eq_true (by first | (with_reducible assumption) | assumption)
                                      have q238 : x4_3 < (t229.length : Int) := of_decide_eq_true (by first | (with_reducible assumption) | assumption)
                                      obtain ⟨ad238, A238_0, c238_0, e238, hx238_0, hl238_0, hi238_0⟩ := at_L1 (Kd.S_reads' HO_234000.out).2.2 x4_3 p238 q238
                                      obtain rfl : ad236 = ad238 := (by injection e238)
                                      obtain ⟨ce238, hce238, hMe238, hcc238⟩ := Kd.S_get HO_234000.out [] x4_3 p238 (by first | exact q238 | exact of_decide_eq_true (by first | (with_reducible assumption) | assumption) | (have e_ := (Kd.S_reads' HO_234000.out).1; omega))
                                      obtain ⟨ve238_0, rfl, ge238_0⟩ := hMe238
                                      have hv238_0 := hcc238 0 _ rfl
                                      rw [Nat.add_zero, show ((Kd.slice 3 (Kd.int .i64))).sz = 1 from rfl, Nat.mul_one] at hv238_0
                                      replace hv238_0 := Option.some.inj (hv238_0.symm.trans hx238_0)
                                      rw [hv238_0] at ge238_0
                                      have HL238_0 := Aside0.mk (show Kd.R (Kd.int .i64) 3 _ _ _ _ (rd_L1 t229 x4_3) from ge238_0)
                                      clear hv238_0 ge238_0
                                      clear hcc238 hce238
                                      have HR238_0 := Aside0.mk hi238_0
                                      have HC238_0 := Aside0.mk hl238_0
                                      clear hi238_0 hl238_0
                                      replace p238 := eq_true p238
                                      replace q238 := eq_true q238
                                      have ea_ := Option.some.inj (hx236_0.symm.trans hx238_0)
                                      injection ea_ with ea_ en_ ec_
                                      subst ea_
                                      subst ec_
                                      clear en_
                                      have p239 : 0 ≤ (1 : Int) := (by omega)
                                      have q239 : 1 < ((rd_L1 t229 x4_3).length : Int) := of_decide_eq_true (by first | (with_reducible assumption) | assumption)
                                      obtain ⟨ad239, e239, hx239_0⟩ := Kd.at_int (by repeat (first | (with_reducible exact HR238_0.out) | (with_reducible refine Kd.C_alloc ?_ _) | (with_reducible refine Kd.C_drewN ?_ _) | (with_reducible refine Kd.C_drew ?_) | exact HR238_0.out)) 1 p239 q239
                                      cases e239
                                      (try simp only [show (1 : Int).toNat = 1 from rfl, Nat.reduceMul, Nat.reduceEqDiff, Go.Addr.add, ↓reduceIte] at hx239_0)
                                      have qi239 : (1 < (rd_L1 t229 x4_3).length) = True := eq_true (by omega)
                                      (try rw [show ((1 : Int)).toNat = 1 from rfl] at hx239_0)
                                      replace p239 := eq_true p239
                                      replace q239 := eq_true q239
                                      go_wp2
                                      repeat (go_quiet (fail); try go_wp2)
                                      go_roundg k3
                                      case measure => have := HK1.out; have := HJ2.out; have := HK3.out; omega
                                      case rel => exact ⟨(wrap64 (x4_3 + 1)), (by first | rfl | (simp; done) | (simp [*]; done)), H', ⟨by have := HK1.out; have := HJ2.out; have := HK3.out; omega⟩, ⟨by (with_reducible repeat (first | apply Kd.S_alloc | apply Kd.S_drewN | apply Kd.S_drew)); exact HO_234000.out⟩, ⟨by (with_reducible repeat (first | refine blk_drewN ?_ _ | refine blk_drew ?_ | refine blk_alloc ?_ _)); exact BK233.out⟩, ⟨by repeat (first | (with_reducible first | exact HB.out | apply below_alloc | apply pw_below_drewN | apply below_drew1 | refine below_set ?_ GE233.out) | exact HB.out)⟩⟩
                                  · rw [if_neg c30] at H
                                    have c30b0 : ((rd (rd_L1 t229 x4_3) 1) == x4_3) = false := beq_eq_false_iff_ne.mpr c30
                                    have c30b1 : ((rd (rd_L1 t229 x4_3) 1) != x4_3) = true := bne_iff_ne.mpr c30
                                    obtain rfl := Option.some.inj H
                                    have hcz36_0 : wr.cell? ⟨gb233, 0, none⟩ = some (.slice Ao6 t229.length co6) := (blk_cell BK233.out 0).trans rfl
                                    have hfz36_0 := blk_frozen BK233.out 0
                                    have p236 : 0 ≤ (x4_3 : Int) := of_decide_eq_true (by first | (with_reducible assumption) | assumption)
                                    have q236 : x4_3 < (t229.length : Int) := of_decide_eq_true (by first | (with_reducible assumption) | assumption)
                                    obtain ⟨ad236, A236_0, c236_0, e236, hx236_0, hl236_0, hi236_0⟩ := at_L1 (Kd.S_reads' HO_234000.out).2.2 x4_3 p236 q236
                                    cases e236
                                    obtain ⟨ce236, hce236, hMe236, hcc236⟩ := Kd.S_get HO_234000.out [] x4_3 p236 (by first | exact q236 | exact of_decide_eq_true (by first | (with_reducible assumption) | assumption) | (have e_ := (Kd.S_reads' HO_234000.out).1; omega))
                                    obtain ⟨ve236_0, rfl, ge236_0⟩ := hMe236
                                    have hv236_0 := hcc236 0 _ rfl
                                    rw [Nat.add_zero, show ((Kd.slice 3 (Kd.int .i64))).sz = 1 from rfl, Nat.mul_one] at hv236_0
                                    replace hv236_0 := Option.some.inj (hv236_0.symm.trans hx236_0)
                                    rw [hv236_0] at ge236_0
                                    have HL236_0 := Aside0.mk (show Kd.R (Kd.int .i64) 3 _ _ _ _ (rd_L1 t229 x4_3) from ge236_0)
                                    clear hv236_0 ge236_0
                                    clear hcc236 hce236
                                    have HR236_0 := Aside0.mk hi236_0
                                    have HC236_0 := Aside0.mk hl236_0
                                    clear hi236_0 hl236_0
                                    replace p236 := eq_true p236
                                    replace q236 := eq_true q236
                                    have p237 : 0 ≤ (0 : Int) := (by omega)
                                    have q237 : 0 < ((rd_L1 t229 x4_3).length : Int) := of_decide_eq_true (by first | (with_reducible assumption) | assumption)
                                    obtain ⟨ad237, e237, hx237_0⟩ := Kd.at_int (by repeat (first | (with_reducible exact HR236_0.out) | (with_reducible refine Kd.C_alloc ?_ _) | (with_reducible refine Kd.C_drewN ?_ _) | (with_reducible refine Kd.C_drew ?_) | exact HR236_0.out)) 0 p237 q237
                                    cases e237
                                    have qi237 : (0 < (rd_L1 t229 x4_3).length) = True := eq_true (by omega)
                                    (try rw [show ((0 : Int)).toNat = 0 from rfl] at hx237_0)
                                    (try rw [Addr.add_zero'] at hx237_0)
                                    replace p237 := eq_true p237
                                    replace q237 := eq_true q237
                                    have p238 : 0 ≤ (x4_3 : Int) := of_decide_eq_true (by first | (with_reducible assumption) | assumption)
                                    have q238 : x4_3 < (t229.length : Int) := of_decide_eq_true (by first | (with_reducible assumption) | assumption)
                                    obtain ⟨ad238, A238_0, c238_0, e238, hx238_0, hl238_0, hi238_0⟩ := at_L1 (Kd.S_reads' HO_234000.out).2.2 x4_3 p238 q238
                                    obtain rfl : ad236 = ad238 := (by injection e238)
                                    obtain ⟨ce238, hce238, hMe238, hcc238⟩ := Kd.S_get HO_234000.out [] x4_3 p238 (by first | exact q238 | exact of_decide_eq_true (by first | (with_reducible assumption) | assumption) | (have e_ := (Kd.S_reads' HO_234000.out).1; omega))
                                    obtain ⟨ve238_0, rfl, ge238_0⟩ := hMe238
                                    have hv238_0 := hcc238 0 _ rfl
                                    rw [Nat.add_zero, show ((Kd.slice 3 (Kd.int .i64))).sz = 1 from rfl, Nat.mul_one] at hv238_0
                                    replace hv238_0 := Option.some.inj (hv238_0.symm.trans hx238_0)
                                    rw [hv238_0] at ge238_0
                                    have HL238_0 := Aside0.mk (show Kd.R (Kd.int .i64) 3 _ _ _ _ (rd_L1 t229 x4_3) from ge238_0)
                                    clear hv238_0 ge238_0
                                    clear hcc238 hce238
                                    have HR238_0 := Aside0.mk hi238_0
                                    have HC238_0 := Aside0.mk hl238_0
                                    clear hi238_0 hl238_0
                                    replace p238 := eq_true p238
                                    replace q238 := eq_true q238
                                    have ea_ := Option.some.inj (hx236_0.symm.trans hx238_0)
                                    injection ea_ with ea_ en_ ec_
                                    subst ea_
                                    subst ec_
                                    clear en_
                                    have p239 : 0 ≤ (1 : Int) := (by omega)
                                    have q239 : 1 < ((rd_L1 t229 x4_3).length : Int) := of_decide_eq_true (by first | (with_reducible assumption) | assumption)
                                    obtain ⟨ad239, e239, hx239_0⟩ := Kd.at_int (by repeat (first | (with_reducible exact HR238_0.out) | (with_reducible refine Kd.C_alloc ?_ _) | (with_reducible refine Kd.C_drewN ?_ _) | (with_reducible refine Kd.C_drew ?_) | exact HR238_0.out)) 1 p239 q239
                                    cases e239
                                    (try simp only [show (1 : Int).toNat = 1 from rfl, Nat.reduceMul, Nat.reduceEqDiff, Go.Addr.add, ↓reduceIte] at hx239_0)
                                    have qi239 : (1 < (rd_L1 t229 x4_3).length) = True := eq_true (by omega)
                                    (try rw [show ((1 : Int)).toNat = 1 from rfl] at hx239_0)
                                    replace p239 := eq_true p239
                                    replace q239 := eq_true q239
                                    go_wp2
                                    repeat (go_quiet (fail); try go_wp2)
                                    go_ret
                                    exact ⟨by first | rfl | (simp [errW_none, errW_some] <;> rfl) | (simp [*, errW_none, errW_some] <;> rfl), by repeat (first | (with_reducible first | exact HB.out | apply below_alloc | apply pw_below_drewN | apply below_drew1 | refine below_set ?_ GE233.out) | exact HB.out)⟩
                                · rw [if_neg c29] at H
                                  exact absurd H (by simp)
                              · rw [if_neg c28] at H
                                have c28b0 : decide (x4_3 < (wrap64 (x1_1 - 1))) = false := decide_eq_false c28
                                clear c28
                                by_cases c37 : x4_3 = (wrap64 (x1_1 - 1))
                                · rw [if_pos c37] at H
                                  have c37b0 : (x4_3 == (wrap64 (x1_1 - 1))) = true := beq_iff_eq.mpr c37
                                  have c37b1 : (x4_3 != (wrap64 (x1_1 - 1))) = false := bne_eq_false_iff_eq.mpr c37
                                  clear c37
                                  by_cases c38 : 1 < ((rd_L1 t229 x4_3).length : Int)
                                  · rw [if_pos c38] at H
                                    have c38b0 : decide (1 < ((rd_L1 t229 x4_3).length : Int)) = true := decide_eq_true c38
                                    have c38b1 : decide (1 < (rd_L1 t229 x4_3).length) = true := decide_eq_true (by omega)
                                    clear c38
                                    by_cases c39 : (rd (rd_L1 t229 x4_3) 1) = 0
                                    · rw [if_pos c39] at H
                                      have c39b0 : ((rd (rd_L1 t229 x4_3) 1) == 0) = true := beq_iff_eq.mpr c39
                                      have c39b1 : ((rd (rd_L1 t229 x4_3) 1) != 0) = false := bne_eq_false_iff_eq.mpr c39
                                      clear c39
                                      have H' := Aside0.mk H
                                      clear H
                                      have hcz40_0 : wr.cell? ⟨gb233, 0, none⟩ = some (.slice Ao6 t229.length co6) := (blk_cell BK233.out 0).trans rfl
                                      have hfz40_0 := blk_frozen BK233.out 0
                                      have p236 : 0 ≤ (x4_3 : Int) := of_decide_eq_true (by first | (with_reducible assumption) | assumption)
                                      have q236 : x4_3 < (t229.length : Int) := of_decide_eq_true (by first | (with_reducible assumption) | assumption)
                                      obtain ⟨ad236, A236_0, c236_0, e236, hx236_0, hl236_0, hi236_0⟩ := at_L1 (Kd.S_reads' HO_234000.out).2.2 x4_3 p236 q236
                                      cases e236
                                      obtain ⟨ce236, hce236, hMe236, hcc236⟩ := Kd.S_get HO_234000.out [] x4_3 p236 (by first | exact q236 | exact of_decide_eq_true (by first | (with_reducible assumption) | assumption) | (have e_ := (Kd.S_reads' HO_234000.out).1; omega))
                                      obtain ⟨ve236_0, rfl, ge236_0⟩ := hMe236
                                      have hv236_0 := hcc236 0 _ rfl
                                      rw [Nat.add_zero, show ((Kd.slice 3 (Kd.int .i64))).sz = 1 from rfl, Nat.mul_one] at hv236_0
                                      replace hv236_0 := Option.some.inj (hv236_0.symm.trans hx236_0)
                                      rw [hv236_0] at ge236_0
                                      have HL236_0 := Aside0.mk (show Kd.R (Kd.int .i64) 3 _ _ _ _ (rd_L1 t229 x4_3) from ge236_0)
                                      clear hv236_0 ge236_0
                                      clear hcc236 hce236
                                      have HR236_0 := Aside0.mk hi236_0
                                      have HC236_0 := Aside0.mk hl236_0
                                      clear hi236_0 hl236_0
                                      replace p236 := eq_true p236
                                      replace q236 := eq_true q236
                                      have p237 : 0 ≤ (0 : Int) := (by omega)
                                      have q237 : 0 < ((rd_L1 t229 x4_3).length : Int) := of_decide_eq_true (by first | (with_reducible assumption) | assumption)
                                      obtain ⟨ad237, e237, hx237_0⟩ := Kd.at_int (by repeat (first | (with_reducible exact HR236_0.out) | (with_reducible refine Kd.C_alloc ?_ _) | (with_reducible refine Kd.C_drewN ?_ _) | (with_reducible refine Kd.C_drew ?_) | exact HR236_0.out)) 0 p237 q237
                                      cases e237
                                      have qi237 : (0 < (rd_L1 t229 x4_3).length) = True := eq_true (by omega)
                                      (try rw [show ((0 : Int)).toNat = 0 from rfl] at hx237_0)
                                      (try rw [Addr.add_zero'] at hx237_0)
                                      replace p237 := eq_true p237
                                      replace q237 := eq_true q237
                                      have p242 : 0 ≤ (x4_3 : Int) := of_decide_eq_true (by first | (with_reducible assumption) | assumption)
                                      have q242 : x4_3 < (t229.length : Int) := of_decide_eq_true (by first | (with_reducible assumption) | assumption)
                                      obtain ⟨ad242, A242_0, c242_0, e242, hx242_0, hl242_0, hi242_0⟩ := at_L1 (Kd.S_reads' HO_234000.out).2.2 x4_3 p242 q242
                                      obtain rfl : ad236 = ad242 := (by injection e242)
                                      obtain ⟨ce242, hce242, hMe242, hcc242⟩ := Kd.S_get HO_234000.out [] x4_3 p242 (by first | exact q242 | exact of_decide_eq_true (by first | (with_reducible assumption) | assumption) | (have e_ := (Kd.S_reads' HO_234000.out).1; omega))
                                      obtain ⟨ve242_0, rfl, ge242_0⟩ := hMe242
                                      have hv242_0 := hcc242 0 _ rfl
                                      rw [Nat.add_zero, show ((Kd.slice 3 (Kd.int .i64))).sz = 1 from rfl, Nat.mul_one] at hv242_0
                                      replace hv242_0 := Option.some.inj (hv242_0.symm.trans hx242_0)
                                      rw [hv242_0] at ge242_0
                                      have HL242_0 := Aside0.mk (show Kd.R (Kd.int .i64) 3 _ _ _ _ (rd_L1 t229 x4_3) from ge242_0)
                                      clear hv242_0 ge242_0
                                      clear hcc242 hce242
                                      have HR242_0 := Aside0.mk hi242_0
                                      have HC242_0 := Aside0.mk hl242_0
                                      clear hi242_0 hl242_0
                                      replace p242 := eq_true p242
                                      replace q242 := eq_true q242
                                      have ea_ := Option.some.inj (hx236_0.symm.trans hx242_0)
                                      injection ea_ with ea_ en_ ec_
                                      subst ea_
                                      subst ec_
                                      clear en_
                                      have p243 : 0 ≤ (1 : Int) := (by omega)
                                      have q243 : 1 < ((rd_L1 t229 x4_3).length : Int) := of_decide_eq_true (by first | (with_reducible assumption) | assumption)
                                      obtain ⟨ad243, e243, hx243_0⟩ := Kd.at_int (by repeat (first | (with_reducible exact HR242_0.out) | (with_reducible refine Kd.C_alloc ?_ _) | (with_reducible refine Kd.C_drewN ?_ _) | (with_reducible refine Kd.C_drew ?_) | exact HR242_0.out)) 1 p243 q243
                                      cases e243
                                      (try simp only [show (1 : Int).toNat = 1 from rfl, Nat.reduceMul, Nat.reduceEqDiff, Go.Addr.add, ↓reduceIte] at hx243_0)
                                      have qi243 : (1 < (rd_L1 t229 x4_3).length) = True := eq_true (by omega)
                                      (try rw [show ((1 : Int)).toNat = 1 from rfl] at hx243_0)
                                      replace p243 := eq_true p243
                                      replace q243 := eq_true q243
                                      go_wp2
                                      repeat (go_quiet (fail); try go_wp2)
                                      go_roundg k3
                                      case measure => have := HK1.out; have := HJ2.out; have := HK3.out; omega
                                      case rel => exact ⟨(wrap64 (x4_3 + 1)), (by first | rfl | (simp; done) | (simp [*]; done)), H', ⟨by have := HK1.out; have := HJ2.out; have := HK3.out; omega⟩, ⟨by (with_reducible repeat (first | apply Kd.S_alloc | apply Kd.S_drewN | apply Kd.S_drew)); exact HO_234000.out⟩, ⟨by (with_reducible repeat (first | refine blk_drewN ?_ _ | refine blk_drew ?_ | refine blk_alloc ?_ _)); exact BK233.out⟩, ⟨by repeat (first | (with_reducible first | exact HB.out | apply below_alloc | apply pw_below_drewN | apply below_drew1 | refine below_set ?_ GE233.out) | exact HB.out)⟩⟩
                                    · rw [if_neg c39] at H
                                      have c39b0 : ((rd (rd_L1 t229 x4_3) 1) == 0) = false := beq_eq_false_iff_ne.mpr c39
                                      have c39b1 : ((rd (rd_L1 t229 x4_3) 1) != 0) = true := bne_iff_ne.mpr c39
                                      obtain rfl := Option.some.inj H
                                      have hcz41_0 : wr.cell? ⟨gb233, 0, none⟩ = some (.slice Ao6 t229.length co6) := (blk_cell BK233.out 0).trans rfl
                                      have hfz41_0 := blk_frozen BK233.out 0
                                      have p236 : 0 ≤ (x4_3 : Int) := of_decide_eq_true (by first | (with_reducible assumption) | assumption)
                                      have q236 : x4_3 < (t229.length : Int) := of_decide_eq_true (by first | (with_reducible assumption) | assumption)
                                      obtain ⟨ad236, A236_0, c236_0, e236, hx236_0, hl236_0, hi236_0⟩ := at_L1 (Kd.S_reads' HO_234000.out).2.2 x4_3 p236 q236
                                      cases e236
                                      obtain ⟨ce236, hce236, hMe236, hcc236⟩ := Kd.S_get HO_234000.out [] x4_3 p236 (by first | exact q236 | exact of_decide_eq_true (by first | (with_reducible assumption) | assumption) | (have e_ := (Kd.S_reads' HO_234000.out).1; omega))
                                      obtain ⟨ve236_0, rfl, ge236_0⟩ := hMe236
                                      have hv236_0 := hcc236 0 _ rfl
                                      rw [Nat.add_zero, show ((Kd.slice 3 (Kd.int .i64))).sz = 1 from rfl, Nat.mul_one] at hv236_0
                                      replace hv236_0 := Option.some.inj (hv236_0.symm.trans hx236_0)
                                      rw [hv236_0] at ge236_0
                                      have HL236_0 := Aside0.mk (show Kd.R (Kd.int .i64) 3 _ _ _ _ (rd_L1 t229 x4_3) from ge236_0)
                                      clear hv236_0 ge236_0
                                      clear hcc236 hce236
                                      have HR236_0 := Aside0.mk hi236_0
                                      have HC236_0 := Aside0.mk hl236_0
                                      clear hi236_0 hl236_0
                                      replace p236 := eq_true p236
                                      replace q236 := eq_true q236
                                      have p237 : 0 ≤ (0 : Int) := (by omega)
                                      have q237 : 0 < ((rd_L1 t229 x4_3).length : Int) := of_decide_eq_true (by first | (with_reducible assumption) | assumption)
                                      obtain ⟨ad237, e237, hx237_0⟩ := Kd.at_int (by repeat (first | (with_reducible exact HR236_0.out) | (with_reducible refine Kd.C_alloc ?_ _) | (with_reducible refine Kd.C_drewN ?_ _) | (with_reducible refine Kd.C_drew ?_) | exact HR236_0.out)) 0 p237 q237
                                      cases e237
                                      have qi237 : (0 < (rd_L1 t229 x4_3).length) = True := eq_true (by omega)
                                      (try rw [show ((0 : Int)).toNat = 0 from rfl] at hx237_0)
                                      (try rw [Addr.add_zero'] at hx237_0)
                                      replace p237 := eq_true p237
                                      replace q237 := eq_true q237
                                      have p242 : 0 ≤ (x4_3 : Int) := of_decide_eq_true (by first | (with_reducible assumption) | assumption)
                                      have q242 : x4_3 < (t229.length : Int) := of_decide_eq_true (by first | (with_reducible assumption) | assumption)
                                      obtain ⟨ad242, A242_0, c242_0, e242, hx242_0, hl242_0, hi242_0⟩ := at_L1 (Kd.S_reads' HO_234000.out).2.2 x4_3 p242 q242
                                      obtain rfl : ad236 = ad242 := (by injection e242)
                                      obtain ⟨ce242, hce242, hMe242, hcc242⟩ := Kd.S_get HO_234000.out [] x4_3 p242 (by first | exact q242 | exact of_decide_eq_true (by first | (with_reducible assumption) | assumption) | (have e_ := (Kd.S_reads' HO_234000.out).1; omega))
                                      obtain ⟨ve242_0, rfl, ge242_0⟩ := hMe242
                                      have hv242_0 := hcc242 0 _ rfl
                                      rw [Nat.add_zero, show ((Kd.slice 3 (Kd.int .i64))).sz = 1 from rfl, Nat.mul_one] at hv242_0
                                      replace hv242_0 := Option.some.inj (hv242_0.symm.trans hx242_0)
                                      rw [hv242_0] at ge242_0
                                      have HL242_0 := Aside0.mk (show Kd.R (Kd.int .i64) 3 _ _ _ _ (rd_L1 t229 x4_3) from ge242_0)
                                      clear hv242_0 ge242_0
                                      clear hcc242 hce242
                                      have HR242_0 := Aside0.mk hi242_0
                                      have HC242_0 := Aside0.mk hl242_0
                                      clear hi242_0 hl242_0
                                      replace p242 := eq_true p242
                                      replace q242 := eq_true q242
                                      have ea_ := Option.some.inj (hx236_0.symm.trans hx242_0)
                                      injection ea_ with ea_ en_ ec_
                                      subst ea_
                                      subst ec_
                                      clear en_
                                      have p243 : 0 ≤ (1 : Int) := (by omega)
                                      have q243 : 1 < ((rd_L1 t229 x4_3).length : Int) := of_decide_eq_true (by first | (with_reducible assumption) | assumption)
                                      obtain ⟨ad243, e243, hx243_0⟩ := Kd.at_int (by repeat (first | (with_reducible exact HR242_0.out) | (with_reducible refine Kd.C_alloc ?_ _) | (with_reducible refine Kd.C_drewN ?_ _) | (with_reducible refine Kd.C_drew ?_) | exact HR242_0.out)) 1 p243 q243
                                      cases e243
                                      (try simp only [show (1 : Int).toNat = 1 from rfl, Nat.reduceMul, Nat.reduceEqDiff, Go.Addr.add, ↓reduceIte] at hx243_0)
                                      have qi243 : (1 < (rd_L1 t229 x4_3).length) = True := eq_true (by omega)
                                      (try rw [show ((1 : Int)).toNat = 1 from rfl] at hx243_0)
                                      replace p243 := eq_true p243
                                      replace q243 := eq_true q243
                                      go_wp2
                                      repeat (go_quiet (fail); try go_wp2)
                                      go_ret
                                      exact ⟨by first | rfl | (simp [errW_none, errW_some] <;> rfl) | (simp [*, errW_none, errW_some] <;> rfl), by repeat (first | (with_reducible first | exact HB.out | apply below_alloc | apply pw_below_drewN | apply below_drew1 | refine below_set ?_ GE233.out) | exact HB.out)⟩
                                  · rw [if_neg c38] at H
                                    exact absurd H (by simp)
                                · rw [if_neg c37] at H
                                  have c37b0 : (x4_3 == (wrap64 (x1_1 - 1))) = false := beq_eq_false_iff_ne.mpr c37
                                  have c37b1 : (x4_3 != (wrap64 (x1_1 - 1))) = true := bne_iff_ne.mpr c37
                                  have H' := Aside0.mk H
                                  clear H
                                  have hcz42_0 : wr.cell? ⟨gb233, 0, none⟩ = some (.slice Ao6 t229.length co6) := (blk_cell BK233.out 0).trans rfl
                                  have hfz42_0 := blk_frozen BK233.out 0
                                  have p236 : 0 ≤ (x4_3 : Int) := of_decide_eq_true (by first | (with_reducible assumption) | assumption)
                                  have q236 : x4_3 < (t229.length : Int) := of_decide_eq_true (by first | (with_reducible assumption) | assumption)
                                  obtain ⟨ad236, A236_0, c236_0, e236, hx236_0, hl236_0, hi236_0⟩ := at_L1 (Kd.S_reads' HO_234000.out).2.2 x4_3 p236 q236
                                  cases e236
                                  obtain ⟨ce236, hce236, hMe236, hcc236⟩ := Kd.S_get HO_234000.out [] x4_3 p236 (by first | exact q236 | exact of_decide_eq_true (by first | (with_reducible assumption) | assumption) | (have e_ := (Kd.S_reads' HO_234000.out).1; omega))
                                  obtain ⟨ve236_0, rfl, ge236_0⟩ := hMe236
                                  have hv236_0 := hcc236 0 _ rfl
                                  rw [Nat.add_zero, show ((Kd.slice 3 (Kd.int .i64))).sz = 1 from rfl, Nat.mul_one] at hv236_0
                                  replace hv236_0 := Option.some.inj (hv236_0.symm.trans hx236_0)
                                  rw [hv236_0] at ge236_0
                                  have HL236_0 := Aside0.mk (show Kd.R (Kd.int .i64) 3 _ _ _ _ (rd_L1 t229 x4_3) from ge236_0)
                                  clear hv236_0 ge236_0
                                  clear hcc236 hce236
                                  have HR236_0 := Aside0.mk hi236_0
                                  have HC236_0 := Aside0.mk hl236_0
                                  clear hi236_0 hl236_0
                                  replace p236 := eq_true p236
                                  replace q236 := eq_true q236
                                  have p237 : 0 ≤ (0 : Int) := (by omega)
                                  have q237 : 0 < ((rd_L1 t229 x4_3).length : Int) := of_decide_eq_true (by first | (with_reducible assumption) | assumption)
                                  obtain ⟨ad237, e237, hx237_0⟩ := Kd.at_int (by repeat (first | (with_reducible exact HR236_0.out) | (with_reducible refine Kd.C_alloc ?_ _) | (with_reducible refine Kd.C_drewN ?_ _) | (with_reducible refine Kd.C_drew ?_) | exact HR236_0.out)) 0 p237 q237
                                  cases e237
                                  have qi237 : (0 < (rd_L1 t229 x4_3).length) = True := eq_true (by omega)
                                  (try rw [show ((0 : Int)).toNat = 0 from rfl] at hx237_0)
                                  (try rw [Addr.add_zero'] at hx237_0)
                                  replace p237 := eq_true p237
                                  replace q237 := eq_true q237
                                  go_wp2
                                  repeat (go_quiet (fail); try go_wp2)
                                  go_roundg k3
                                  case measure => have := HK1.out; have := HJ2.out; have := HK3.out; omega
                                  case rel => exact ⟨(wrap64 (x4_3 + 1)), (by first | rfl | (simp; done) | (simp [*]; done)), H', ⟨by have := HK1.out; have := HJ2.out; have := HK3.out; omega⟩, ⟨by (with_reducible repeat (first | apply Kd.S_alloc | apply Kd.S_drewN | apply Kd.S_drew)); exact HO_234000.out⟩, ⟨by (with_reducible repeat (first | refine blk_drewN ?_ _ | refine blk_drew ?_ | refine blk_alloc ?_ _)); exact BK233.out⟩, ⟨by repeat (first | (with_reducible first | exact HB.out | apply below_alloc | apply pw_below_drewN | apply below_drew1 | refine below_set ?_ GE233.out) | exact HB.out)⟩⟩
                            · rw [if_neg c27] at H
                              have c27b0 : ((rd (rd_L1 t229 x4_3) 0) == (Int.tmod (wrap64 (x4_3 + 1)) x1_1)) = false := beq_eq_false_iff_ne.mpr c27
                              have c27b1 : ((rd (rd_L1 t229 x4_3) 0) != (Int.tmod (wrap64 (x4_3 + 1)) x1_1)) = true := bne_iff_ne.mpr c27
                              obtain rfl := Option.some.inj H
                              have hcz43_0 : wr.cell? ⟨gb233, 0, none⟩ = some (.slice Ao6 t229.length co6) := (blk_cell BK233.out 0).trans rfl
                              have hfz43_0 := blk_frozen BK233.out 0
                              have p236 : 0 ≤ (x4_3 : Int) := of_decide_eq_true (by first | (with_reducible assumption) | assumption)
                              have q236 : x4_3 < (t229.length : Int) := of_decide_eq_true (by first | (with_reducible assumption) | assumption)
                              obtain ⟨ad236, A236_0, c236_0, e236, hx236_0, hl236_0, hi236_0⟩ := at_L1 (Kd.S_reads' HO_234000.out).2.2 x4_3 p236 q236
                              cases e236
                              obtain ⟨ce236, hce236, hMe236, hcc236⟩ := Kd.S_get HO_234000.out [] x4_3 p236 (by first | exact q236 | exact of_decide_eq_true (by first | (with_reducible assumption) | assumption) | (have e_ := (Kd.S_reads' HO_234000.out).1; omega))
                              obtain ⟨ve236_0, rfl, ge236_0⟩ := hMe236
                              have hv236_0 := hcc236 0 _ rfl
                              rw [Nat.add_zero, show ((Kd.slice 3 (Kd.int .i64))).sz = 1 from rfl, Nat.mul_one] at hv236_0
                              replace hv236_0 := Option.some.inj (hv236_0.symm.trans hx236_0)
                              rw [hv236_0] at ge236_0
                              have HL236_0 := Aside0.mk (show Kd.R (Kd.int .i64) 3 _ _ _ _ (rd_L1 t229 x4_3) from ge236_0)
                              clear hv236_0 ge236_0
                              clear hcc236 hce236
                              have HR236_0 := Aside0.mk hi236_0
                              have HC236_0 := Aside0.mk hl236_0
                              clear hi236_0 hl236_0
                              replace p236 := eq_true p236
                              replace q236 := eq_true q236
                              have p237 : 0 ≤ (0 : Int) := (by omega)
                              have q237 : 0 < ((rd_L1 t229 x4_3).length : Int) := of_decide_eq_true (by first | (with_reducible assumption) | assumption)
                              obtain ⟨ad237, e237, hx237_0⟩ := Kd.at_int (by repeat (first | (with_reducible exact HR236_0.out) | (with_reducible refine Kd.C_alloc ?_ _) | (with_reducible refine Kd.C_drewN ?_ _) | (with_reducible refine Kd.C_drew ?_) | exact HR236_0.out)) 0 p237 q237
                              cases e237
                              have qi237 : (0 < (rd_L1 t229 x4_3).length) = True := eq_true (by omega)
                              (try rw [show ((0 : Int)).toNat = 0 from rfl] at hx237_0)
                              (try rw [Addr.add_zero'] at hx237_0)
                              replace p237 := eq_true p237
                              replace q237 := eq_true q237
                              go_wp2
                              repeat (go_quiet (fail); try go_wp2)
                              go_ret
                              exact ⟨by first | rfl | (simp [errW_none, errW_some] <;> rfl) | (simp [*, errW_none, errW_some] <;> rfl), by repeat (first | (with_reducible first | exact HB.out | apply below_alloc | apply pw_below_drewN | apply below_drew1 | refine below_set ?_ GE233.out) | exact HB.out)⟩
                        · rw [if_neg c25] at H
                          exact absurd H (by simp)
                      · rw [if_neg c24] at H
                        exact absurd H (by simp)
                    · rw [if_neg c23] at H
                      exact absurd H (by simp)
                  · rw [if_neg c22] at H
                    have c22b0 : decide (x4_3 < x1_1) = false := decide_eq_false c22
                    clear c22
                    replace H := Option.bind_eq_some_iff.mp H
                    obtain ⟨⟨t244, t247⟩, A440, H⟩ := H
                    replace H : (if t247 = 0 then (if (t244.length : Int) = (wrap64 ((wrap64 (x1_1 - 1)) * (wrap64 (x1_1 - 1)))) then ((mizmazetop_spread.f k3 t229 t244).bind fun t248 => (if t248 = 1 then (mizmazetop_TopCerny.l0 k3 (wrap64 (x1_1 + 1))) else (some false))) else (some false)) else (some false)) = some r := H
                    have A44 := Aside0.mk A440
                    clear A440
                    by_cases c45 : t247 = 0
                    · rw [if_pos c45] at H
                      have c45b0 : (t247 == 0) = true := beq_iff_eq.mpr c45
                      have c45b1 : (t247 != 0) = false := bne_eq_false_iff_eq.mpr c45
                      clear c45
                      by_cases c46 : (t244.length : Int) = (wrap64 ((wrap64 (x1_1 - 1)) * (wrap64 (x1_1 - 1))))
                      · rw [if_pos c46] at H
                        have c46b0 : ((t244.length : Int) == (wrap64 ((wrap64 (x1_1 - 1)) * (wrap64 (x1_1 - 1))))) = true := beq_iff_eq.mpr c46
                        have c46b1 : ((t244.length : Int) != (wrap64 ((wrap64 (x1_1 - 1)) * (wrap64 (x1_1 - 1))))) = false := bne_eq_false_iff_eq.mpr c46
                        clear c46
                        replace H := Option.bind_eq_some_iff.mp H
                        obtain ⟨t248, A470, H⟩ := H
                        replace H : (if t248 = 1 then (mizmazetop_TopCerny.l0 k3 (wrap64 (x1_1 + 1))) else (some false)) = some r := H
                        have A47 := Aside0.mk A470
                        clear A470
                        by_cases c48 : t248 = 1
                        · rw [if_pos c48] at H
                          have c48b0 : (t248 == 1) = true := beq_iff_eq.mpr c48
                          have c48b1 : (t248 != 1) = false := bne_eq_false_iff_eq.mpr c48
                          clear c48
                          have H' := Aside0.mk H
                          clear H
                          have hcz49_0 : wr.cell? ⟨gb233, 0, none⟩ = some (.slice Ao6 t229.length co6) := (blk_cell BK233.out 0).trans rfl
                          have hfz49_0 := blk_frozen BK233.out 0
                          go_wp2_with (first | (go_at_call 15; (with_reducible refine (short_Shortest.calls k3 _ _ t229 t244 t247 _ ?side1 ?side2 A44.out).mono ?_); (case side1 => repeat (first | exact (Kd.S_reads' HO_234000.out).2.2 | (with_reducible refine Kd.C_alloc ?_ _) | (with_reducible refine Kd.C_drewN ?_ _) | (with_reducible refine Kd.C_drew ?_))); (case side2 => exact (Kd.S_reads' HO_234000.out).2.1); rintro e w50 ⟨v245, rfl, ho0, hb⟩; have n0_ := Aside0.mk (Kd.S_elder' (by (with_reducible repeat (first | apply Kd.S_alloc | apply Kd.S_drewN | apply Kd.S_drew)); exact HO_234000.out) (Kd.R_base ho0) hb); have n1_ := Aside0.mk (Kd.R_lower ho0 (below_size (by repeat (first | (with_reducible first | exact HB.out | apply below_alloc | apply pw_below_drewN | apply below_drew1 | refine below_set ?_ GE233.out) | exact HB.out)))); have n2_ := Aside0.mk (blk_below (g := gb233) (o := .cells #[.slice Ao6 t229.length co6] 24 (0, 0)) (by (with_reducible repeat (first | refine blk_drewN ?_ _ | refine blk_drew ?_ | refine blk_alloc ?_ _)); exact BK233.out) hb); have n3_ := Aside0.mk (below_step (by repeat (first | (with_reducible first | exact HB.out | apply below_alloc | apply pw_below_drewN | apply below_drew1 | refine below_set ?_ GE233.out) | exact HB.out)) hb); clear HO_234000; clear BK233; clear HB; have HO_234000 := n0_; have HO246 := n1_; have BK233 := n2_; have HB := n3_; clear n0_ n1_ n2_ n3_; (try clear hb); (try clear hb2); (try clear hk); (try clear hi); (try clear ho0); obtain ⟨Ao51, co51, eo51⟩ := Kd.R_slice HO246.out; subst eo51; have hcz52_0 : w50.cell? ⟨gb233, 0, none⟩ = some (.slice Ao6 t229.length co6) := (blk_cell BK233.out 0).trans rfl; have hfz52_0 := blk_frozen BK233.out 0) | (go_at_call 27; (with_reducible refine (mizmazetop_spread.calls k3 _ _ t229 _ _ t244 t248 _ ?side1 ?side2 ?side3 ?side4 A47.out).mono ?_); (case side1 => repeat (first | exact (Kd.S_reads' HO_234000.out).2.2 | (with_reducible refine Kd.C_alloc ?_ _) | (with_reducible refine Kd.C_drewN ?_ _) | (with_reducible refine Kd.C_drew ?_))); (case side2 => exact (Kd.S_reads' HO_234000.out).2.1); (case side3 => repeat (first | exact (Kd.R_reads' HO246.out).2.2 | (with_reducible refine Kd.C_alloc ?_ _) | (with_reducible refine Kd.C_drewN ?_ _) | (with_reducible refine Kd.C_drew ?_))); (case side4 => exact (Kd.R_reads' HO246.out).2.1); rintro e w53 ⟨rfl, hb⟩; have n0_ := Aside0.mk (Kd.S_below (by (with_reducible repeat (first | apply Kd.S_alloc | apply Kd.S_drewN | apply Kd.S_drew)); exact HO_234000.out) hb); have n1_ := Aside0.mk (Kd.R_below (by (with_reducible repeat (first | apply Kd.R_alloc | apply Kd.R_drewN | apply Kd.R_drew)); exact HO246.out) hb); have n2_ := Aside0.mk (blk_below (g := gb233) (o := .cells #[.slice Ao6 t229.length co6] 24 (0, 0)) (by (with_reducible repeat (first | refine blk_drewN ?_ _ | refine blk_drew ?_ | refine blk_alloc ?_ _)); exact BK233.out) hb); have n3_ := Aside0.mk (below_step (by repeat (first | (with_reducible first | exact HB.out | apply below_alloc | apply pw_below_drewN | apply below_drew1 | refine below_set ?_ GE233.out) | exact HB.out)) hb); clear HO_234000; clear HO246; clear BK233; clear HB; have HO_234000 := n0_; have HO246 := n1_; have BK233 := n2_; have HB := n3_; clear n0_ n1_ n2_ n3_; (try clear hb); (try clear hb2); (try clear hk); (try clear hi)))
                          repeat (go_quiet (first | (go_at_call 15; (with_reducible refine (short_Shortest.calls k3 _ _ t229 t244 t247 _ ?side1 ?side2 A44.out).mono ?_); (case side1 => repeat (first | exact (Kd.S_reads' HO_234000.out).2.2 | (with_reducible refine Kd.C_alloc ?_ _) | (with_reducible refine Kd.C_drewN ?_ _) | (with_reducible refine Kd.C_drew ?_))); (case side2 => exact (Kd.S_reads' HO_234000.out).2.1); rintro e w50 ⟨v245, rfl, ho0, hb⟩; have n0_ := Aside0.mk (Kd.S_elder' (by (with_reducible repeat (first | apply Kd.S_alloc | apply Kd.S_drewN | apply Kd.S_drew)); exact HO_234000.out) (Kd.R_base ho0) hb); have n1_ := Aside0.mk (Kd.R_lower ho0 (below_size (by repeat (first | (with_reducible first | exact HB.out | apply below_alloc | apply pw_below_drewN | apply below_drew1 | refine below_set ?_ GE233.out) | exact HB.out)))); have n2_ := Aside0.mk (blk_below (g := gb233) (o := .cells #[.slice Ao6 t229.length co6] 24 (0, 0)) (by (with_reducible repeat (first | refine blk_drewN ?_ _ | refine blk_drew ?_ | refine blk_alloc ?_ _)); exact BK233.out) hb); have n3_ := Aside0.mk (below_step (by repeat (first | (with_reducible first | exact HB.out | apply below_alloc | apply pw_below_drewN | apply below_drew1 | refine below_set ?_ GE233.out) | exact HB.out)) hb); clear HO_234000; clear BK233; clear HB; have HO_234000 := n0_; have HO246 := n1_; have BK233 := n2_; have HB := n3_; clear n0_ n1_ n2_ n3_; (try clear hb); (try clear hb2); (try clear hk); (try clear hi); (try clear ho0); obtain ⟨Ao51, co51, eo51⟩ := Kd.R_slice HO246.out; subst eo51; have hcz52_0 : w50.cell? ⟨gb233, 0, none⟩ = some (.slice Ao6 t229.length co6) := (blk_cell BK233.out 0).trans rfl; have hfz52_0 := blk_frozen BK233.out 0) | (go_at_call 27; (with_reducible refine (mizmazetop_spread.calls k3 _ _ t229 _ _ t244 t248 _ ?side1 ?side2 ?side3 ?side4 A47.out).mono ?_); (case side1 => repeat (first | exact (Kd.S_reads' HO_234000.out).2.2 | (with_reducible refine Kd.C_alloc ?_ _) | (with_reducible refine Kd.C_drewN ?_ _) | (with_reducible refine Kd.C_drew ?_))); (case side2 => exact (Kd.S_reads' HO_234000.out).2.1); (case side3 => repeat (first | exact (Kd.R_reads' HO246.out).2.2 | (with_reducible refine Kd.C_alloc ?_ _) | (with_reducible refine Kd.C_drewN ?_ _) | (with_reducible refine Kd.C_drew ?_))); (case side4 => exact (Kd.R_reads' HO246.out).2.1); rintro e w53 ⟨rfl, hb⟩; have n0_ := Aside0.mk (Kd.S_below (by (with_reducible repeat (first | apply Kd.S_alloc | apply Kd.S_drewN | apply Kd.S_drew)); exact HO_234000.out) hb); have n1_ := Aside0.mk (Kd.R_below (by (with_reducible repeat (first | apply Kd.R_alloc | apply Kd.R_drewN | apply Kd.R_drew)); exact HO246.out) hb); have n2_ := Aside0.mk (blk_below (g := gb233) (o := .cells #[.slice Ao6 t229.length co6] 24 (0, 0)) (by (with_reducible repeat (first | refine blk_drewN ?_ _ | refine blk_drew ?_ | refine blk_alloc ?_ _)); exact BK233.out) hb); have n3_ := Aside0.mk (below_step (by repeat (first | (with_reducible first | exact HB.out | apply below_alloc | apply pw_below_drewN | apply below_drew1 | refine below_set ?_ GE233.out) | exact HB.out)) hb); clear HO_234000; clear HO246; clear BK233; clear HB; have HO_234000 := n0_; have HO246 := n1_; have BK233 := n2_; have HB := n3_; clear n0_ n1_ n2_ n3_; (try clear hb); (try clear hb2); (try clear hk); (try clear hi))); try go_wp2_with (first | (go_at_call 15; (with_reducible refine (short_Shortest.calls k3 _ _ t229 t244 t247 _ ?side1 ?side2 A44.out).mono ?_); (case side1 => repeat (first | exact (Kd.S_reads' HO_234000.out).2.2 | (with_reducible refine Kd.C_alloc ?_ _) | (with_reducible refine Kd.C_drewN ?_ _) | (with_reducible refine Kd.C_drew ?_))); (case side2 => exact (Kd.S_reads' HO_234000.out).2.1); rintro e w50 ⟨v245, rfl, ho0, hb⟩; have n0_ := Aside0.mk (Kd.S_elder' (by (with_reducible repeat (first | apply Kd.S_alloc | apply Kd.S_drewN | apply Kd.S_drew)); exact HO_234000.out) (Kd.R_base ho0) hb); have n1_ := Aside0.mk (Kd.R_lower ho0 (below_size (by repeat (first | (with_reducible first | exact HB.out | apply below_alloc | apply pw_below_drewN | apply below_drew1 | refine below_set ?_ GE233.out) | exact HB.out)))); have n2_ := Aside0.mk (blk_below (g := gb233) (o := .cells #[.slice Ao6 t229.length co6] 24 (0, 0)) (by (with_reducible repeat (first | refine blk_drewN ?_ _ | refine blk_drew ?_ | refine blk_alloc ?_ _)); exact BK233.out) hb); have n3_ := Aside0.mk (below_step (by repeat (first | (with_reducible first | exact HB.out | apply below_alloc | apply pw_below_drewN | apply below_drew1 | refine below_set ?_ GE233.out) | exact HB.out)) hb); clear HO_234000; clear BK233; clear HB; have HO_234000 := n0_; have HO246 := n1_; have BK233 := n2_; have HB := n3_; clear n0_ n1_ n2_ n3_; (try clear hb); (try clear hb2); (try clear hk); (try clear hi); (try clear ho0); obtain ⟨Ao51, co51, eo51⟩ := Kd.R_slice HO246.out; subst eo51; have hcz52_0 : w50.cell? ⟨gb233, 0, none⟩ = some (.slice Ao6 t229.length co6) := (blk_cell BK233.out 0).trans rfl; have hfz52_0 := blk_frozen BK233.out 0) | (go_at_call 27; (with_reducible refine (mizmazetop_spread.calls k3 _ _ t229 _ _ t244 t248 _ ?side1 ?side2 ?side3 ?side4 A47.out).mono ?_); (case side1 => repeat (first | exact (Kd.S_reads' HO_234000.out).2.2 | (with_reducible refine Kd.C_alloc ?_ _) | (with_reducible refine Kd.C_drewN ?_ _) | (with_reducible refine Kd.C_drew ?_))); (case side2 => exact (Kd.S_reads' HO_234000.out).2.1); (case side3 => repeat (first | exact (Kd.R_reads' HO246.out).2.2 | (with_reducible refine Kd.C_alloc ?_ _) | (with_reducible refine Kd.C_drewN ?_ _) | (with_reducible refine Kd.C_drew ?_))); (case side4 => exact (Kd.R_reads' HO246.out).2.1); rintro e w53 ⟨rfl, hb⟩; have n0_ := Aside0.mk (Kd.S_below (by (with_reducible repeat (first | apply Kd.S_alloc | apply Kd.S_drewN | apply Kd.S_drew)); exact HO_234000.out) hb); have n1_ := Aside0.mk (Kd.R_below (by (with_reducible repeat (first | apply Kd.R_alloc | apply Kd.R_drewN | apply Kd.R_drew)); exact HO246.out) hb); have n2_ := Aside0.mk (blk_below (g := gb233) (o := .cells #[.slice Ao6 t229.length co6] 24 (0, 0)) (by (with_reducible repeat (first | refine blk_drewN ?_ _ | refine blk_drew ?_ | refine blk_alloc ?_ _)); exact BK233.out) hb); have n3_ := Aside0.mk (below_step (by repeat (first | (with_reducible first | exact HB.out | apply below_alloc | apply pw_below_drewN | apply below_drew1 | refine below_set ?_ GE233.out) | exact HB.out)) hb); clear HO_234000; clear HO246; clear BK233; clear HB; have HO_234000 := n0_; have HO246 := n1_; have BK233 := n2_; have HB := n3_; clear n0_ n1_ n2_ n3_; (try clear hb); (try clear hb2); (try clear hk); (try clear hi))))
                          go_roundg k3
                          case measure => have := HK1.out; have := HJ2.out; have := HK3.out; omega
                          case rel => exact ⟨(wrap64 (x1_1 + 1)), (by first | rfl | (simp; done) | (simp [*]; done)), H', ⟨by have := HK1.out; have := HJ2.out; have := HK3.out; omega⟩, ⟨by repeat (first | (with_reducible first | exact HB.out | apply below_alloc | apply pw_below_drewN | apply below_drew1 | refine below_set ?_ GE233.out) | exact HB.out)⟩⟩
                        · rw [if_neg c48] at H
                          have c48b0 : (t248 == 1) = false := beq_eq_false_iff_ne.mpr c48
                          have c48b1 : (t248 != 1) = true := bne_iff_ne.mpr c48
                          obtain rfl := Option.some.inj H
                          have hcz54_0 : wr.cell? ⟨gb233, 0, none⟩ = some (.slice Ao6 t229.length co6) := (blk_cell BK233.out 0).trans rfl
                          have hfz54_0 := blk_frozen BK233.out 0
                          go_wp2_with (first | (go_at_call 15; (with_reducible refine (short_Shortest.calls k3 _ _ t229 t244 t247 _ ?side1 ?side2 A44.out).mono ?_); (case side1 => repeat (first | exact (Kd.S_reads' HO_234000.out).2.2 | (with_reducible refine Kd.C_alloc ?_ _) | (with_reducible refine Kd.C_drewN ?_ _) | (with_reducible refine Kd.C_drew ?_))); (case side2 => exact (Kd.S_reads' HO_234000.out).2.1); rintro e w55 ⟨v245, rfl, ho0, hb⟩; have n0_ := Aside0.mk (Kd.S_elder' (by (with_reducible repeat (first | apply Kd.S_alloc | apply Kd.S_drewN | apply Kd.S_drew)); exact HO_234000.out) (Kd.R_base ho0) hb); have n1_ := Aside0.mk (Kd.R_lower ho0 (below_size (by repeat (first | (with_reducible first | exact HB.out | apply below_alloc | apply pw_below_drewN | apply below_drew1 | refine below_set ?_ GE233.out) | exact HB.out)))); have n2_ := Aside0.mk (blk_below (g := gb233) (o := .cells #[.slice Ao6 t229.length co6] 24 (0, 0)) (by (with_reducible repeat (first | refine blk_drewN ?_ _ | refine blk_drew ?_ | refine blk_alloc ?_ _)); exact BK233.out) hb); have n3_ := Aside0.mk (below_step (by repeat (first | (with_reducible first | exact HB.out | apply below_alloc | apply pw_below_drewN | apply below_drew1 | refine below_set ?_ GE233.out) | exact HB.out)) hb); clear HO_234000; clear BK233; clear HB; have HO_234000 := n0_; have HO246 := n1_; have BK233 := n2_; have HB := n3_; clear n0_ n1_ n2_ n3_; (try clear hb); (try clear hb2); (try clear hk); (try clear hi); (try clear ho0); obtain ⟨Ao56, co56, eo56⟩ := Kd.R_slice HO246.out; subst eo56; have hcz57_0 : w55.cell? ⟨gb233, 0, none⟩ = some (.slice Ao6 t229.length co6) := (blk_cell BK233.out 0).trans rfl; have hfz57_0 := blk_frozen BK233.out 0) | (go_at_call 27; (with_reducible refine (mizmazetop_spread.calls k3 _ _ t229 _ _ t244 t248 _ ?side1 ?side2 ?side3 ?side4 A47.out).mono ?_); (case side1 => repeat (first | exact (Kd.S_reads' HO_234000.out).2.2 | (with_reducible refine Kd.C_alloc ?_ _) | (with_reducible refine Kd.C_drewN ?_ _) | (with_reducible refine Kd.C_drew ?_))); (case side2 => exact (Kd.S_reads' HO_234000.out).2.1); (case side3 => repeat (first | exact (Kd.R_reads' HO246.out).2.2 | (with_reducible refine Kd.C_alloc ?_ _) | (with_reducible refine Kd.C_drewN ?_ _) | (with_reducible refine Kd.C_drew ?_))); (case side4 => exact (Kd.R_reads' HO246.out).2.1); rintro e w58 ⟨rfl, hb⟩; have n0_ := Aside0.mk (Kd.S_below (by (with_reducible repeat (first | apply Kd.S_alloc | apply Kd.S_drewN | apply Kd.S_drew)); exact HO_234000.out) hb); have n1_ := Aside0.mk (Kd.R_below (by (with_reducible repeat (first | apply Kd.R_alloc | apply Kd.R_drewN | apply Kd.R_drew)); exact HO246.out) hb); have n2_ := Aside0.mk (blk_below (g := gb233) (o := .cells #[.slice Ao6 t229.length co6] 24 (0, 0)) (by (with_reducible repeat (first | refine blk_drewN ?_ _ | refine blk_drew ?_ | refine blk_alloc ?_ _)); exact BK233.out) hb); have n3_ := Aside0.mk (below_step (by repeat (first | (with_reducible first | exact HB.out | apply below_alloc | apply pw_below_drewN | apply below_drew1 | refine below_set ?_ GE233.out) | exact HB.out)) hb); clear HO_234000; clear HO246; clear BK233; clear HB; have HO_234000 := n0_; have HO246 := n1_; have BK233 := n2_; have HB := n3_; clear n0_ n1_ n2_ n3_; (try clear hb); (try clear hb2); (try clear hk); (try clear hi)))
                          repeat (go_quiet (first | (go_at_call 15; (with_reducible refine (short_Shortest.calls k3 _ _ t229 t244 t247 _ ?side1 ?side2 A44.out).mono ?_); (case side1 => repeat (first | exact (Kd.S_reads' HO_234000.out).2.2 | (with_reducible refine Kd.C_alloc ?_ _) | (with_reducible refine Kd.C_drewN ?_ _) | (with_reducible refine Kd.C_drew ?_))); (case side2 => exact (Kd.S_reads' HO_234000.out).2.1); rintro e w55 ⟨v245, rfl, ho0, hb⟩; have n0_ := Aside0.mk (Kd.S_elder' (by (with_reducible repeat (first | apply Kd.S_alloc | apply Kd.S_drewN | apply Kd.S_drew)); exact HO_234000.out) (Kd.R_base ho0) hb); have n1_ := Aside0.mk (Kd.R_lower ho0 (below_size (by repeat (first | (with_reducible first | exact HB.out | apply below_alloc | apply pw_below_drewN | apply below_drew1 | refine below_set ?_ GE233.out) | exact HB.out)))); have n2_ := Aside0.mk (blk_below (g := gb233) (o := .cells #[.slice Ao6 t229.length co6] 24 (0, 0)) (by (with_reducible repeat (first | refine blk_drewN ?_ _ | refine blk_drew ?_ | refine blk_alloc ?_ _)); exact BK233.out) hb); have n3_ := Aside0.mk (below_step (by repeat (first | (with_reducible first | exact HB.out | apply below_alloc | apply pw_below_drewN | apply below_drew1 | refine below_set ?_ GE233.out) | exact HB.out)) hb); clear HO_234000; clear BK233; clear HB; have HO_234000 := n0_; have HO246 := n1_; have BK233 := n2_; have HB := n3_; clear n0_ n1_ n2_ n3_; (try clear hb); (try clear hb2); (try clear hk); (try clear hi); (try clear ho0); obtain ⟨Ao56, co56, eo56⟩ := Kd.R_slice HO246.out; subst eo56; have hcz57_0 : w55.cell? ⟨gb233, 0, none⟩ = some (.slice Ao6 t229.length co6) := (blk_cell BK233.out 0).trans rfl; have hfz57_0 := blk_frozen BK233.out 0) | (go_at_call 27; (with_reducible refine (mizmazetop_spread.calls k3 _ _ t229 _ _ t244 t248 _ ?side1 ?side2 ?side3 ?side4 A47.out).mono ?_); (case side1 => repeat (first | exact (Kd.S_reads' HO_234000.out).2.2 | (with_reducible refine Kd.C_alloc ?_ _) | (with_reducible refine Kd.C_drewN ?_ _) | (with_reducible refine Kd.C_drew ?_))); (case side2 => exact (Kd.S_reads' HO_234000.out).2.1); (case side3 => repeat (first | exact (Kd.R_reads' HO246.out).2.2 | (with_reducible refine Kd.C_alloc ?_ _) | (with_reducible refine Kd.C_drewN ?_ _) | (with_reducible refine Kd.C_drew ?_))); (case side4 => exact (Kd.R_reads' HO246.out).2.1); rintro e w58 ⟨rfl, hb⟩; have n0_ := Aside0.mk (Kd.S_below (by (with_reducible repeat (first | apply Kd.S_alloc | apply Kd.S_drewN | apply Kd.S_drew)); exact HO_234000.out) hb); have n1_ := Aside0.mk (Kd.R_below (by (with_reducible repeat (first | apply Kd.R_alloc | apply Kd.R_drewN | apply Kd.R_drew)); exact HO246.out) hb); have n2_ := Aside0.mk (blk_below (g := gb233) (o := .cells #[.slice Ao6 t229.length co6] 24 (0, 0)) (by (with_reducible repeat (first | refine blk_drewN ?_ _ | refine blk_drew ?_ | refine blk_alloc ?_ _)); exact BK233.out) hb); have n3_ := Aside0.mk (below_step (by repeat (first | (with_reducible first | exact HB.out | apply below_alloc | apply pw_below_drewN | apply below_drew1 | refine below_set ?_ GE233.out) | exact HB.out)) hb); clear HO_234000; clear HO246; clear BK233; clear HB; have HO_234000 := n0_; have HO246 := n1_; have BK233 := n2_; have HB := n3_; clear n0_ n1_ n2_ n3_; (try clear hb); (try clear hb2); (try clear hk); (try clear hi))); try go_wp2_with (first | (go_at_call 15; (with_reducible refine (short_Shortest.calls k3 _ _ t229 t244 t247 _ ?side1 ?side2 A44.out).mono ?_); (case side1 => repeat (first | exact (Kd.S_reads' HO_234000.out).2.2 | (with_reducible refine Kd.C_alloc ?_ _) | (with_reducible refine Kd.C_drewN ?_ _) | (with_reducible refine Kd.C_drew ?_))); (case side2 => exact (Kd.S_reads' HO_234000.out).2.1); rintro e w55 ⟨v245, rfl, ho0, hb⟩; have n0_ := Aside0.mk (Kd.S_elder' (by (with_reducible repeat (first | apply Kd.S_alloc | apply Kd.S_drewN | apply Kd.S_drew)); exact HO_234000.out) (Kd.R_base ho0) hb); have n1_ := Aside0.mk (Kd.R_lower ho0 (below_size (by repeat (first | (with_reducible first | exact HB.out | apply below_alloc | apply pw_below_drewN | apply below_drew1 | refine below_set ?_ GE233.out) | exact HB.out)))); have n2_ := Aside0.mk (blk_below (g := gb233) (o := .cells #[.slice Ao6 t229.length co6] 24 (0, 0)) (by (with_reducible repeat (first | refine blk_drewN ?_ _ | refine blk_drew ?_ | refine blk_alloc ?_ _)); exact BK233.out) hb); have n3_ := Aside0.mk (below_step (by repeat (first | (with_reducible first | exact HB.out | apply below_alloc | apply pw_below_drewN | apply below_drew1 | refine below_set ?_ GE233.out) | exact HB.out)) hb); clear HO_234000; clear BK233; clear HB; have HO_234000 := n0_; have HO246 := n1_; have BK233 := n2_; have HB := n3_; clear n0_ n1_ n2_ n3_; (try clear hb); (try clear hb2); (try clear hk); (try clear hi); (try clear ho0); obtain ⟨Ao56, co56, eo56⟩ := Kd.R_slice HO246.out; subst eo56; have hcz57_0 : w55.cell? ⟨gb233, 0, none⟩ = some (.slice Ao6 t229.length co6) := (blk_cell BK233.out 0).trans rfl; have hfz57_0 := blk_frozen BK233.out 0) | (go_at_call 27; (with_reducible refine (mizmazetop_spread.calls k3 _ _ t229 _ _ t244 t248 _ ?side1 ?side2 ?side3 ?side4 A47.out).mono ?_); (case side1 => repeat (first | exact (Kd.S_reads' HO_234000.out).2.2 | (with_reducible refine Kd.C_alloc ?_ _) | (with_reducible refine Kd.C_drewN ?_ _) | (with_reducible refine Kd.C_drew ?_))); (case side2 => exact (Kd.S_reads' HO_234000.out).2.1); (case side3 => repeat (first | exact (Kd.R_reads' HO246.out).2.2 | (with_reducible refine Kd.C_alloc ?_ _) | (with_reducible refine Kd.C_drewN ?_ _) | (with_reducible refine Kd.C_drew ?_))); (case side4 => exact (Kd.R_reads' HO246.out).2.1); rintro e w58 ⟨rfl, hb⟩; have n0_ := Aside0.mk (Kd.S_below (by (with_reducible repeat (first | apply Kd.S_alloc | apply Kd.S_drewN | apply Kd.S_drew)); exact HO_234000.out) hb); have n1_ := Aside0.mk (Kd.R_below (by (with_reducible repeat (first | apply Kd.R_alloc | apply Kd.R_drewN | apply Kd.R_drew)); exact HO246.out) hb); have n2_ := Aside0.mk (blk_below (g := gb233) (o := .cells #[.slice Ao6 t229.length co6] 24 (0, 0)) (by (with_reducible repeat (first | refine blk_drewN ?_ _ | refine blk_drew ?_ | refine blk_alloc ?_ _)); exact BK233.out) hb); have n3_ := Aside0.mk (below_step (by repeat (first | (with_reducible first | exact HB.out | apply below_alloc | apply pw_below_drewN | apply below_drew1 | refine below_set ?_ GE233.out) | exact HB.out)) hb); clear HO_234000; clear HO246; clear BK233; clear HB; have HO_234000 := n0_; have HO246 := n1_; have BK233 := n2_; have HB := n3_; clear n0_ n1_ n2_ n3_; (try clear hb); (try clear hb2); (try clear hk); (try clear hi))))
                          go_ret
                          exact ⟨by first | rfl | (simp [errW_none, errW_some] <;> rfl) | (simp [*, errW_none, errW_some] <;> rfl), by repeat (first | (with_reducible first | exact HB.out | apply below_alloc | apply pw_below_drewN | apply below_drew1 | refine below_set ?_ GE233.out) | exact HB.out)⟩
                      · rw [if_neg c46] at H
                        have c46b0 : ((t244.length : Int) == (wrap64 ((wrap64 (x1_1 - 1)) * (wrap64 (x1_1 - 1))))) = false := beq_eq_false_iff_ne.mpr c46
                        have c46b1 : ((t244.length : Int) != (wrap64 ((wrap64 (x1_1 - 1)) * (wrap64 (x1_1 - 1))))) = true := bne_iff_ne.mpr c46
                        obtain rfl := Option.some.inj H
                        have hcz59_0 : wr.cell? ⟨gb233, 0, none⟩ = some (.slice Ao6 t229.length co6) := (blk_cell BK233.out 0).trans rfl
                        have hfz59_0 := blk_frozen BK233.out 0
                        go_wp2_with (first | (go_at_call 15; (with_reducible refine (short_Shortest.calls k3 _ _ t229 t244 t247 _ ?side1 ?side2 A44.out).mono ?_); (case side1 => repeat (first | exact (Kd.S_reads' HO_234000.out).2.2 | (with_reducible refine Kd.C_alloc ?_ _) | (with_reducible refine Kd.C_drewN ?_ _) | (with_reducible refine Kd.C_drew ?_))); (case side2 => exact (Kd.S_reads' HO_234000.out).2.1); rintro e w60 ⟨v245, rfl, ho0, hb⟩; have n0_ := Aside0.mk (Kd.S_elder' (by (with_reducible repeat (first | apply Kd.S_alloc | apply Kd.S_drewN | apply Kd.S_drew)); exact HO_234000.out) (Kd.R_base ho0) hb); have n1_ := Aside0.mk (Kd.R_lower ho0 (below_size (by repeat (first | (with_reducible first | exact HB.out | apply below_alloc | apply pw_below_drewN | apply below_drew1 | refine below_set ?_ GE233.out) | exact HB.out)))); have n2_ := Aside0.mk (blk_below (g := gb233) (o := .cells #[.slice Ao6 t229.length co6] 24 (0, 0)) (by (with_reducible repeat (first | refine blk_drewN ?_ _ | refine blk_drew ?_ | refine blk_alloc ?_ _)); exact BK233.out) hb); have n3_ := Aside0.mk (below_step (by repeat (first | (with_reducible first | exact HB.out | apply below_alloc | apply pw_below_drewN | apply below_drew1 | refine below_set ?_ GE233.out) | exact HB.out)) hb); clear HO_234000; clear BK233; clear HB; have HO_234000 := n0_; have HO246 := n1_; have BK233 := n2_; have HB := n3_; clear n0_ n1_ n2_ n3_; (try clear hb); (try clear hb2); (try clear hk); (try clear hi); (try clear ho0); obtain ⟨Ao61, co61, eo61⟩ := Kd.R_slice HO246.out; subst eo61))
                        repeat (go_quiet (first | (go_at_call 15; (with_reducible refine (short_Shortest.calls k3 _ _ t229 t244 t247 _ ?side1 ?side2 A44.out).mono ?_); (case side1 => repeat (first | exact (Kd.S_reads' HO_234000.out).2.2 | (with_reducible refine Kd.C_alloc ?_ _) | (with_reducible refine Kd.C_drewN ?_ _) | (with_reducible refine Kd.C_drew ?_))); (case side2 => exact (Kd.S_reads' HO_234000.out).2.1); rintro e w60 ⟨v245, rfl, ho0, hb⟩; have n0_ := Aside0.mk (Kd.S_elder' (by (with_reducible repeat (first | apply Kd.S_alloc | apply Kd.S_drewN | apply Kd.S_drew)); exact HO_234000.out) (Kd.R_base ho0) hb); have n1_ := Aside0.mk (Kd.R_lower ho0 (below_size (by repeat (first | (with_reducible first | exact HB.out | apply below_alloc | apply pw_below_drewN | apply below_drew1 | refine below_set ?_ GE233.out) | exact HB.out)))); have n2_ := Aside0.mk (blk_below (g := gb233) (o := .cells #[.slice Ao6 t229.length co6] 24 (0, 0)) (by (with_reducible repeat (first | refine blk_drewN ?_ _ | refine blk_drew ?_ | refine blk_alloc ?_ _)); exact BK233.out) hb); have n3_ := Aside0.mk (below_step (by repeat (first | (with_reducible first | exact HB.out | apply below_alloc | apply pw_below_drewN | apply below_drew1 | refine below_set ?_ GE233.out) | exact HB.out)) hb); clear HO_234000; clear BK233; clear HB; have HO_234000 := n0_; have HO246 := n1_; have BK233 := n2_; have HB := n3_; clear n0_ n1_ n2_ n3_; (try clear hb); (try clear hb2); (try clear hk); (try clear hi); (try clear ho0); obtain ⟨Ao61, co61, eo61⟩ := Kd.R_slice HO246.out; subst eo61)); try go_wp2_with (first | (go_at_call 15; (with_reducible refine (short_Shortest.calls k3 _ _ t229 t244 t247 _ ?side1 ?side2 A44.out).mono ?_); (case side1 => repeat (first | exact (Kd.S_reads' HO_234000.out).2.2 | (with_reducible refine Kd.C_alloc ?_ _) | (with_reducible refine Kd.C_drewN ?_ _) | (with_reducible refine Kd.C_drew ?_))); (case side2 => exact (Kd.S_reads' HO_234000.out).2.1); rintro e w60 ⟨v245, rfl, ho0, hb⟩; have n0_ := Aside0.mk (Kd.S_elder' (by (with_reducible repeat (first | apply Kd.S_alloc | apply Kd.S_drewN | apply Kd.S_drew)); exact HO_234000.out) (Kd.R_base ho0) hb); have n1_ := Aside0.mk (Kd.R_lower ho0 (below_size (by repeat (first | (with_reducible first | exact HB.out | apply below_alloc | apply pw_below_drewN | apply below_drew1 | refine below_set ?_ GE233.out) | exact HB.out)))); have n2_ := Aside0.mk (blk_below (g := gb233) (o := .cells #[.slice Ao6 t229.length co6] 24 (0, 0)) (by (with_reducible repeat (first | refine blk_drewN ?_ _ | refine blk_drew ?_ | refine blk_alloc ?_ _)); exact BK233.out) hb); have n3_ := Aside0.mk (below_step (by repeat (first | (with_reducible first | exact HB.out | apply below_alloc | apply pw_below_drewN | apply below_drew1 | refine below_set ?_ GE233.out) | exact HB.out)) hb); clear HO_234000; clear BK233; clear HB; have HO_234000 := n0_; have HO246 := n1_; have BK233 := n2_; have HB := n3_; clear n0_ n1_ n2_ n3_; (try clear hb); (try clear hb2); (try clear hk); (try clear hi); (try clear ho0); obtain ⟨Ao61, co61, eo61⟩ := Kd.R_slice HO246.out; subst eo61)))
                        go_ret
                        exact ⟨by first | rfl | (simp [errW_none, errW_some] <;> rfl) | (simp [*, errW_none, errW_some] <;> rfl), by repeat (first | (with_reducible first | exact HB.out | apply below_alloc | apply pw_below_drewN | apply below_drew1 | refine below_set ?_ GE233.out) | exact HB.out)⟩
                    · rw [if_neg c45] at H
                      have c45b0 : (t247 == 0) = false := beq_eq_false_iff_ne.mpr c45
                      have c45b1 : (t247 != 0) = true := bne_iff_ne.mpr c45
                      obtain rfl := Option.some.inj H
                      have hcz62_0 : wr.cell? ⟨gb233, 0, none⟩ = some (.slice Ao6 t229.length co6) := (blk_cell BK233.out 0).trans rfl
                      have hfz62_0 := blk_frozen BK233.out 0
                      go_wp2_with (first | (go_at_call 15; (with_reducible refine (short_Shortest.calls k3 _ _ t229 t244 t247 _ ?side1 ?side2 A44.out).mono ?_); (case side1 => repeat (first | exact (Kd.S_reads' HO_234000.out).2.2 | (with_reducible refine Kd.C_alloc ?_ _) | (with_reducible refine Kd.C_drewN ?_ _) | (with_reducible refine Kd.C_drew ?_))); (case side2 => exact (Kd.S_reads' HO_234000.out).2.1); rintro e w63 ⟨v245, rfl, ho0, hb⟩; have n0_ := Aside0.mk (Kd.S_elder' (by (with_reducible repeat (first | apply Kd.S_alloc | apply Kd.S_drewN | apply Kd.S_drew)); exact HO_234000.out) (Kd.R_base ho0) hb); have n1_ := Aside0.mk (Kd.R_lower ho0 (below_size (by repeat (first | (with_reducible first | exact HB.out | apply below_alloc | apply pw_below_drewN | apply below_drew1 | refine below_set ?_ GE233.out) | exact HB.out)))); have n2_ := Aside0.mk (blk_below (g := gb233) (o := .cells #[.slice Ao6 t229.length co6] 24 (0, 0)) (by (with_reducible repeat (first | refine blk_drewN ?_ _ | refine blk_drew ?_ | refine blk_alloc ?_ _)); exact BK233.out) hb); have n3_ := Aside0.mk (below_step (by repeat (first | (with_reducible first | exact HB.out | apply below_alloc | apply pw_below_drewN | apply below_drew1 | refine below_set ?_ GE233.out) | exact HB.out)) hb); clear HO_234000; clear BK233; clear HB; have HO_234000 := n0_; have HO246 := n1_; have BK233 := n2_; have HB := n3_; clear n0_ n1_ n2_ n3_; (try clear hb); (try clear hb2); (try clear hk); (try clear hi); (try clear ho0)))
                      repeat (go_quiet (first | (go_at_call 15; (with_reducible refine (short_Shortest.calls k3 _ _ t229 t244 t247 _ ?side1 ?side2 A44.out).mono ?_); (case side1 => repeat (first | exact (Kd.S_reads' HO_234000.out).2.2 | (with_reducible refine Kd.C_alloc ?_ _) | (with_reducible refine Kd.C_drewN ?_ _) | (with_reducible refine Kd.C_drew ?_))); (case side2 => exact (Kd.S_reads' HO_234000.out).2.1); rintro e w63 ⟨v245, rfl, ho0, hb⟩; have n0_ := Aside0.mk (Kd.S_elder' (by (with_reducible repeat (first | apply Kd.S_alloc | apply Kd.S_drewN | apply Kd.S_drew)); exact HO_234000.out) (Kd.R_base ho0) hb); have n1_ := Aside0.mk (Kd.R_lower ho0 (below_size (by repeat (first | (with_reducible first | exact HB.out | apply below_alloc | apply pw_below_drewN | apply below_drew1 | refine below_set ?_ GE233.out) | exact HB.out)))); have n2_ := Aside0.mk (blk_below (g := gb233) (o := .cells #[.slice Ao6 t229.length co6] 24 (0, 0)) (by (with_reducible repeat (first | refine blk_drewN ?_ _ | refine blk_drew ?_ | refine blk_alloc ?_ _)); exact BK233.out) hb); have n3_ := Aside0.mk (below_step (by repeat (first | (with_reducible first | exact HB.out | apply below_alloc | apply pw_below_drewN | apply below_drew1 | refine below_set ?_ GE233.out) | exact HB.out)) hb); clear HO_234000; clear BK233; clear HB; have HO_234000 := n0_; have HO246 := n1_; have BK233 := n2_; have HB := n3_; clear n0_ n1_ n2_ n3_; (try clear hb); (try clear hb2); (try clear hk); (try clear hi); (try clear ho0))); try go_wp2_with (first | (go_at_call 15; (with_reducible refine (short_Shortest.calls k3 _ _ t229 t244 t247 _ ?side1 ?side2 A44.out).mono ?_); (case side1 => repeat (first | exact (Kd.S_reads' HO_234000.out).2.2 | (with_reducible refine Kd.C_alloc ?_ _) | (with_reducible refine Kd.C_drewN ?_ _) | (with_reducible refine Kd.C_drew ?_))); (case side2 => exact (Kd.S_reads' HO_234000.out).2.1); rintro e w63 ⟨v245, rfl, ho0, hb⟩; have n0_ := Aside0.mk (Kd.S_elder' (by (with_reducible repeat (first | apply Kd.S_alloc | apply Kd.S_drewN | apply Kd.S_drew)); exact HO_234000.out) (Kd.R_base ho0) hb); have n1_ := Aside0.mk (Kd.R_lower ho0 (below_size (by repeat (first | (with_reducible first | exact HB.out | apply below_alloc | apply pw_below_drewN | apply below_drew1 | refine below_set ?_ GE233.out) | exact HB.out)))); have n2_ := Aside0.mk (blk_below (g := gb233) (o := .cells #[.slice Ao6 t229.length co6] 24 (0, 0)) (by (with_reducible repeat (first | refine blk_drewN ?_ _ | refine blk_drew ?_ | refine blk_alloc ?_ _)); exact BK233.out) hb); have n3_ := Aside0.mk (below_step (by repeat (first | (with_reducible first | exact HB.out | apply below_alloc | apply pw_below_drewN | apply below_drew1 | refine below_set ?_ GE233.out) | exact HB.out)) hb); clear HO_234000; clear BK233; clear HB; have HO_234000 := n0_; have HO246 := n1_; have BK233 := n2_; have HB := n3_; clear n0_ n1_ n2_ n3_; (try clear hb); (try clear hb2); (try clear hk); (try clear hi); (try clear ho0))))
                      go_ret
                      exact ⟨by first | rfl | (simp [errW_none, errW_some] <;> rfl) | (simp [*, errW_none, errW_some] <;> rfl), by repeat (first | (with_reducible first | exact HB.out | apply below_alloc | apply pw_below_drewN | apply below_drew1 | refine below_set ?_ GE233.out) | exact HB.out)⟩
      · rw [if_neg c1] at H
        have c1b0 : decide (x1_1 ≤ 11) = false := decide_eq_false c1
        clear c1
        replace H := Option.bind_eq_some_iff.mp H
        obtain ⟨t228, A640, H⟩ := H
        replace H : (some t228) = some r := H
        have A64 := Aside0.mk A640
        clear A640
        obtain rfl := Option.some.inj H
        go_wp2_with (first | (go_at_call 28; (with_reducible refine (mizmazetop_shortens.calls k1  t228 _ A64.out).mono ?_); rintro e w65 ⟨rfl, hb⟩; have n0_ := Aside0.mk (below_step (by repeat (first | (with_reducible first | exact HB.out | apply below_alloc | apply pw_below_drewN | apply below_drew1) | exact HB.out)) hb); clear HB; have HB := n0_; clear n0_; (try clear hb); (try clear hb2); (try clear hk); (try clear hi)))
        repeat (go_quiet (first | (go_at_call 28; (with_reducible refine (mizmazetop_shortens.calls k1  t228 _ A64.out).mono ?_); rintro e w65 ⟨rfl, hb⟩; have n0_ := Aside0.mk (below_step (by repeat (first | (with_reducible first | exact HB.out | apply below_alloc | apply pw_below_drewN | apply below_drew1) | exact HB.out)) hb); clear HB; have HB := n0_; clear n0_; (try clear hb); (try clear hb2); (try clear hk); (try clear hi))); try go_wp2_with (first | (go_at_call 28; (with_reducible refine (mizmazetop_shortens.calls k1  t228 _ A64.out).mono ?_); rintro e w65 ⟨rfl, hb⟩; have n0_ := Aside0.mk (below_step (by repeat (first | (with_reducible first | exact HB.out | apply below_alloc | apply pw_below_drewN | apply below_drew1) | exact HB.out)) hb); clear HB; have HB := n0_; clear n0_; (try clear hb); (try clear hb2); (try clear hk); (try clear hi))))
        go_ret
        exact ⟨by first | rfl | (simp [errW_none, errW_some] <;> rfl) | (simp [*, errW_none, errW_some] <;> rfl), by repeat (first | (with_reducible first | exact HB.out | apply below_alloc | apply pw_below_drewN | apply below_drew1) | exact HB.out)⟩

end Go.Proofs.Ytogoppejcmaocaa.Q
end
/-! Part XRank -/
section
namespace Go.Proofs.Ytogoppejcmaocaa.Q
open Go.RowKit Go.Proofs.YtogoppejcmaocaaW.PrintWords Go.Proofs.YtogoppejcmaocaaW.PrintLast Go.Proofs.YtogoppejcmaocaaW.PrintMore
attribute [local go_sem] Oper.semAt_some
set_option linter.unusedVariables false
set_option linter.unusedSimpArgs false
/-! ### short.Rank -/
end Go.Proofs.Ytogoppejcmaocaa.Q
end
