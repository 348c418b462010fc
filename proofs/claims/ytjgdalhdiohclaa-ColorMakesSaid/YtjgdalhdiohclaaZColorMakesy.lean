/- Colored and Same return the documented results, or the documented errors, for any automata and permutations. (text 25 of 27) -/
import Derived.Test.YtjgdalhdiohclaaZColorMakesx
import Derived.Test.YtjgdalhdiohclaaZColorMakeso
import Derived.Test.YtjgdalhdiohclaaZColorMakesv
import Derived.Test.YtjgdalhdiohclaaZColorMakesj
import Derived.Test.YtjgdalhdiohclaaZColorMakesk
import Derived.RangeFuncLeaves
import Derived.RangeFuncRecord
import Derived.Test.YtjgdalhdiohclaaZColorMakesg
import Derived.Test.YtjgdalhdiohclaaZColorMakess
import Derived.Test.YtjgdalhdiohclaaZColorMakesh
import Derived.Test.YtjgdalhdiohclaaZColorMakesn
open Go.RowKit Go.Proofs.YtjgdalhdiohclaaW.PrintWords Go.Proofs.YtjgdalhdiohclaaW.PrintLast Go.Proofs.YtjgdalhdiohclaaW.PrintMore
/-! Part XRoad -/
section
namespace Go.Proofs.Ytjgdalhdiohclaa.Q
attribute [local go_sem] Oper.semAt_some
set_option linter.unusedVariables false
set_option linter.unusedSimpArgs false
/-! ### color.some, the maker -/
set_option maxHeartbeats 4000000 in
set_option maxRecDepth 100000 in
theorem color_some.makes (A0 : Option Addr) (n c0 : Nat) (many : Int) (w : World) :
  Calls Try.prog 88 #[.slice A0 n c0, .int .i64 many] w fun e w' => ∃ Ob Mb : Nat, e = .returned (.func (.func 109) #[] #[.pointer (some ⟨Mb, 0, none⟩), .pointer (some ⟨Ob, 0, none⟩)]) ∧ w.heap.size ≤ Ob ∧ w.heap.size ≤ Mb ∧ w'.heap[Ob]? = some (.cells #[.slice A0 n c0] 87 (0, 0)) ∧ w'.heap[Mb]? = some (.cells #[.int .i64 many] 3 (0, 0)) ∧ Below w.heap.size w w' := by
 go_enter Try.func88, Try.ntmps88
 go_wp2_with (first | ((with_reducible refine gate_dst (N := 2) rfl ?_); refine box_event ?hg (N := 2) ?hd (cs := #[.slice A0 n c0]) (t := 87) ?hr ?_; (case hd => rfl); (case hg => rfl); (case hr => first | (go_simp; done) | (go_simp; rfl)); intro B hBe w1 hbox hb1; have HBE := am (show w.heap.size ≤ B by omega); have HX := am hbox; have HB := am hb1; clear hbox hb1 hBe)  | ((with_reducible refine gate_dst (N := 3) rfl ?_); refine box_event ?hg (N := 3) ?hd (cs := #[.int .i64 many]) (t := 3) ?hr ?_; (case hd => rfl); (case hg => rfl); (case hr => first | (go_simp; done) | (go_simp; rfl)); intro M hMe w2 hbox2 hb2; have HME := am (show w.heap.size ≤ M by have := HB.out.size; omega); have HX2 := am (blk_below HX.out hb2); have HY2 := am hbox2; have HB2 := am (below_step HB.out hb2); clear hbox2 hb2 hMe))
 go_ret
 exact ⟨B, M, rfl, HBE.out, HME.out, HX2.out, HY2.out, HB2.out⟩
/-! ### a world that shows some blocks only -/
def shows (Q : Nat → Prop) [DecidablePred Q] (w : World) : World := { w with heap := Array.ofFn (n := w.heap.size) fun b => if Q b.val then w.heap[b] else .cells #[] 0 (0, 0) }
theorem shows_at (Q : Nat → Prop) [DecidablePred Q] (w : World) (b : Nat) (h : Q b) : (shows Q w).heap[b]? = w.heap[b]? := by
 unfold shows
 by_cases hb : b < w.heap.size
 ·simp [hb, h]
 ·simp [hb, Array.getElem?_eq_none (Nat.le_of_not_lt hb)]
theorem shows_only (Q : Nat → Prop) [DecidablePred Q] (w : World) (a : Addr) (x : Value) (h : (shows Q w).cell? a = some x) : Q a.block := by
 by_cases hq : Q a.block
 ·exact hq
 ·exfalso
  by_cases hb : a.block < w.heap.size
  ·have e : (shows Q w).heap[a.block]? = some (.cells #[] 0 (0, 0)) := by
    unfold shows
    simp [hb, hq]
   simp only [World.cell?, e] at h
   split at h <;> simp at h
  ·have e : (shows Q w).heap[a.block]? = none := by
    unfold shows
    simp [hb]
   simp only [World.cell?, e] at h
   cases h
/-! ### color.Road -/
theorem C_rows_cells {w W : World} {A : Option Addr} {a : List (List Int)} (hk : ∀ a x, w.cell? a = some x → W.cell? a = some x) (h : Kd.C (Kd.slice 3 (Kd.int .i64)) w A a.length a) : Kd.C (Kd.slice 3 (Kd.int .i64)) W A a.length a := by
 obtain ⟨h1, h2, h3⟩ := h
 refine ⟨h1, h2, fun h0 => ?_⟩
 obtain ⟨ad, e, hc⟩ := h3 h0
 refine ⟨ad, e, fun j p hj => ?_⟩
 obtain ⟨cs, g1, ⟨A1, c1, e1, l1, C1⟩, g3⟩ := hc j p hj
 exact ⟨cs, g1, ⟨A1, c1, e1, l1, C_int_cells hk C1⟩, fun i u hu => hk _ _ (g3 i u hu)⟩
theorem cells_putLoop {W : World} {l : Nat} {r : Loop} (h : W.heap[l]? = some (.loop r)) (o : Obj) : ∀ a x, W.cell? a = some x → (W.putObj l o).cell? a = some x := by
 intro a x hx
 refine (cell_of_heap (World.putObj_heap_other fun e => ?_)).trans hx
 simp only [World.cell?] at hx
 rw [e, h] at hx
 cases hx
structure IR (w : World) (C2 C3 C4 : Nat) (own : Nat → Prop) (W : World) (u2 u3 u4 : Value) : Prop where
 below : Below w.heap.size w W
 c2 : W.heap[C2]? = some (.cells #[u2] 24 (0, 0))
 c3 : W.heap[C3]? = some (.cells #[u3] 28 (0, 0))
 c4 : W.heap[C4]? = some (.cells #[u4] 25 (0, 0))
 n2 : ¬ own C2
 n3 : ¬ own C3
 n4 : ¬ own C4
 h2 : w.heap.size ≤ C2
 h3 : w.heap.size ≤ C3
 h4 : w.heap.size ≤ C4
section
variable {w : World} {C2 C3 C4 D : Nat} {own own' : Nat → Prop} {W W' : World} {u2 u3 u4 : Value} {x : Option (List Deferred)}
theorem IR.stable (h : IR w C2 C3 C4 own W u2 u3 u4) (hk : KeptL w.heap.size own W W') (hs : ∀ b, own b → w.heap.size ≤ b) (hn : ∀ b, own' b → own b ∨ W.heap.size ≤ b) : IR w C2 C3 C4 own' W' u2 u3 u4 :=
 ⟨hk.below h.below hs, hk.cells h.c2 h.n2, hk.cells h.c3 h.n3, hk.cells h.c4 h.n4, fun ho => (hn _ ho).elim h.n2 (by have := blk_ltS h.c2; omega), fun ho => (hn _ ho).elim h.n3 (by have := blk_ltS h.c3; omega), fun ho => (hn _ ho).elim h.n4 (by have := blk_ltS h.c4; omega), h.h2, h.h3, h.h4⟩
theorem IR.next (h : IR w C2 C3 C4 own W u2 u3 u4) (hb : Below W.heap.size W W') : IR w C2 C3 C4 own W' u2 u3 u4 :=
 ⟨below_step h.below hb, blk_below h.c2 hb, blk_below h.c3 hb, blk_below h.c4 hb, h.n2, h.n3, h.n4, h.h2, h.h3, h.h4⟩
theorem IR.putD (h : IR w C2 C3 C4 own W u2 u3 u4) (hk : W.heap[D]? = some (.deferred x)) (hD : w.heap.size ≤ D) (o : Obj) : IR w C2 C3 C4 own (W.putObj D o) u2 u3 u4 := by
 have n2 : C2 ≠ D := fun e => by subst e; rw [h.c2] at hk; cases hk
 have n3 : C3 ≠ D := fun e => by subst e; rw [h.c3] at hk; cases hk
 have n4 : C4 ≠ D := fun e => by subst e; rw [h.c4] at hk; cases hk
 exact ⟨⟨h.below.os, h.below.tape, h.below.output, by simpa using h.below.size, fun b hb => (World.putObj_heap_other (by omega)).trans (h.below.block b hb)⟩, (World.putObj_heap_other n2).trans h.c2, (World.putObj_heap_other n3).trans h.c3, (World.putObj_heap_other n4).trans h.c4, h.n2, h.n3, h.n4, h.h2, h.h3, h.h4⟩
theorem IR.put (h : IR w C2 C3 C4 own W u2 u3 u4) (e1 : C2 ≠ C3) (e2 : C2 ≠ C4) (e3 : C3 ≠ C4) (v2 v3 v4 : Value) : IR w C2 C3 C4 own (((W.setCell ⟨C2, 0, none⟩ v2).setCell ⟨C3, 0, none⟩ v3).setCell ⟨C4, 0, none⟩ v4) v2 v3 v4 := by
 have a2 := blk_put (cs := #[u2]) h.c2 0 v2 rfl
 have a3 : (W.setCell ⟨C2, 0, none⟩ v2).heap[C3]? = some (.cells #[u3] 28 (0, 0)) := (Below.heap_setCell W ⟨C2, 0, none⟩ v2 C3 (Ne.symm e1)).trans h.c3
 have a4 : (W.setCell ⟨C2, 0, none⟩ v2).heap[C4]? = some (.cells #[u4] 25 (0, 0)) := (Below.heap_setCell W ⟨C2, 0, none⟩ v2 C4 (Ne.symm e2)).trans h.c4
 have b3 := blk_put (cs := #[u3]) a3 0 v3 rfl
 have b2 := (Below.heap_setCell (W.setCell ⟨C2, 0, none⟩ v2) ⟨C3, 0, none⟩ v3 C2 e1).trans a2
 have b4 := (Below.heap_setCell (W.setCell ⟨C2, 0, none⟩ v2) ⟨C3, 0, none⟩ v3 C4 (Ne.symm e3)).trans a4
 have d4 := blk_put (cs := #[u4]) b4 0 v4 rfl
 have d2 := (Below.heap_setCell ((W.setCell ⟨C2, 0, none⟩ v2).setCell ⟨C3, 0, none⟩ v3) ⟨C4, 0, none⟩ v4 C2 e2).trans b2
 have d3 := (Below.heap_setCell ((W.setCell ⟨C2, 0, none⟩ v2).setCell ⟨C3, 0, none⟩ v3) ⟨C4, 0, none⟩ v4 C3 e3).trans b3
 exact ⟨((h.below.setCell (p := ⟨C2, 0, none⟩) h.h2 _).setCell (p := ⟨C3, 0, none⟩) h.h3 _).setCell (p := ⟨C4, 0, none⟩) h.h4 _, d2, d3, d4, h.n2, h.n3, h.n4, h.h2, h.h3, h.h4⟩
theorem IR.o3 (h : IR w C2 C3 C4 own W u2 u3 u4) (e1 : C2 ≠ C3) (v2 : Value) : (W.setCell ⟨C2, 0, none⟩ v2).heap[C3]? = some (.cells #[u3] 28 (0, 0)) := (Below.heap_setCell W ⟨C2, 0, none⟩ v2 C3 (Ne.symm e1)).trans h.c3
theorem IR.o4 (h : IR w C2 C3 C4 own W u2 u3 u4) (e2 : C2 ≠ C4) (e3 : C3 ≠ C4) (v2 v3 : Value) : ((W.setCell ⟨C2, 0, none⟩ v2).setCell ⟨C3, 0, none⟩ v3).heap[C4]? = some (.cells #[u4] 25 (0, 0)) :=
 (Below.heap_setCell (W.setCell ⟨C2, 0, none⟩ v2) ⟨C3, 0, none⟩ v3 C4 (Ne.symm e3)).trans ((Below.heap_setCell W ⟨C2, 0, none⟩ v2 C4 (Ne.symm e2)).trans h.c4)
theorem IR.start {w1 : World} (h : Below w.heap.size w w1) : IR w w1.heap.size (w1.heap.size + 1) (w1.heap.size + 2) (fun _ => False) (((w1.alloc (.cells #[.slice none 0 0] 24)).alloc (.cells #[.slice none 0 0] 28)).alloc (.cells #[.int .i64 0] 25)) (.slice none 0 0) (.slice none 0 0) (.int .i64 0) := by
 have hs := h.size
 have g2 := World.alloc_heap_new w1 (.cells #[.slice none 0 0] 24)
 have g3 := World.alloc_heap_new (w1.alloc (.cells #[.slice none 0 0] 24)) (.cells #[.slice none 0 0] 28)
 have g4 := World.alloc_heap_new ((w1.alloc (.cells #[.slice none 0 0] 24)).alloc (.cells #[.slice none 0 0] 28)) (.cells #[.int .i64 0] 25)
 simp only [World.size_alloc] at g3 g4
 exact ⟨((h.alloc hs _).alloc (by simp; omega) _).alloc (by simp; omega) _, blk_alloc (blk_alloc g2 _) _, blk_alloc g3 _, g4, id, id, id, hs, by omega, by omega⟩
theorem R_put3 {base e : Nat} {ok : Nat → Prop} {v v2 v3 v4 : Value} {l : List Int} (h : Kd.R (Kd.int .i64) e W base ok v l) (hi : IR w C2 C3 C4 own W u2 u3 u4) (hn : ∀ b, ok b → b ≠ C2 ∧ b ≠ C3 ∧ b ≠ C4) : Kd.R (Kd.int .i64) e (((W.setCell ⟨C2, 0, none⟩ v2).setCell ⟨C3, 0, none⟩ v3).setCell ⟨C4, 0, none⟩ v4) base ok v l := by
 refine Kd.R_step h fun b hb hlt => ?_
 obtain ⟨n2, n3, n4⟩ := hn b hb
 rw [Below.heap_setCell _ ⟨C4, 0, none⟩ v4 b n4, Below.heap_setCell _ ⟨C3, 0, none⟩ v3 b n3, Below.heap_setCell _ ⟨C2, 0, none⟩ v2 b n2]
theorem S_put3 {base e : Nat} {ok : Nat → Prop} {v v2 v3 v4 : Value} {l : List (List Int)} (h : Kd.S (Kd.slice 3 (Kd.int .i64)) e W base ok v l) (hi : IR w C2 C3 C4 own W u2 u3 u4) (hn : ∀ b, ok b → b ≠ C2 ∧ b ≠ C3 ∧ b ≠ C4) : Kd.S (Kd.slice 3 (Kd.int .i64)) e (((W.setCell ⟨C2, 0, none⟩ v2).setCell ⟨C3, 0, none⟩ v3).setCell ⟨C4, 0, none⟩ v4) base ok v l := by
 refine Kd.S_step h fun b hb hlt => ?_
 obtain ⟨n2, n3, n4⟩ := hn b hb
 rw [Below.heap_setCell _ ⟨C4, 0, none⟩ v4 b n4, Below.heap_setCell _ ⟨C3, 0, none⟩ v3 b n3, Below.heap_setCell _ ⟨C2, 0, none⟩ v2 b n2]
theorem S_stableL {base b0 e : Nat} {p : Nat → Prop} {v : Value} {l : List (List Int)} (h : Kd.S (Kd.slice 3 (Kd.int .i64)) e W base (fun b => ¬ own b ∧ p b) v l) (hk : KeptL b0 own W W') (hn : ∀ b, own' b → own b ∨ W.heap.size ≤ b) : Kd.S (Kd.slice 3 (Kd.int .i64)) e W' base (fun b => ¬ own' b ∧ p b) v l := by
 refine Kd.S_mono (Kd.S_step (Kd.S_bound h) fun b hb hlt => ?_) fun b hb => ⟨fun ho => (hn b ho).elim hb.1.1 (by have := hb.2.2.1; omega), hb.1.2⟩
 obtain ⟨⟨hb1, _⟩, _, _, q, _, cells, hc⟩ := hb
 rw [hk.cells hc hb1, hc]
theorem S_putD {base e : Nat} {q p : Nat → Prop} {v : Value} {l : List (List Int)} (h : Kd.S (Kd.slice 3 (Kd.int .i64)) e W base (fun b => q b ∧ p b) v l) (hk : W.heap[D]? = some (.deferred x)) (o : Obj) : Kd.S (Kd.slice 3 (Kd.int .i64)) e (W.putObj D o) base p v l := by
 refine Kd.S_mono (Kd.S_step (Kd.S_bound h) fun b hb hlt => ?_) fun b hb => hb.1.2
 obtain ⟨_, _, _, q, _, cells, hc⟩ := hb
 exact World.putObj_heap_other fun e => by subst e; rw [hc] at hk; cases hk
end
theorem res_cells3 {fn : Func} (hf : fn.results = #[.cell 2 24, .cell 3 28, .cell 4 25]) {tmps : Array Value} {C2 C3 C4 : Nat} (h2 : tmps.getD 2 undef = .pointer (some ⟨C2, 0, none⟩)) (h3 : tmps.getD 3 undef = .pointer (some ⟨C3, 0, none⟩)) (h4 : tmps.getD 4 undef = .pointer (some ⟨C4, 0, none⟩)) {W : World} {v2 : Value} {A : Option Addr} {n c : Nat} {r : Int}
  (c2 : W.heap[C2]? = some (.cells #[v2] 24 (0, 0))) (c3 : W.cell? ⟨C3, 0, none⟩ = some (.slice A n c)) (c4 : W.cell? ⟨C4, 0, none⟩ = some (.int .i64 r)) : (results fn tmps).run Try.prog W = .ok (.tuple #[.agg #[v2], .slice A n c, .int .i64 r]) W := by
 have h2' : tmps[2]?.getD undef = .pointer (some ⟨C2, 0, none⟩) := by simpa using h2
 have h3' : tmps[3]?.getD undef = .pointer (some ⟨C3, 0, none⟩) := by simpa using h3
 have h4' : tmps[4]?.getD undef = .pointer (some ⟨C4, 0, none⟩) := by simpa using h4
 have hl := run_loadVar_row (P := Try.prog) W C2 24 24 #[v2] (0, 0) _ c2 Try.underlying24 rfl (by kernel_rfl)
 simp only [results, hf]
 simp [h2', h3', h4', asAddr, hl]
 simp [go_sem, c3, c4]
def roadS (k : Nat) : List (List (List Int)) → Option (List (List Int) × List Int × Int)
 | [] => none
 | b :: r => (reset_Reset.f k b).bind fun q => if q.2 = 0 then (color_copied.f k b).bind fun c => some (c, q.1, 0) else roadS k r
def color_Road.f (k : Nat) (a0 : List (List Int)) : Option (List (List Int) × List Int × Int) := (net_Period.f k a0).bind fun p => if p.2 = 0 then (if 1 < p.1 then some ([], [], 4) else (color_all.f k a0).bind fun os => (color_some.f k os 300).bind fun L => roadS k L) else some ([], [], p.2)
theorem roadS.mono (k : Nat) : ∀ L, LeO (roadS k L) (roadS (k + 1) L)
 | [] => LeO.refl _
 | b :: r => by
  unfold roadS
  exact LeO.bind (reset_Reset.mono _ _) fun q => LeO.ite (LeO.bind (color_copied.mono _ _) fun c => LeO.refl _) (roadS.mono k r)
theorem color_Road.mono : ∀ a0 k, LeO (color_Road.f k a0) (color_Road.f (k + 1) a0) := by
 intro a0 k
 unfold color_Road.f
 repeat' first
 | (with_reducible exact net_Period.mono _ _)
 | (with_reducible exact color_all.mono _ _)
 | (with_reducible exact color_some.mono _ _ _)
 | (with_reducible exact roadS.mono _ _)
 | (with_reducible exact LeO.refl _)
 | (with_reducible refine LeO.ite ?_ ?_)
 | (with_reducible refine LeO.bind ?_ (fun _ => ?_))
set_option maxHeartbeats 8000000 in
set_option maxRecDepth 100000 in
theorem color_Road.calls (k : Nat) (A0_0 : Option Addr) (c0_0 : Nat) (l0_0 : List (List Int)) (r1 : List (List Int)) (r2 : List Int) (r3 : Int) (w : World) (hr0_0 : Kd.C (Kd.slice 3 (Kd.int .i64)) w A0_0 l0_0.length l0_0) (hc0_0 : l0_0.length ≤ c0_0) (h : color_Road.f k l0_0 = some (r1, r2, r3)) :
  Calls Try.prog 49 #[.agg #[.slice A0_0 l0_0.length c0_0]] w fun e w' => ∃ v0_ v1_ : Value, e = .returned (.tuple #[.agg #[v0_], v1_, .int .i64 r3]) ∧ Kd.S (Kd.slice 3 (Kd.int .i64)) 28 w' w.heap.size (fun k_ => some k_ ≠ (v1_ : Value).ownBlock) v0_ r1 ∧ Kd.R (Kd.int .i64) 3 w' w.heap.size (fun _ => True) v1_ r2 ∧ Below w.heap.size w w' := by
 have HR := am hr0_0
 have HC := am hc0_0
 have HB0 := Below.refl w.heap.size w
 clear hr0_0 hc0_0
 obtain ⟨⟨d, e⟩, he, h⟩ := Option.bind_eq_some_iff.1 h
 have HE := am he
 have H := am h
 clear he h
 refine callsIn_wide.1 (callsIn_of_wp_marks (n := 0) Try.func49 rfl trivial (wpIn_wide.2 ?_) rfl)
 simp only [Try.ntmps49, List.size_toArray, List.length_cons, List.length_nil, Nat.reduceAdd, Nat.reduceSub, Array.replicate_succ, Array.replicate_zero, List.push_toArray, List.append_toArray, List.nil_append, List.cons_append]
 by_cases de : e = 0
 rotate_left
 ·have h1 := H.out
  simp only [if_neg de, Option.some.injEq, Prod.mk.injEq] at h1
  obtain ⟨rfl, rfl, rfl⟩ := h1
  have d' : (e == 0) = false := by simp [de]
  clear H
  go_wp2_with (first | ((with_reducible refine gate_dst (N := 1) rfl ?_); refine box_event ?hg (N := 1) ?hd (cs := #[.slice A0_0 l0_0.length c0_0]) (t := 24) ?hr ?_; (case hd => rfl); (case hg => rfl); (case hr => first | (go_simp; done) | (go_simp; rfl)); intro B hBe w1 hbox hb1; have HBE := am (show w.heap.size ≤ B by omega); have HB1 := am (below_step HB0 hb1); have HI1 := am (IR.start HB1.out); have HX := am (show (((w1.alloc (.cells #[.slice none 0 0] 24)).alloc (.cells #[.slice none 0 0] 28)).alloc (.cells #[.int .i64 0] 25)).heap[B]? = some (.cells #[.slice A0_0 l0_0.length c0_0] 24 (0, 0)) from blk_alloc (blk_alloc (blk_alloc hbox _) _) _); have hcb : (((w1.alloc (.cells #[.slice none 0 0] 24)).alloc (.cells #[.slice none 0 0] 28)).alloc (.cells #[.int .i64 0] 25)).cell? ⟨B, 0, none⟩ = some (.slice A0_0 l0_0.length c0_0) := (blk_cell HX.out 0).trans rfl; clear hbox hb1 hBe)  | (go_at_call 25; refine (net_Period.calls _ _ _ _ _ _ _ (Kd.C_below HR.out HI1.out.below) HC.out HE.out).mono ?_; rintro e2 w2 ⟨rfl, hb2⟩; have HI2 := am (HI1.out.next hb2); have hx2 := blk_below HX.out hb2; have HX2 := am hx2; have hcb2 : w2.cell? ⟨B, 0, none⟩ = some (.slice A0_0 l0_0.length c0_0) := (blk_cell hx2 0).trans rfl; have hc2 := (blk_cell HI2.out.c2 0).trans (rfl : _ = some (Value.slice none 0 0)); have hf2 := blk_frozen HI2.out.c2 0; have hc3 := (blk_cell HI2.out.c3 0).trans (rfl : _ = some (Value.slice none 0 0)); have hf3 := blk_frozen HI2.out.c3 0; have hc4 := (blk_cell HI2.out.c4 0).trans (rfl : _ = some (Value.int .i64 0)); have hf4 := blk_frozen HI2.out.c4 0; clear hb2 hx2))
  have HI4 := am (HI2.out.put (by omega) (by omega) (by omega) (.slice none 0 0) (.slice none 0 0) (.int .i64 e))
  refine ⟨_, res_cells3 rfl rfl rfl rfl HI4.out.c2 ((blk_cell HI4.out.c3 0).trans rfl) ((blk_cell HI4.out.c4 0).trans rfl), _, _, rfl, Kd.S_nil _ _ _ _ _, Kd.R_nil _ _ _ _ _, HI4.out.below⟩
 subst de
 have d' : ((0 : Int) == 0) = true := rfl
 have H1 := H.out
 simp only [if_true] at H1
 by_cases dd : 1 < d
 ·rw [if_pos dd] at H1
  simp only [Option.some.injEq, Prod.mk.injEq] at H1
  obtain ⟨rfl, rfl, rfl⟩ := H1
  have d1 : decide (1 < d) = true := decide_eq_true dd
  clear H dd
  go_wp2_with (first | ((with_reducible refine gate_dst (N := 1) rfl ?_); refine box_event ?hg (N := 1) ?hd (cs := #[.slice A0_0 l0_0.length c0_0]) (t := 24) ?hr ?_; (case hd => rfl); (case hg => rfl); (case hr => first | (go_simp; done) | (go_simp; rfl)); intro B hBe w1 hbox hb1; have HBE := am (show w.heap.size ≤ B by omega); have HB1 := am (below_step HB0 hb1); have HI1 := am (IR.start HB1.out); have HX := am (show (((w1.alloc (.cells #[.slice none 0 0] 24)).alloc (.cells #[.slice none 0 0] 28)).alloc (.cells #[.int .i64 0] 25)).heap[B]? = some (.cells #[.slice A0_0 l0_0.length c0_0] 24 (0, 0)) from blk_alloc (blk_alloc (blk_alloc hbox _) _) _); have hcb : (((w1.alloc (.cells #[.slice none 0 0] 24)).alloc (.cells #[.slice none 0 0] 28)).alloc (.cells #[.int .i64 0] 25)).cell? ⟨B, 0, none⟩ = some (.slice A0_0 l0_0.length c0_0) := (blk_cell HX.out 0).trans rfl; clear hbox hb1 hBe)  | (go_at_call 25; refine (net_Period.calls _ _ _ _ _ _ _ (Kd.C_below HR.out HI1.out.below) HC.out HE.out).mono ?_; rintro e2 w2 ⟨rfl, hb2⟩; have HI2 := am (HI1.out.next hb2); have hx2 := blk_below HX.out hb2; have HX2 := am hx2; have hcb2 : w2.cell? ⟨B, 0, none⟩ = some (.slice A0_0 l0_0.length c0_0) := (blk_cell hx2 0).trans rfl; have hc2 := (blk_cell HI2.out.c2 0).trans (rfl : _ = some (Value.slice none 0 0)); have hf2 := blk_frozen HI2.out.c2 0; have hc3 := (blk_cell HI2.out.c3 0).trans (rfl : _ = some (Value.slice none 0 0)); have hf3 := blk_frozen HI2.out.c3 0; have hc4 := (blk_cell HI2.out.c4 0).trans (rfl : _ = some (Value.int .i64 0)); have hf4 := blk_frozen HI2.out.c4 0; clear hb2 hx2))
  have HI4 := am (HI2.out.put (by omega) (by omega) (by omega) (.slice none 0 0) (.slice none 0 0) (.int .i64 4))
  refine ⟨_, res_cells3 rfl rfl rfl rfl HI4.out.c2 ((blk_cell HI4.out.c3 0).trans rfl) ((blk_cell HI4.out.c4 0).trans rfl), _, _, rfl, Kd.S_nil _ _ _ _ _, Kd.R_nil _ _ _ _ _, HI4.out.below⟩
 ·rw [if_neg dd] at H1
  have d1 : decide (1 < d) = false := decide_eq_false dd
  obtain ⟨os, ho, H2⟩ := Option.bind_eq_some_iff.1 H1
  obtain ⟨L, hL, hF⟩ := Option.bind_eq_some_iff.1 H2
  have HO := am ho
  have HL := am hL
  have HF := am hF
  clear H H1 H2 ho hL hF dd
  go_wp2_with (first | ((with_reducible refine gate_dst (N := 1) rfl ?_); refine box_event ?hg (N := 1) ?hd (cs := #[.slice A0_0 l0_0.length c0_0]) (t := 24) ?hr ?_; (case hd => rfl); (case hg => rfl); (case hr => first | (go_simp; done) | (go_simp; rfl)); intro B hBe w1 hbox hb1; have HBE := am (show w.heap.size ≤ B by omega); have HB1 := am (below_step HB0 hb1); have HI1 := am (IR.start HB1.out); have HX := am (show (((w1.alloc (.cells #[.slice none 0 0] 24)).alloc (.cells #[.slice none 0 0] 28)).alloc (.cells #[.int .i64 0] 25)).heap[B]? = some (.cells #[.slice A0_0 l0_0.length c0_0] 24 (0, 0)) from blk_alloc (blk_alloc (blk_alloc hbox _) _) _); have hcb : (((w1.alloc (.cells #[.slice none 0 0] 24)).alloc (.cells #[.slice none 0 0] 28)).alloc (.cells #[.int .i64 0] 25)).cell? ⟨B, 0, none⟩ = some (.slice A0_0 l0_0.length c0_0) := (blk_cell HX.out 0).trans rfl; clear hbox hb1 hBe)  | (go_at_call 25; refine (net_Period.calls _ _ _ _ _ _ _ (Kd.C_below HR.out HI1.out.below) HC.out HE.out).mono ?_; rintro e2 w2 ⟨rfl, hb2⟩; have HI2 := am (HI1.out.next hb2); have hx2 := blk_below HX.out hb2; have HX2 := am hx2; have hcb2 : w2.cell? ⟨B, 0, none⟩ = some (.slice A0_0 l0_0.length c0_0) := (blk_cell hx2 0).trans rfl; have hc2 := (blk_cell HI2.out.c2 0).trans (rfl : _ = some (Value.slice none 0 0)); have hf2 := blk_frozen HI2.out.c2 0; have hc3 := (blk_cell HI2.out.c3 0).trans (rfl : _ = some (Value.slice none 0 0)); have hf3 := blk_frozen HI2.out.c3 0; have hc4 := (blk_cell HI2.out.c4 0).trans (rfl : _ = some (Value.int .i64 0)); have hf4 := blk_frozen HI2.out.c4 0; clear hb2 hx2)  | (go_at_call 86; refine (color_all.calls _ _ _ _ _ _ (Kd.C_below HR.out HI2.out.below) HC.out HO.out).mono ?_; rintro e3 w3 ⟨v0, rfl, hR3, hb3⟩; obtain ⟨Ao, co, rfl⟩ := Kd.R_slice hR3; have HI3 := am (HI2.out.next hb3); have HS3 := am hb3.size; have HR3 := am hR3; clear hR3 hb3)  | (go_at_call 88; refine (color_some.makes _ _ _ _ _).mono ?_; rintro e4 w4 ⟨Ob, Mb, rfl, hO, hM, xO, xM, hb4⟩; have HI4 := am (HI3.out.next hb4); have HR4 := am (Kd.R_below HR3.out hb4); have HS34 := am hb4.size; have HO4 := am hO; have HM4 := am hM; have XO := am xO; have XM := am xM; clear hO hM xO xM hb4))
  have HS2 : Aside0 (w1.heap.size + 2 < w2.heap.size) := ⟨blk_ltS HI2.out.c4⟩
  have HN23 : Aside0 (w1.heap.size ≠ w1.heap.size + 1) := ⟨by omega⟩
  have HN24 : Aside0 (w1.heap.size ≠ w1.heap.size + 2) := ⟨by omega⟩
  have HN34 : Aside0 (w1.heap.size + 1 ≠ w1.heap.size + 2) := ⟨by omega⟩
  have HL2 : Aside0 (w1.heap.size < w2.heap.size) := ⟨by have := HS2.out; omega⟩
  have HL3 : Aside0 (w1.heap.size + 1 < w2.heap.size) := ⟨by have := HS2.out; omega⟩
  have HO5 : Aside0 (w2.heap.size ≤ Ob) := ⟨Nat.le_trans HS3.out HO4.out⟩
  have HM5 : Aside0 (w2.heap.size ≤ Mb) := ⟨Nat.le_trans HS3.out HM4.out⟩
  have HLW2 : Aside0 (w.heap.size ≤ w2.heap.size) := ⟨HI2.out.below.size⟩
  have HS4 : Aside0 (w2.heap.size ≤ w4.heap.size) := ⟨Nat.le_trans HS3.out HS34.out⟩
  clear HI1 HI2 HI3 HR3 HX HX2 HB1 hcb hcb2 hc2 hf2 hc3 hf3 hc4 hf4 HO4 HM4 HS3 HS34 HBE
  generalize w1.heap.size + 2 = C4 at HI4 HS2 HN24 HN34 ⊢
  generalize w1.heap.size + 1 = C3 at HI4 HN23 HN34 HL3 ⊢
  generalize w1.heap.size = C2 at HI4 HN23 HN24 HL2 ⊢
  generalize w2.heap.size = lo at HS2 HL2 HL3 HO5 HM5 HLW2 HS4 HR4
  have HRC : Aside0 (os.length ≤ co ∧ Kd.C (Kd.slice 28 (Kd.slice 3 (Kd.int .i64))) (shows (fun b => lo ≤ b ∧ b < w4.heap.size) w4) Ao os.length os) := by
   obtain ⟨_, h1, h2⟩ := Kd.R_reads' (Kd.R_step (w1 := shows (fun b => lo ≤ b ∧ b < w4.heap.size) w4) (Kd.R_bound HR4.out) (fun b hb hlt => shows_at (fun b => lo ≤ b ∧ b < w4.heap.size) w4 b ⟨hb.2.1, hb.2.2.1⟩))
   exact ⟨⟨h1, h2⟩⟩
  have seq := (color_some.seq k Ao co os 300 L Ob Mb w.heap.size (fun b => lo ≤ b ∧ b < w4.heap.size) (shows (fun b => lo ≤ b ∧ b < w4.heap.size) w4) ⟨HO5.out, blk_ltS XO.out⟩ ⟨HM5.out, blk_ltS XM.out⟩ (shows_only _ _) HRC.out.2 HRC.out.1 HL.out).seqP
  refine wp_rangeFunc_iter (base := w.heap.size) (own0 := fun b => lo ≤ b ∧ b < w4.heap.size) rfl (enters_ Try.func109 (by kernel_rfl) rfl) seq HI4.out.below.size (fun b hb => ⟨hb.2, Nat.le_trans HLW2.out hb.1⟩) (fun W hW => ⟨Nat.le_trans HI4.out.below.size hW.size, fun b hq => ⟨Nat.lt_of_lt_of_le hq.2 hW.size, (hW.block b hq.2).trans (shows_at (fun b => lo ≤ b ∧ b < w4.heap.size) w4 b hq).symm⟩, blk_below XO.out hW, blk_below XM.out hW⟩) (fun own x W vs he => by obtain ⟨_, A, c, rfl, _⟩ := he; rfl)
   (fun own pre W => IR w C2 C3 C4 own W (.slice none 0 0) (.slice none 0 0) (.int .i64 0) ∧ ∃ rest, L = pre ++ rest ∧ roadS k rest = some (r1, r2, r3))
   (fun c own pre W => c = .ret ∧ ∃ v2 A n cp, IR w C2 C3 C4 own W v2 (.slice A n cp) (.int .i64 r3) ∧ Kd.S (Kd.slice 3 (Kd.int .i64)) 28 W w.heap.size (fun b => ¬ own b ∧ some b ≠ (Value.slice A n cp).ownBlock) v2 r1 ∧ Kd.R (Kd.int .i64) 3 W w.heap.size (fun b => ¬ own b) (.slice A n cp) r2)
   ?stI ?stX ?start ?round ?done ?stop
  case stI =>
   rintro own own' s A B ⟨hi, hr⟩ hk hs hn
   exact ⟨hi.stable hk hs hn, hr⟩
  case stX =>
   rintro c own own' s A B ⟨rfl, v2, A1, n1, c1, hi, hS, hr⟩ hk hs hn
   exact ⟨rfl, v2, A1, n1, c1, hi.stable hk hs hn, S_stableL hS hk hn, R_stableL hr hk hn⟩
  case start => exact ⟨⟨HI4.out.below, HI4.out.c2, HI4.out.c3, HI4.out.c4, fun h => absurd h.1 (by have := HL2.out; omega), fun h => absurd h.1 (by have := HL3.out; omega), fun h => absurd h.1 (by have := HS2.out; omega), HI4.out.h2, HI4.out.h3, HI4.out.h4⟩, L, rfl, HF.out⟩
  case done =>
   rintro D own W ⟨hi, rest, hL, hF⟩ hbs hK hD
   obtain rfl : rest = [] := List.append_cancel_left (hL.symm.trans (List.append_nil L).symm)
   cases hF
  case stop =>
   rintro D c own pre W ⟨rfl, v2, A1, n1, c1, hi, hS, hR⟩ hbs hK hD
   have HI := am hi
   have HK := am hK
   have HRV := am hR
   have HSV := am hS
   have HD := am (show w.heap.size ≤ D from Nat.le_trans HI4.out.below.size hD)
   clear hi hK hR hS seq
   go_wp2_with fail
   have HI5 := HI.out.putD HK.out HD.out (.deferred none)
   refine ⟨by simp, .inl ⟨_, _, rfl, run_takeDeferred HK.out, ?_⟩⟩
   exact ⟨_, res_cells3 rfl rfl rfl rfl HI5.c2 ((blk_cell HI5.c3 0).trans rfl) ((blk_cell HI5.c4 0).trans rfl), _, _, rfl, S_putD HSV.out HK.out _, R_putD HRV.out HK.out _, HI5.below⟩
  case round =>
   rintro l D own pre x vs W ⟨hi, rest, hL, hF⟩ ⟨rest2, hL2⟩ ⟨hob, Ax, cx, rfl, hcx, hCx⟩ ⟨r, hr⟩ ⟨dd, hd⟩ hl hD hnl hnD hbs
   obtain rfl : rest = x :: rest2 := List.append_cancel_left (hL.symm.trans hL2)
   obtain ⟨⟨q1, q2⟩, hq, hF2⟩ := Option.bind_eq_some_iff.1 hF
   have HQ := am hq
   have HF2 := am hF2
   have HP : Aside0 (L = pre ++ [x] ++ rest2) := ⟨by rw [hL2]; simp⟩
   have HCX := am hcx
   have HBS := am hbs
   have HLW := am (show w.heap.size ≤ l from Nat.le_trans HI4.out.below.size hl)
   have hlW := blk_ltS hr
   have n2l : C2 ≠ l := fun e => by subst e; rw [hi.c2] at hr; cases hr
   have n3l : C3 ≠ l := fun e => by subst e; rw [hi.c3] at hr; cases hr
   have n4l : C4 ≠ l := fun e => by subst e; rw [hi.c4] at hr; cases hr
   have n2D : C2 ≠ D := fun e => by subst e; rw [hi.c2] at hd; cases hd
   have n3D : C3 ≠ D := fun e => by subst e; rw [hi.c3] at hd; cases hd
   have n4D : C4 ≠ D := fun e => by subst e; rw [hi.c4] at hd; cases hd
   have K2 : Aside0 (¬ keepR w.heap.size own l D C2) := ⟨fun h => by rcases h with (h | h) | h | h; exact absurd hi.h2 (by omega); exact hi.n2 h; exact n2l h; exact n2D h⟩
   have K3 : Aside0 (¬ keepR w.heap.size own l D C3) := ⟨fun h => by rcases h with (h | h) | h | h; exact absurd hi.h3 (by omega); exact hi.n3 h; exact n3l h; exact n3D h⟩
   have K4 : Aside0 (¬ keepR w.heap.size own l D C4) := ⟨fun h => by rcases h with (h | h) | h | h; exact absurd hi.h4 (by omega); exact hi.n4 h; exact n4l h; exact n4D h⟩
   have HB1 : Aside0 (Below W.heap.size W (W.alloc (.cells #[.slice Ax x.length cx] 24))) := ⟨ba (Below.refl _ _) _⟩
   have HX1 := am (World.alloc_heap_new W (.cells #[.slice Ax x.length cx] 24))
   have HI1 := am (hi.next HB1.out)
   have HC1 := am (Kd.C_below hCx HB1.out)
   have HOW : Aside0 (∀ b, own b → b < W.heap.size) := ⟨hob⟩
   have HNL : Aside0 (W.heap.size ≠ l) := ⟨by omega⟩
   clear hi hbs hq hF2 hF hL hL2 hd hr n2l n3l n4l n2D n3D n4D hCx hcx hob hlW seq
   rw [zip1]
   simp only [List.setIfInBounds_toArray, List.set_cons_succ, List.set_cons_zero]
   gi_wp2
   refine ⟨RoundKept.of_below HB1.out, ?_⟩
   rintro W2 r0 hr1 r1' rfl
   have HK2 := am (KeptL.putObj (own := own) (.loop r1') hr1 HLW.out)
   have HI2 := am (HI1.out.stable HK2.out HBS.out fun b hb => Or.inl hb)
   have HC2 := am (C_rows_cells (cells_putLoop hr1 (.loop r1')) HC1.out)
   have HX2 : Aside0 (((W.alloc (.cells #[.slice Ax x.length cx] 24)).putObj l (.loop r1')).heap[W.heap.size]? = some (.cells #[.slice Ax x.length cx] 24 (0, 0))) := ⟨(World.putObj_heap_other HNL.out).trans HX1.out⟩
   have HOW2 : Aside0 (∀ b, own b → b < ((W.alloc (.cells #[.slice Ax x.length cx] 24)).putObj l (.loop r1')).heap.size) := ⟨fun b hb => by have := HOW.out b hb; simp; omega⟩
   clear HK2 HI1 HC1 HX1 hr1 HOW HB1
   generalize (W.alloc (.cells #[.slice Ax x.length cx] 24)).putObj l (.loop r1') = W2 at HI2 HC2 HX2 HOW2 ⊢
   generalize W.heap.size = X at HX2 HNL ⊢
   have hcx2 : W2.cell? ⟨X, 0, none⟩ = some (.slice Ax x.length cx) := (blk_cell HX2.out 0).trans rfl
   by_cases dq : q2 = 0
   ·subst dq
    obtain ⟨cp, hcp, hF3⟩ := Option.bind_eq_some_iff.1 (show ((color_copied.f k x).bind fun c => some (c, q1, (0 : Int))) = some (r1, r2, r3) from by have h1 := HF2.out; simp only [if_true] at h1; exact h1)
    simp only [Option.some.injEq, Prod.mk.injEq] at hF3
    obtain ⟨rfl, rfl, rfl⟩ := hF3
    have HCP := am hcp
    have b1 : ((0 : Int) == 0) = true := rfl
    clear HF2 hcp
    gi_wp2_with (first  | (refine ⟨trivial, rfl, ?_⟩; refine (CallsIn.inRound l (callsIn_wide.2 (reset_Reset.calls _ _ _ _ _ _ _ HC2.out HCX.out HQ.out))).mono ?_; rintro e3 W3 ⟨v1, rfl, hv1, hb3⟩; obtain ⟨A1, c1, rfl⟩ := Kd.R_slice hv1; have HB3 := am hb3; have HI3 := am (HI2.out.next hb3); have HV3 := am hv1; have HC3 := am (Kd.C_below HC2.out hb3); have HX3 := am (blk_below HX2.out hb3); have hcx3 : W3.cell? ⟨X, 0, none⟩ = some (.slice Ax x.length cx) := (blk_cell HX3.out 0).trans rfl; clear hv1 hb3)  | (refine ⟨trivial, rfl, ?_⟩; refine (CallsIn.inRound l (callsIn_wide.2 (color_copied.calls _ _ _ _ _ _ HC3.out HCX.out HCP.out))).mono ?_; rintro e4 W4 ⟨v0, rfl, hv0, hb4⟩; obtain ⟨A0, c0, rfl⟩ := Kd.S_slice hv0; have HB4 := am (below_step HB3.out hb4); have HI4 := am (HI3.out.next hb4); have HV4 := am (Kd.R_below HV3.out hb4); have HW4 := am hv0; have hc2 := (blk_cell HI4.out.c2 0).trans (rfl : _ = some (Value.slice none 0 0)); have hf2 := blk_frozen HI4.out.c2 0; have ho3 := IR.o3 HI4.out HN23.out (.slice A0 cp.length c0); have hc3 := (blk_cell ho3 0).trans (rfl : _ = some (Value.slice none 0 0)); have hf3 := blk_frozen ho3 0; have ho4 := IR.o4 HI4.out HN24.out HN34.out (.slice A0 cp.length c0) (.slice A1 q1.length c1); have hc4 := (blk_cell ho4 0).trans (rfl : _ = some (Value.int .i64 0)); have hf4 := blk_frozen ho4 0; clear hv0 hb4 ho3 ho4))
    have HI5 := HI4.out.put HN23.out HN24.out HN34.out (.slice A0 cp.length c0) (.slice A1 q1.length c1) (.int .i64 0)
    have hk2 := blk_ltS HI2.out.c2
    have hk3 := blk_ltS HI2.out.c3
    have hk4 := blk_ltS HI2.out.c4
    refine ⟨(((RoundKept.of_below HB4.out).trans (RoundKept.set _ K2.out)).trans (RoundKept.set _ K3.out)).trans (RoundKept.set _ K4.out), rfl, _, _, _, _, HI5, ?_, ?_⟩
    ·have h3 := HB3.out.size
     refine Kd.S_mono (Kd.S_lower (S_put3 (Kd.S_bound HW4.out) HI4.out fun b hb => ?_) (Nat.le_trans HI2.out.below.size h3)) fun b hb => ⟨fun ho => ?_, fun he => ?_⟩
     ·have := hb.2.1
      exact ⟨by omega, by omega, by omega⟩
     ·have h1 := HOW2.out b ho
      have h2 := hb.2.1
      omega
     ·have h1 := ((Kd.R_bound HV3.out).1 b he.symm).2.2.1
      have h2 := hb.2.1
      omega
    ·refine Kd.R_mono (Kd.R_lower (R_put3 (Kd.R_bound HV4.out) HI4.out fun b hb => ?_) HI2.out.below.size) fun b hb ho => ?_
     ·have := hb.2.1
      exact ⟨by omega, by omega, by omega⟩
     ·have h1 := HOW2.out b ho
      have h2 := hb.2.1
      omega
   ·have hh := HF2.out
    simp only [if_neg dq] at hh
    have HF3 := am hh
    have b1 : (q2 == 0) = false := by simp [dq]
    clear HF2 hh dq
    gi_wp2_with (refine ⟨trivial, rfl, ?_⟩; refine (CallsIn.inRound l (callsIn_wide.2 (reset_Reset.calls _ _ _ _ _ _ _ HC2.out HCX.out HQ.out))).mono ?_; rintro e3 W3 ⟨v1, rfl, hv1, hb3⟩; obtain ⟨A1, c1, rfl⟩ := Kd.R_slice hv1; have HB3 := am hb3; have HI3 := am (HI2.out.next hb3); clear hv1 hb3)
    exact ⟨RoundKept.of_below HB3.out, HI3.out, rest2, HP.out, HF3.out⟩
end Go.Proofs.Ytjgdalhdiohclaa.Q
end
/-! Part QLaw05Awake -/
section
-- Written by xprint.py, a program of this session's, over the kit's print. Lean checks it.
namespace Go.Proofs.Ytjgdalhdiohclaa.Q
attribute [local go_sem] max2_int min2_int max_two min_two max_three min_three max_four min_four
set_option linter.unusedVariables false
set_option linter.unusedSimpArgs false

/-! ### mizmazelaw05_awake: function 45 -/
def mizmazelaw05_awake.f (k : Nat)  : Option (Bool) := (some (([(([1, 0] : List Int)), (([0, 1] : List Int))] : List (List Int)) : List (List Int))).bind fun y441 => ((color_Colorings.f k y441).bind fun bt445 => ((color_Colored.f k y441 (([(([0, 1] : List Int)), (([1, 0] : List Int))] : List (List Int)))).bind fun bt456 => ((color_Same.f k y441 bt456.1).bind fun bt461 => ((color_Road.f k y441).bind fun bt463 => ((color_Road.f k (([(([1, 1] : List Int)), (([2, 2] : List Int)), (([0, 0] : List Int))] : List (List Int)))).bind fun bt483 => (if bt445.2 = 0 then (if bt445.1 = 4 then (if bt456.2 = 0 then ((mizmazeref01_Sames.f k bt456.1 (([(([1, 0] : List Int)), (([1, 0] : List Int))] : List (List Int)))).bind fun t500 => (if t500 = true then (if bt461.2 = 0 then (if bt461.1 = true then (if bt463.2.2 = 0 then ((mizmazeref01_Valid.f k bt463.1).bind fun t501 => (if t501 = true then ((mizmazeref03_Resets.f k bt463.1 bt463.2.1).bind fun t502 => (if t502 = true then (some (bt483.2.2 == 4)) else (none))) else (none))) else (none)) else (none)) else (none)) else (none))) else (none)) else (none)) else (none)))))))
theorem mizmazelaw05_awake.mono : ∀ k, LeO (mizmazelaw05_awake.f k ) (mizmazelaw05_awake.f (k + 1) ) := by
 intro  k
 unfold mizmazelaw05_awake.f
 repeat' first
   | (with_reducible exact color_Colored.mono _ _ _)
   | (with_reducible exact color_Colorings.mono _ _)
   | (with_reducible exact color_Road.mono _ _)
   | (with_reducible exact color_Same.mono _ _ _)
   | (with_reducible exact mizmazeref01_Sames.mono _ _ _)
   | (with_reducible exact mizmazeref01_Valid.mono _ _)
   | (with_reducible exact mizmazeref03_Resets.mono _ _ _)
   | (with_reducible exact LeO.refl _)
   | (with_reducible exact LeO.none _)
   | (with_reducible refine LeO.ite ?_ ?_)
   | (with_reducible refine LeO.bind ?_ (fun _ => ?_))
   | exact color_Colored.mono _ _ _
   | exact color_Colorings.mono _ _
   | exact color_Road.mono _ _
   | exact color_Same.mono _ _ _
   | exact mizmazeref01_Sames.mono _ _ _
   | exact mizmazeref01_Valid.mono _ _
   | exact mizmazeref03_Resets.mono _ _ _
   | exact LeO.none _
   | refine LeO.ite ?_ ?_
   | refine LeO.bind ?_ (fun _ => ?_)
set_option maxHeartbeats 8000000 in
set_option maxRecDepth 100000 in
theorem mizmazelaw05_awake.calls (k : Nat)  (r : Bool) (w : World) (h : mizmazelaw05_awake.f k  = some r) :
    Calls Try.prog 45 #[] w fun e w' => e = .returned (.bool r) ∧ Below w.heap.size w w' := by
 have hu24 := Try.underlying24
 have HB := am (Below.refl w.heap.size w)
 have H : ((some (([(([1, 0] : List Int)), (([0, 1] : List Int))] : List (List Int)) : List (List Int))).bind fun y441 => ((color_Colorings.f k y441).bind fun bt445 => ((color_Colored.f k y441 (([(([0, 1] : List Int)), (([1, 0] : List Int))] : List (List Int)))).bind fun bt456 => ((color_Same.f k y441 bt456.1).bind fun bt461 => ((color_Road.f k y441).bind fun bt463 => ((color_Road.f k (([(([1, 1] : List Int)), (([2, 2] : List Int)), (([0, 0] : List Int))] : List (List Int)))).bind fun bt483 => (if bt445.2 = 0 then (if bt445.1 = 4 then (if bt456.2 = 0 then ((mizmazeref01_Sames.f k bt456.1 (([(([1, 0] : List Int)), (([1, 0] : List Int))] : List (List Int)))).bind fun t500 => (if t500 = true then (if bt461.2 = 0 then (if bt461.1 = true then (if bt463.2.2 = 0 then ((mizmazeref01_Valid.f k bt463.1).bind fun t501 => (if t501 = true then ((mizmazeref03_Resets.f k bt463.1 bt463.2.1).bind fun t502 => (if t502 = true then (some (bt483.2.2 == 4)) else (none))) else (none))) else (none)) else (none)) else (none)) else (none))) else (none)) else (none)) else (none)))))))) = some r := h
 clear h
 obtain ⟨y435, hy435⟩ : ∃ y_ : List Int, y_ = (([1, 0] : List Int)) := ⟨_, rfl⟩
 replace H : ((some (([y435, (([0, 1] : List Int))] : List (List Int)) : List (List Int))).bind fun y441 => ((color_Colorings.f k y441).bind fun bt445 => ((color_Colored.f k y441 (([(([0, 1] : List Int)), (([1, 0] : List Int))] : List (List Int)))).bind fun bt456 => ((color_Same.f k y441 bt456.1).bind fun bt461 => ((color_Road.f k y441).bind fun bt463 => ((color_Road.f k (([(([1, 1] : List Int)), (([2, 2] : List Int)), (([0, 0] : List Int))] : List (List Int)))).bind fun bt483 => (if bt445.2 = 0 then (if bt445.1 = 4 then (if bt456.2 = 0 then ((mizmazeref01_Sames.f k bt456.1 (([(([1, 0] : List Int)), (([1, 0] : List Int))] : List (List Int)))).bind fun t500 => (if t500 = true then (if bt461.2 = 0 then (if bt461.1 = true then (if bt463.2.2 = 0 then ((mizmazeref01_Valid.f k bt463.1).bind fun t501 => (if t501 = true then ((mizmazeref03_Resets.f k bt463.1 bt463.2.1).bind fun t502 => (if t502 = true then (some (bt483.2.2 == 4)) else (none))) else (none))) else (none)) else (none)) else (none)) else (none))) else (none)) else (none)) else (none)))))))) = some r := by first | (rw [hy435]; with_reducible exact H) | (have H2_ := (Option.bind_some _ _).symm.trans H; rw [hy435]; with_reducible exact H2_) | (have H2_ := (Option.bind_some _ _).symm.trans H; with_reducible exact H2_) | with_reducible exact H | (rw [hy435]; exact H) | exact H
 have Ny435 := am hy435
 clear hy435
 obtain ⟨y438, hy438⟩ : ∃ y_ : List Int, y_ = (([0, 1] : List Int)) := ⟨_, rfl⟩
 replace H : ((some (([y435, y438] : List (List Int)) : List (List Int))).bind fun y441 => ((color_Colorings.f k y441).bind fun bt445 => ((color_Colored.f k y441 (([(([0, 1] : List Int)), (([1, 0] : List Int))] : List (List Int)))).bind fun bt456 => ((color_Same.f k y441 bt456.1).bind fun bt461 => ((color_Road.f k y441).bind fun bt463 => ((color_Road.f k (([(([1, 1] : List Int)), (([2, 2] : List Int)), (([0, 0] : List Int))] : List (List Int)))).bind fun bt483 => (if bt445.2 = 0 then (if bt445.1 = 4 then (if bt456.2 = 0 then ((mizmazeref01_Sames.f k bt456.1 (([(([1, 0] : List Int)), (([1, 0] : List Int))] : List (List Int)))).bind fun t500 => (if t500 = true then (if bt461.2 = 0 then (if bt461.1 = true then (if bt463.2.2 = 0 then ((mizmazeref01_Valid.f k bt463.1).bind fun t501 => (if t501 = true then ((mizmazeref03_Resets.f k bt463.1 bt463.2.1).bind fun t502 => (if t502 = true then (some (bt483.2.2 == 4)) else (none))) else (none))) else (none)) else (none)) else (none)) else (none))) else (none)) else (none)) else (none)))))))) = some r := by first | (rw [hy438]; with_reducible exact H) | (have H2_ := (Option.bind_some _ _).symm.trans H; rw [hy438]; with_reducible exact H2_) | (have H2_ := (Option.bind_some _ _).symm.trans H; with_reducible exact H2_) | with_reducible exact H | (rw [hy438]; exact H) | exact H
 have Ny438 := am hy438
 clear hy438
 obtain ⟨y441, hy441⟩ : ∃ y_ : List (List Int), y_ = (([y435, y438] : List (List Int))) := ⟨_, rfl⟩
 replace H : ((color_Colorings.f k y441).bind fun bt445 => ((color_Colored.f k y441 (([(([0, 1] : List Int)), (([1, 0] : List Int))] : List (List Int)))).bind fun bt456 => ((color_Same.f k y441 bt456.1).bind fun bt461 => ((color_Road.f k y441).bind fun bt463 => ((color_Road.f k (([(([1, 1] : List Int)), (([2, 2] : List Int)), (([0, 0] : List Int))] : List (List Int)))).bind fun bt483 => (if bt445.2 = 0 then (if bt445.1 = 4 then (if bt456.2 = 0 then ((mizmazeref01_Sames.f k bt456.1 (([(([1, 0] : List Int)), (([1, 0] : List Int))] : List (List Int)))).bind fun t500 => (if t500 = true then (if bt461.2 = 0 then (if bt461.1 = true then (if bt463.2.2 = 0 then ((mizmazeref01_Valid.f k bt463.1).bind fun t501 => (if t501 = true then ((mizmazeref03_Resets.f k bt463.1 bt463.2.1).bind fun t502 => (if t502 = true then (some (bt483.2.2 == 4)) else (none))) else (none))) else (none)) else (none)) else (none)) else (none))) else (none)) else (none)) else (none))))))) = some r := by first | (rw [hy441]; with_reducible exact H) | (have H2_ := (Option.bind_some _ _).symm.trans H; rw [hy441]; with_reducible exact H2_) | (have H2_ := (Option.bind_some _ _).symm.trans H; with_reducible exact H2_) | with_reducible exact H | (rw [hy441]; exact H) | exact H
 have Ny441 := am hy441
 clear hy441
 replace H := Option.bind_eq_some_iff.mp H
 obtain ⟨⟨t445, t446⟩, A10, H⟩ := H
 replace H : ((color_Colored.f k y441 (([(([0, 1] : List Int)), (([1, 0] : List Int))] : List (List Int)))).bind fun bt456 => ((color_Same.f k y441 bt456.1).bind fun bt461 => ((color_Road.f k y441).bind fun bt463 => ((color_Road.f k (([(([1, 1] : List Int)), (([2, 2] : List Int)), (([0, 0] : List Int))] : List (List Int)))).bind fun bt483 => (if t446 = 0 then (if t445 = 4 then (if bt456.2 = 0 then ((mizmazeref01_Sames.f k bt456.1 (([(([1, 0] : List Int)), (([1, 0] : List Int))] : List (List Int)))).bind fun t500 => (if t500 = true then (if bt461.2 = 0 then (if bt461.1 = true then (if bt463.2.2 = 0 then ((mizmazeref01_Valid.f k bt463.1).bind fun t501 => (if t501 = true then ((mizmazeref03_Resets.f k bt463.1 bt463.2.1).bind fun t502 => (if t502 = true then (some (bt483.2.2 == 4)) else (none))) else (none))) else (none)) else (none)) else (none)) else (none))) else (none)) else (none)) else (none)))))) = some r := H
 have A1 := am A10
 clear A10
 obtain ⟨y447, hy447⟩ : ∃ y_ : List Int, y_ = (([0, 1] : List Int)) := ⟨_, rfl⟩
 replace H : ((color_Colored.f k y441 (([y447, (([1, 0] : List Int))] : List (List Int)))).bind fun bt456 => ((color_Same.f k y441 bt456.1).bind fun bt461 => ((color_Road.f k y441).bind fun bt463 => ((color_Road.f k (([(([1, 1] : List Int)), (([2, 2] : List Int)), (([0, 0] : List Int))] : List (List Int)))).bind fun bt483 => (if t446 = 0 then (if t445 = 4 then (if bt456.2 = 0 then ((mizmazeref01_Sames.f k bt456.1 (([(([1, 0] : List Int)), (([1, 0] : List Int))] : List (List Int)))).bind fun t500 => (if t500 = true then (if bt461.2 = 0 then (if bt461.1 = true then (if bt463.2.2 = 0 then ((mizmazeref01_Valid.f k bt463.1).bind fun t501 => (if t501 = true then ((mizmazeref03_Resets.f k bt463.1 bt463.2.1).bind fun t502 => (if t502 = true then (some (bt483.2.2 == 4)) else (none))) else (none))) else (none)) else (none)) else (none)) else (none))) else (none)) else (none)) else (none)))))) = some r := by first | (rw [hy447]; with_reducible exact H) | (have H2_ := (Option.bind_some _ _).symm.trans H; rw [hy447]; with_reducible exact H2_) | (have H2_ := (Option.bind_some _ _).symm.trans H; with_reducible exact H2_) | with_reducible exact H | (rw [hy447]; exact H) | exact H
 have Ny447 := am hy447
 clear hy447
 obtain ⟨y450, hy450⟩ : ∃ y_ : List Int, y_ = (([1, 0] : List Int)) := ⟨_, rfl⟩
 replace H : ((color_Colored.f k y441 (([y447, y450] : List (List Int)))).bind fun bt456 => ((color_Same.f k y441 bt456.1).bind fun bt461 => ((color_Road.f k y441).bind fun bt463 => ((color_Road.f k (([(([1, 1] : List Int)), (([2, 2] : List Int)), (([0, 0] : List Int))] : List (List Int)))).bind fun bt483 => (if t446 = 0 then (if t445 = 4 then (if bt456.2 = 0 then ((mizmazeref01_Sames.f k bt456.1 (([(([1, 0] : List Int)), (([1, 0] : List Int))] : List (List Int)))).bind fun t500 => (if t500 = true then (if bt461.2 = 0 then (if bt461.1 = true then (if bt463.2.2 = 0 then ((mizmazeref01_Valid.f k bt463.1).bind fun t501 => (if t501 = true then ((mizmazeref03_Resets.f k bt463.1 bt463.2.1).bind fun t502 => (if t502 = true then (some (bt483.2.2 == 4)) else (none))) else (none))) else (none)) else (none)) else (none)) else (none))) else (none)) else (none)) else (none)))))) = some r := by first | (rw [hy450]; with_reducible exact H) | (have H2_ := (Option.bind_some _ _).symm.trans H; rw [hy450]; with_reducible exact H2_) | (have H2_ := (Option.bind_some _ _).symm.trans H; with_reducible exact H2_) | with_reducible exact H | (rw [hy450]; exact H) | exact H
 have Ny450 := am hy450
 clear hy450
 obtain ⟨y453, hy453⟩ : ∃ y_ : List (List Int), y_ = (([y447, y450] : List (List Int))) := ⟨_, rfl⟩
 replace H : ((color_Colored.f k y441 y453).bind fun bt456 => ((color_Same.f k y441 bt456.1).bind fun bt461 => ((color_Road.f k y441).bind fun bt463 => ((color_Road.f k (([(([1, 1] : List Int)), (([2, 2] : List Int)), (([0, 0] : List Int))] : List (List Int)))).bind fun bt483 => (if t446 = 0 then (if t445 = 4 then (if bt456.2 = 0 then ((mizmazeref01_Sames.f k bt456.1 (([(([1, 0] : List Int)), (([1, 0] : List Int))] : List (List Int)))).bind fun t500 => (if t500 = true then (if bt461.2 = 0 then (if bt461.1 = true then (if bt463.2.2 = 0 then ((mizmazeref01_Valid.f k bt463.1).bind fun t501 => (if t501 = true then ((mizmazeref03_Resets.f k bt463.1 bt463.2.1).bind fun t502 => (if t502 = true then (some (bt483.2.2 == 4)) else (none))) else (none))) else (none)) else (none)) else (none)) else (none))) else (none)) else (none)) else (none)))))) = some r := by first | (rw [hy453]; with_reducible exact H) | (have H2_ := (Option.bind_some _ _).symm.trans H; rw [hy453]; with_reducible exact H2_) | (have H2_ := (Option.bind_some _ _).symm.trans H; with_reducible exact H2_) | with_reducible exact H | (rw [hy453]; exact H) | exact H
 have Ny453 := am hy453
 clear hy453
 replace H := Option.bind_eq_some_iff.mp H
 obtain ⟨⟨t456, t459⟩, A20, H⟩ := H
 replace H : ((color_Same.f k y441 t456).bind fun bt461 => ((color_Road.f k y441).bind fun bt463 => ((color_Road.f k (([(([1, 1] : List Int)), (([2, 2] : List Int)), (([0, 0] : List Int))] : List (List Int)))).bind fun bt483 => (if t446 = 0 then (if t445 = 4 then (if t459 = 0 then ((mizmazeref01_Sames.f k t456 (([(([1, 0] : List Int)), (([1, 0] : List Int))] : List (List Int)))).bind fun t500 => (if t500 = true then (if bt461.2 = 0 then (if bt461.1 = true then (if bt463.2.2 = 0 then ((mizmazeref01_Valid.f k bt463.1).bind fun t501 => (if t501 = true then ((mizmazeref03_Resets.f k bt463.1 bt463.2.1).bind fun t502 => (if t502 = true then (some (bt483.2.2 == 4)) else (none))) else (none))) else (none)) else (none)) else (none)) else (none))) else (none)) else (none)) else (none))))) = some r := H
 have A2 := am A20
 clear A20
 replace H := Option.bind_eq_some_iff.mp H
 obtain ⟨⟨t461, t462⟩, A30, H⟩ := H
 replace H : ((color_Road.f k y441).bind fun bt463 => ((color_Road.f k (([(([1, 1] : List Int)), (([2, 2] : List Int)), (([0, 0] : List Int))] : List (List Int)))).bind fun bt483 => (if t446 = 0 then (if t445 = 4 then (if t459 = 0 then ((mizmazeref01_Sames.f k t456 (([(([1, 0] : List Int)), (([1, 0] : List Int))] : List (List Int)))).bind fun t500 => (if t500 = true then (if t462 = 0 then (if t461 = true then (if bt463.2.2 = 0 then ((mizmazeref01_Valid.f k bt463.1).bind fun t501 => (if t501 = true then ((mizmazeref03_Resets.f k bt463.1 bt463.2.1).bind fun t502 => (if t502 = true then (some (bt483.2.2 == 4)) else (none))) else (none))) else (none)) else (none)) else (none)) else (none))) else (none)) else (none)) else (none)))) = some r := H
 have A3 := am A30
 clear A30
 replace H := Option.bind_eq_some_iff.mp H
 obtain ⟨⟨t463, t466, t469⟩, A40, H⟩ := H
 replace H : ((color_Road.f k (([(([1, 1] : List Int)), (([2, 2] : List Int)), (([0, 0] : List Int))] : List (List Int)))).bind fun bt483 => (if t446 = 0 then (if t445 = 4 then (if t459 = 0 then ((mizmazeref01_Sames.f k t456 (([(([1, 0] : List Int)), (([1, 0] : List Int))] : List (List Int)))).bind fun t500 => (if t500 = true then (if t462 = 0 then (if t461 = true then (if t469 = 0 then ((mizmazeref01_Valid.f k t463).bind fun t501 => (if t501 = true then ((mizmazeref03_Resets.f k t463 t466).bind fun t502 => (if t502 = true then (some (bt483.2.2 == 4)) else (none))) else (none))) else (none)) else (none)) else (none)) else (none))) else (none)) else (none)) else (none))) = some r := H
 have A4 := am A40
 clear A40
 obtain ⟨y471, hy471⟩ : ∃ y_ : List Int, y_ = (([1, 1] : List Int)) := ⟨_, rfl⟩
 replace H : ((color_Road.f k (([y471, (([2, 2] : List Int)), (([0, 0] : List Int))] : List (List Int)))).bind fun bt483 => (if t446 = 0 then (if t445 = 4 then (if t459 = 0 then ((mizmazeref01_Sames.f k t456 (([(([1, 0] : List Int)), (([1, 0] : List Int))] : List (List Int)))).bind fun t500 => (if t500 = true then (if t462 = 0 then (if t461 = true then (if t469 = 0 then ((mizmazeref01_Valid.f k t463).bind fun t501 => (if t501 = true then ((mizmazeref03_Resets.f k t463 t466).bind fun t502 => (if t502 = true then (some (bt483.2.2 == 4)) else (none))) else (none))) else (none)) else (none)) else (none)) else (none))) else (none)) else (none)) else (none))) = some r := by first | (rw [hy471]; with_reducible exact H) | (have H2_ := (Option.bind_some _ _).symm.trans H; rw [hy471]; with_reducible exact H2_) | (have H2_ := (Option.bind_some _ _).symm.trans H; with_reducible exact H2_) | with_reducible exact H | (rw [hy471]; exact H) | exact H
 have Ny471 := am hy471
 clear hy471
 obtain ⟨y474, hy474⟩ : ∃ y_ : List Int, y_ = (([2, 2] : List Int)) := ⟨_, rfl⟩
 replace H : ((color_Road.f k (([y471, y474, (([0, 0] : List Int))] : List (List Int)))).bind fun bt483 => (if t446 = 0 then (if t445 = 4 then (if t459 = 0 then ((mizmazeref01_Sames.f k t456 (([(([1, 0] : List Int)), (([1, 0] : List Int))] : List (List Int)))).bind fun t500 => (if t500 = true then (if t462 = 0 then (if t461 = true then (if t469 = 0 then ((mizmazeref01_Valid.f k t463).bind fun t501 => (if t501 = true then ((mizmazeref03_Resets.f k t463 t466).bind fun t502 => (if t502 = true then (some (bt483.2.2 == 4)) else (none))) else (none))) else (none)) else (none)) else (none)) else (none))) else (none)) else (none)) else (none))) = some r := by first | (rw [hy474]; with_reducible exact H) | (have H2_ := (Option.bind_some _ _).symm.trans H; rw [hy474]; with_reducible exact H2_) | (have H2_ := (Option.bind_some _ _).symm.trans H; with_reducible exact H2_) | with_reducible exact H | (rw [hy474]; exact H) | exact H
 have Ny474 := am hy474
 clear hy474
 obtain ⟨y477, hy477⟩ : ∃ y_ : List Int, y_ = (([0, 0] : List Int)) := ⟨_, rfl⟩
 replace H : ((color_Road.f k (([y471, y474, y477] : List (List Int)))).bind fun bt483 => (if t446 = 0 then (if t445 = 4 then (if t459 = 0 then ((mizmazeref01_Sames.f k t456 (([(([1, 0] : List Int)), (([1, 0] : List Int))] : List (List Int)))).bind fun t500 => (if t500 = true then (if t462 = 0 then (if t461 = true then (if t469 = 0 then ((mizmazeref01_Valid.f k t463).bind fun t501 => (if t501 = true then ((mizmazeref03_Resets.f k t463 t466).bind fun t502 => (if t502 = true then (some (bt483.2.2 == 4)) else (none))) else (none))) else (none)) else (none)) else (none)) else (none))) else (none)) else (none)) else (none))) = some r := by first | (rw [hy477]; with_reducible exact H) | (have H2_ := (Option.bind_some _ _).symm.trans H; rw [hy477]; with_reducible exact H2_) | (have H2_ := (Option.bind_some _ _).symm.trans H; with_reducible exact H2_) | with_reducible exact H | (rw [hy477]; exact H) | exact H
 have Ny477 := am hy477
 clear hy477
 obtain ⟨y480, hy480⟩ : ∃ y_ : List (List Int), y_ = (([y471, y474, y477] : List (List Int))) := ⟨_, rfl⟩
 replace H : ((color_Road.f k y480).bind fun bt483 => (if t446 = 0 then (if t445 = 4 then (if t459 = 0 then ((mizmazeref01_Sames.f k t456 (([(([1, 0] : List Int)), (([1, 0] : List Int))] : List (List Int)))).bind fun t500 => (if t500 = true then (if t462 = 0 then (if t461 = true then (if t469 = 0 then ((mizmazeref01_Valid.f k t463).bind fun t501 => (if t501 = true then ((mizmazeref03_Resets.f k t463 t466).bind fun t502 => (if t502 = true then (some (bt483.2.2 == 4)) else (none))) else (none))) else (none)) else (none)) else (none)) else (none))) else (none)) else (none)) else (none))) = some r := by first | (rw [hy480]; with_reducible exact H) | (have H2_ := (Option.bind_some _ _).symm.trans H; rw [hy480]; with_reducible exact H2_) | (have H2_ := (Option.bind_some _ _).symm.trans H; with_reducible exact H2_) | with_reducible exact H | (rw [hy480]; exact H) | exact H
 have Ny480 := am hy480
 clear hy480
 replace H := Option.bind_eq_some_iff.mp H
 obtain ⟨⟨t483, t486, t489⟩, A50, H⟩ := H
 replace H : (if t446 = 0 then (if t445 = 4 then (if t459 = 0 then ((mizmazeref01_Sames.f k t456 (([(([1, 0] : List Int)), (([1, 0] : List Int))] : List (List Int)))).bind fun t500 => (if t500 = true then (if t462 = 0 then (if t461 = true then (if t469 = 0 then ((mizmazeref01_Valid.f k t463).bind fun t501 => (if t501 = true then ((mizmazeref03_Resets.f k t463 t466).bind fun t502 => (if t502 = true then (some (t489 == 4)) else (none))) else (none))) else (none)) else (none)) else (none)) else (none))) else (none)) else (none)) else (none)) = some r := H
 have A5 := am A50
 clear A50
 by_cases c6 : t446 = 0
 rotate_left
 ·rw [if_neg c6] at H
  exact absurd H (by simp)

 rw [if_pos c6] at H
 have c6b0 : (t446 == 0) = true := beq_iff_eq.mpr c6
 have c6b1 : (t446 != 0) = false := bne_eq_false_iff_eq.mpr c6
 clear c6
 by_cases c7 : t445 = 4
 rotate_left
 ·rw [if_neg c7] at H
  exact absurd H (by simp)
 rw [if_pos c7] at H
 have c7b0 : (t445 == 4) = true := beq_iff_eq.mpr c7
 have c7b1 : (t445 != 4) = false := bne_eq_false_iff_eq.mpr c7
 clear c7
 by_cases c8 : t459 = 0
 rotate_left
 ·rw [if_neg c8] at H
  exact absurd H (by simp)
 rw [if_pos c8] at H
 have c8b0 : (t459 == 0) = true := beq_iff_eq.mpr c8
 have c8b1 : (t459 != 0) = false := bne_eq_false_iff_eq.mpr c8
 clear c8
 obtain ⟨y491, hy491⟩ : ∃ y_ : List Int, y_ = (([1, 0] : List Int)) := ⟨_, rfl⟩
 replace H : ((mizmazeref01_Sames.f k t456 (([y491, (([1, 0] : List Int))] : List (List Int)))).bind fun t500 => (if t500 = true then (if t462 = 0 then (if t461 = true then (if t469 = 0 then ((mizmazeref01_Valid.f k t463).bind fun t501 => (if t501 = true then ((mizmazeref03_Resets.f k t463 t466).bind fun t502 => (if t502 = true then (some (t489 == 4)) else (none))) else (none))) else (none)) else (none)) else (none)) else (none))) = some r := by first | (rw [hy491]; with_reducible exact H) | (have H2_ := (Option.bind_some _ _).symm.trans H; rw [hy491]; with_reducible exact H2_) | (have H2_ := (Option.bind_some _ _).symm.trans H; with_reducible exact H2_) | with_reducible exact H | (rw [hy491]; exact H) | exact H
 have Ny491 := am hy491
 clear hy491
 obtain ⟨y494, hy494⟩ : ∃ y_ : List Int, y_ = (([1, 0] : List Int)) := ⟨_, rfl⟩
 replace H : ((mizmazeref01_Sames.f k t456 (([y491, y494] : List (List Int)))).bind fun t500 => (if t500 = true then (if t462 = 0 then (if t461 = true then (if t469 = 0 then ((mizmazeref01_Valid.f k t463).bind fun t501 => (if t501 = true then ((mizmazeref03_Resets.f k t463 t466).bind fun t502 => (if t502 = true then (some (t489 == 4)) else (none))) else (none))) else (none)) else (none)) else (none)) else (none))) = some r := by first | (rw [hy494]; with_reducible exact H) | (have H2_ := (Option.bind_some _ _).symm.trans H; rw [hy494]; with_reducible exact H2_) | (have H2_ := (Option.bind_some _ _).symm.trans H; with_reducible exact H2_) | with_reducible exact H | (rw [hy494]; exact H) | exact H
 have Ny494 := am hy494
 clear hy494
 obtain ⟨y497, hy497⟩ : ∃ y_ : List (List Int), y_ = (([y491, y494] : List (List Int))) := ⟨_, rfl⟩
 replace H : ((mizmazeref01_Sames.f k t456 y497).bind fun t500 => (if t500 = true then (if t462 = 0 then (if t461 = true then (if t469 = 0 then ((mizmazeref01_Valid.f k t463).bind fun t501 => (if t501 = true then ((mizmazeref03_Resets.f k t463 t466).bind fun t502 => (if t502 = true then (some (t489 == 4)) else (none))) else (none))) else (none)) else (none)) else (none)) else (none))) = some r := by first | (rw [hy497]; with_reducible exact H) | (have H2_ := (Option.bind_some _ _).symm.trans H; rw [hy497]; with_reducible exact H2_) | (have H2_ := (Option.bind_some _ _).symm.trans H; with_reducible exact H2_) | with_reducible exact H | (rw [hy497]; exact H) | exact H
 have Ny497 := am hy497
 clear hy497
 replace H := Option.bind_eq_some_iff.mp H
 obtain ⟨t500, A90, H⟩ := H
 replace H : (if t500 = true then (if t462 = 0 then (if t461 = true then (if t469 = 0 then ((mizmazeref01_Valid.f k t463).bind fun t501 => (if t501 = true then ((mizmazeref03_Resets.f k t463 t466).bind fun t502 => (if t502 = true then (some (t489 == 4)) else (none))) else (none))) else (none)) else (none)) else (none)) else (none)) = some r := H
 have A9 := am A90
 clear A90
 by_cases c10 : t500 = true
 rotate_left
 ·replace c10 := Bool.eq_false_iff.mpr c10
  subst c10
  have H1 : (none) = some r := by rw [if_neg (show ¬ (false = true) by decide)] at H; exact H
  clear H
  have H := H1
  clear H1
  exact absurd H (by simp)
 subst c10
 have H1 : (if t462 = 0 then (if t461 = true then (if t469 = 0 then ((mizmazeref01_Valid.f k t463).bind fun t501 => (if t501 = true then ((mizmazeref03_Resets.f k t463 t466).bind fun t502 => (if t502 = true then (some (t489 == 4)) else (none))) else (none))) else (none)) else (none)) else (none)) = some r := by rw [if_pos rfl] at H; exact H
 clear H
 have H := H1
 clear H1
 by_cases c11 : t462 = 0
 rotate_left
 ·rw [if_neg c11] at H
  exact absurd H (by simp)
 rw [if_pos c11] at H
 have c11b0 : (t462 == 0) = true := beq_iff_eq.mpr c11
 have c11b1 : (t462 != 0) = false := bne_eq_false_iff_eq.mpr c11
 clear c11
 by_cases c12 : t461 = true
 rotate_left
 ·replace c12 := Bool.eq_false_iff.mpr c12
  subst c12
  have H1 : (none) = some r := by rw [if_neg (show ¬ (false = true) by decide)] at H; exact H
  clear H
  have H := H1
  clear H1
  exact absurd H (by simp)
 subst c12
 have H1 : (if t469 = 0 then ((mizmazeref01_Valid.f k t463).bind fun t501 => (if t501 = true then ((mizmazeref03_Resets.f k t463 t466).bind fun t502 => (if t502 = true then (some (t489 == 4)) else (none))) else (none))) else (none)) = some r := by rw [if_pos rfl] at H; exact H
 clear H
 have H := H1
 clear H1
 by_cases c13 : t469 = 0
 rotate_left
 ·rw [if_neg c13] at H
  exact absurd H (by simp)
 rw [if_pos c13] at H
 have c13b0 : (t469 == 0) = true := beq_iff_eq.mpr c13
 have c13b1 : (t469 != 0) = false := bne_eq_false_iff_eq.mpr c13
 clear c13
 replace H := Option.bind_eq_some_iff.mp H
 obtain ⟨t501, A140, H⟩ := H
 replace H : (if t501 = true then ((mizmazeref03_Resets.f k t463 t466).bind fun t502 => (if t502 = true then (some (t489 == 4)) else (none))) else (none)) = some r := H
 have A14 := am A140
 clear A140
 by_cases c15 : t501 = true
 rotate_left
 ·replace c15 := Bool.eq_false_iff.mpr c15
  subst c15
  have H1 : (none) = some r := by rw [if_neg (show ¬ (false = true) by decide)] at H; exact H
  clear H
  have H := H1
  clear H1
  exact absurd H (by simp)
 subst c15
 have H1 : ((mizmazeref03_Resets.f k t463 t466).bind fun t502 => (if t502 = true then (some (t489 == 4)) else (none))) = some r := by rw [if_pos rfl] at H; exact H
 clear H
 have H := H1
 clear H1
 replace H := Option.bind_eq_some_iff.mp H
 obtain ⟨t502, A160, H⟩ := H
 replace H : (if t502 = true then (some (t489 == 4)) else (none)) = some r := H
 have A16 := am A160
 clear A160
 by_cases c17 : t502 = true
 rotate_left
 ·replace c17 := Bool.eq_false_iff.mpr c17
  subst c17
  have H1 : (none) = some r := by rw [if_neg (show ¬ (false = true) by decide)] at H; exact H
  clear H
  have H := H1
  clear H1
  exact absurd H (by simp)
 subst c17
 have H1 : (some (t489 == 4)) = some r := by rw [if_pos rfl] at H; exact H
 clear H
 have H := H1
 clear H1
 obtain rfl := Option.some.inj H
 go_enter Try.func45, Try.ntmps45
 go_wp2_with (first | ((with_reducible refine gate_dst (N := 14) rfl ?_); (try (refine gate_guard (by rfl) ?_; dsimp only)); refine Kd.R_lit (Kd.int .i64) _ 3 ?hg (N := 14) ?hd (xs := ([1, 0] : List Int)) (inner := [.int .i64 1, .int .i64 0]) (ok := fun _ => True) (okp := fun _ => True) ?hr ?hp (fun _ hk => hk) trivial (Below.refl _ _) (Nat.le_refl _) (by simp) ?_; (case hd => rfl); (case hg => rfl); (case hr => first | (go_simp; done) | (go_simp; rfl)); (case hp => exact (Reps.one (show Kd.M (Kd.int .i64) _ _ _ 1 [.int .i64 1] from rfl) (Reps.one (show Kd.M (Kd.int .i64) _ _ _ 0 [.int .i64 0] from rfl) (Reps.none _ _)))); intro v436 w18 ho19 hb hg_ hnew_; clear hg_ hnew_; (first | rw [← Ny435.out] at ho19 | (simp only [Int.reduceToNat] at ho19; rw [← Ny435.out] at ho19)); have n0_ := am (Kd.R_lower ho19 (below_size (bw HB.out))); have n1_ := am (below_step (bw HB.out) hb); clear HB; have HO437 := n0_; have HB := n1_; clear n0_ n1_; clear hb ho19) | ((with_reducible refine gate_dst (N := 15) rfl ?_); (try (refine gate_guard (by rfl) ?_; dsimp only)); refine Kd.R_lit (Kd.int .i64) _ 3 ?hg (N := 15) ?hd (xs := ([0, 1] : List Int)) (inner := [.int .i64 0, .int .i64 1]) (ok := fun _ => True) (okp := fun _ => True) ?hr ?hp (fun _ hk => hk) trivial (Below.refl _ _) (Nat.le_refl _) (by simp) ?_; (case hd => rfl); (case hg => rfl); (case hr => first | (go_simp; done) | (go_simp; rfl)); (case hp => exact (Reps.one (show Kd.M (Kd.int .i64) _ _ _ 0 [.int .i64 0] from rfl) (Reps.one (show Kd.M (Kd.int .i64) _ _ _ 1 [.int .i64 1] from rfl) (Reps.none _ _)))); intro v439 w20 ho21 hb hg_ hnew_; clear hg_ hnew_; (first | rw [← Ny438.out] at ho21 | (simp only [Int.reduceToNat] at ho21; rw [← Ny438.out] at ho21)); have n0_ := am (Kd.R_elder' (kR HO437.out) (Kd.R_base ho21) hb); have n1_ := am (Kd.R_lower (Kd.R_new' ho21 (Kd.R_lt (kR HO437.out))) (below_size (bw HB.out))); have n2_ := am (below_step (bw HB.out) hb); clear HO437; clear HB; have HO437 := n0_; have HO440 := n1_; have HB := n2_; clear n0_ n1_ n2_; clear hb ho21; obtain ⟨Ao22, co22, eo22⟩ := Kd.R_slice HO437.out; subst eo22; obtain ⟨Ao23, co23, eo23⟩ := Kd.R_slice HO440.out; subst eo23) | ((with_reducible refine gate_dst (N := 16) rfl ?_); (try (refine gate_guard (by rfl) ?_; dsimp only)); refine Kd.N_lit (Kd.slice 3 (Kd.int .i64)) _ 28 ?hg (N' := 16) ?hd (xs := ([y435, y438] : List (List Int))) (inner := [.slice Ao22 y435.length co22, .slice Ao23 y438.length co23]) (ok := (fun _ => True)) (okp := (fun _ => True)) ?hr ?hp (fun _ hk => hk) ((show ∀ k_, w20.heap.size ≤ k_ → (fun _ => True) k_ from fun k_ hk => trivial) _ (Nat.le_refl _)) (Below.refl _ _) (Nat.le_refl _) (by simp) ?_; (case hd => rfl); (case hg => rfl); (case hr => first | (go_simp; done) | (go_simp; rfl)); (case hp => exact (Reps.one (show Kd.FK (Kd.slice 3 (Kd.int .i64)) _ _ y435 [.slice Ao22 y435.length co22] from (Kd.FK_slice_mk (Kd.R_reads' (Kd.R_mono (ok' := (fun _ => True)) (HO437.out) (fun k_ hk => trivial))).2.1 (Kd.R_F (Kd.R_mono (ok' := (fun _ => True)) (HO437.out) (fun k_ hk => trivial))))) (Reps.one (show Kd.FK (Kd.slice 3 (Kd.int .i64)) _ _ y438 [.slice Ao23 y438.length co23] from (Kd.FK_slice_mk (Kd.R_reads' (Kd.R_mono (ok' := (fun _ => True)) (HO440.out) (fun k_ hk => trivial))).2.1 (Kd.R_F (Kd.R_mono (ok' := (fun _ => True)) (HO440.out) (fun k_ hk => trivial))))) (Reps.none _ _)))); intro v442 w24 ho25 hb hg_ hnew_; clear hg_ hnew_; (first | rw [← Ny441.out] at ho25 | (simp only [Int.reduceToNat] at ho25; rw [← Ny441.out] at ho25)); have n0_ := am (Kd.N_lower ho25 (below_size (bw HB.out))); have n1_ := am (below_step (bw HB.out) hb); clear HB; clear HO437; clear HO440; have HO443 := n0_; have HB := n1_; clear n0_ n1_; clear hb ho25; obtain ⟨Ao26, co26, eo26⟩ := Kd.N_slice HO443.out; subst eo26) | ((with_reducible refine gate_dst (N := 1) rfl ?_); (try (refine gate_guard (by rfl) ?_; dsimp only)); refine box_event ?hg (N := 1) ?hd (cs := #[.slice none 0 0]) (t := 24) ?hr ?_; (case hd => rfl); (case hg => rfl); (case hr => first | (go_simp; done) | (go_simp; rfl)); intro gb444 hg w27 hbox hb; have n0_ := am (Kd.N_below (Kd.N_elderB (kN HO443.out) gb444 (Nat.le_of_eq hg.symm)) hb); have n1_ := am (below_step (bw HB.out) hb); have n2_ := am (hbox); have n3_ := am ((by rw [hg]; exact (below_size (bw HB.out)) : w.heap.size ≤ gb444)); have n4_ := am ((by rw [hg]; exact (below_size (bw HB.out)) : w.heap.size ≤ gb444)); clear HO443; clear HB; have HO443 := n0_; have HB := n1_; have BK444 := n2_; have GW444 := n3_; have GE444 := n4_; clear n0_ n1_ n2_ n3_ n4_; clear hb hbox hg; have hcz28_0 : w27.cell? ⟨gb444, 0, none⟩ = some (.slice none 0 0) := (blk_cell BK444.out 0).trans rfl; have hfz28_0 := blk_frozen BK444.out 0) | ((with_reducible refine gate_callee (f := 47) rfl ?_); refine goesL_ (some 20) rfl rfl Try.func47 (by kernel_rfl) rfl #[.agg #[.slice Ao26 y441.length co26]] rfl (by (try simp only [List.map_toArray, List.map_cons, List.map_nil]); first | done | rfl | (simp only [List.length_drop, List.length_take]; rfl)) ?_; (with_reducible refine (color_Colorings.calls k _ _ y441 t445 t446 _ ?side1 ?side2 A1.out).mono ?_); (case side1 => refine (Kd.N_reads' (e := 28) (base := w.heap.size) (ok := fun k_ => (True ∧ k_ ≠ gb444)) (n := y441.length) (c := co26) ?_).2.2; exact (by (with_reducible repeat (first | apply Kd.N_alloc | apply Kd.N_drewN | apply Kd.N_drew)); exact (Kd.N_mono (Kd.N_far (p := ⟨gb444, 0, none⟩) (Kd.N_mono HO443.out (fun k_ hk => (⟨hk, hk.2⟩ : _ ∧ k_ ≠ gb444))) (fun _ hk => hk.2) (.slice Ao26 y441.length co26)) (fun _ h_ => h_.1)))); (case side2 => exact (Kd.N_reads' HO443.out).2.1); rintro e w29 ⟨rfl, hb⟩; refine ⟨_, rfl, ?_⟩; have n0_ := am (Kd.N_below (by (with_reducible repeat (first | apply Kd.N_alloc | apply Kd.N_drewN | apply Kd.N_drew)); exact (Kd.N_mono (Kd.N_far (p := ⟨gb444, 0, none⟩) (Kd.N_mono HO443.out (fun k_ hk => (⟨hk, hk.2⟩ : _ ∧ k_ ≠ gb444))) (fun _ hk => hk.2) (.slice Ao26 y441.length co26)) (fun _ h_ => h_.1))) hb); have n1_ := am (blk_below (g := gb444) (o := .cells #[.slice Ao26 y441.length co26] 24 (0, 0)) (by (with_reducible repeat (first | refine blk_drewN ?_ _ | refine blk_drew ?_ | refine blk_alloc ?_ _)); refine blk_put (cs := #[.slice none 0 0]) ?_ 0 _ rfl; (with_reducible repeat (first | refine blk_drewN ?_ _ | refine blk_drew ?_ | refine blk_alloc ?_ _)); exact BK444.out) hb); have n2_ := am (below_step (bs HB.out) hb); clear HO443; clear BK444; clear HB; have HO443 := n0_; have BK444 := n1_; have HB := n2_; clear n0_ n1_ n2_; (try clear hb); (try clear hb2); (try clear hk); (try clear hi); have hcz30_0 : w29.cell? ⟨gb444, 0, none⟩ = some (.slice Ao26 y441.length co26) := (blk_cell BK444.out 0).trans rfl; have hfz30_0 := blk_frozen BK444.out 0) | ((with_reducible refine gate_dst (N := 25) rfl ?_); (try (refine gate_guard (by rfl) ?_; dsimp only)); refine Kd.R_lit (Kd.int .i64) _ 3 ?hg (N := 25) ?hd (xs := ([0, 1] : List Int)) (inner := [.int .i64 0, .int .i64 1]) (ok := fun _ => True) (okp := fun _ => True) ?hr ?hp (fun _ hk => hk) trivial (Below.refl _ _) (Nat.le_refl _) (by simp) ?_; (case hd => rfl); (case hg => rfl); (case hr => first | (go_simp; done) | (go_simp; rfl)); (case hp => exact (Reps.one (show Kd.M (Kd.int .i64) _ _ _ 0 [.int .i64 0] from rfl) (Reps.one (show Kd.M (Kd.int .i64) _ _ _ 1 [.int .i64 1] from rfl) (Reps.none _ _)))); intro v448 w31 ho32 hb hg_ hnew_; clear hg_ hnew_; (first | rw [← Ny447.out] at ho32 | (simp only [Int.reduceToNat] at ho32; rw [← Ny447.out] at ho32)); have n0_ := am (Kd.N_elder' (kN HO443.out) (Kd.R_base ho32) hb); have n1_ := am (Kd.R_lower ho32 (below_size (bs HB.out))); have n2_ := am (blk_below (g := gb444) (o := .cells #[.slice Ao26 y441.length co26] 24 (0, 0)) (kb BK444.out) hb); have n3_ := am (below_step (bs HB.out) hb); clear HO443; clear BK444; clear HB; have HO443 := n0_; have HO449 := n1_; have BK444 := n2_; have HB := n3_; clear n0_ n1_ n2_ n3_; clear hb ho32) | ((with_reducible refine gate_dst (N := 26) rfl ?_); (try (refine gate_guard (by rfl) ?_; dsimp only)); refine Kd.R_lit (Kd.int .i64) _ 3 ?hg (N := 26) ?hd (xs := ([1, 0] : List Int)) (inner := [.int .i64 1, .int .i64 0]) (ok := fun _ => True) (okp := fun _ => True) ?hr ?hp (fun _ hk => hk) trivial (Below.refl _ _) (Nat.le_refl _) (by simp) ?_; (case hd => rfl); (case hg => rfl); (case hr => first | (go_simp; done) | (go_simp; rfl)); (case hp => exact (Reps.one (show Kd.M (Kd.int .i64) _ _ _ 1 [.int .i64 1] from rfl) (Reps.one (show Kd.M (Kd.int .i64) _ _ _ 0 [.int .i64 0] from rfl) (Reps.none _ _)))); intro v451 w33 ho34 hb hg_ hnew_; clear hg_ hnew_; (first | rw [← Ny450.out] at ho34 | (simp only [Int.reduceToNat] at ho34; rw [← Ny450.out] at ho34)); have n0_ := am (Kd.N_elder' (kN HO443.out) (Kd.R_base ho34) hb); have n1_ := am (Kd.R_elder' (kR HO449.out) (Kd.R_base ho34) hb); have n2_ := am (Kd.R_lower (Kd.R_new' ho34 (Kd.R_lt (kR HO449.out))) (below_size (bs HB.out))); have n3_ := am (blk_below (g := gb444) (o := .cells #[.slice Ao26 y441.length co26] 24 (0, 0)) (kb BK444.out) hb); have n4_ := am (below_step (bs HB.out) hb); clear HO443; clear HO449; clear BK444; clear HB; have HO443 := n0_; have HO449 := n1_; have HO452 := n2_; have BK444 := n3_; have HB := n4_; clear n0_ n1_ n2_ n3_ n4_; clear hb ho34; obtain ⟨Ao35, co35, eo35⟩ := Kd.R_slice HO449.out; subst eo35; obtain ⟨Ao36, co36, eo36⟩ := Kd.R_slice HO452.out; subst eo36) | ((with_reducible refine gate_dst (N := 27) rfl ?_); (try (refine gate_guard (by rfl) ?_; dsimp only)); refine Kd.N_lit (Kd.slice 3 (Kd.int .i64)) _ 28 ?hg (N' := 27) ?hd (xs := ([y447, y450] : List (List Int))) (inner := [.slice Ao35 y447.length co35, .slice Ao36 y450.length co36]) (ok := (fun k_ => some k_ ≠ (.slice Ao26 y441.length co26 : Value).ownBlock ∧ k_ ≠ gb444)) (okp := (fun k_ => some k_ ≠ (.slice Ao26 y441.length co26 : Value).ownBlock ∧ k_ ≠ gb444)) ?hr ?hp (fun _ hk => hk) ((show ∀ k_, w33.heap.size ≤ k_ → (fun k_ => some k_ ≠ (.slice Ao26 y441.length co26 : Value).ownBlock ∧ k_ ≠ gb444) k_ from fun k_ hk => ⟨Kd.fresh' (Kd.N_lt (kN HO443.out)) k_ hk, Kd.freshB (g := gb444) (o := .cells #[.slice Ao26 y441.length co26] 24 (0, 0)) (kb BK444.out) k_ hk⟩) _ (Nat.le_refl _)) (Below.refl _ _) (Nat.le_refl _) (by simp) ?_; (case hd => rfl); (case hg => rfl); (case hr => first | (go_simp; done) | (go_simp; rfl)); (case hp => exact (Reps.one (show Kd.FK (Kd.slice 3 (Kd.int .i64)) _ _ y447 [.slice Ao35 y447.length co35] from (Kd.FK_slice_mk (Kd.R_reads' (Kd.R_mono (ok' := (fun k_ => some k_ ≠ (.slice Ao26 y441.length co26 : Value).ownBlock ∧ k_ ≠ gb444)) (Kd.R_types (Kd.R_apart' (HO449.out) (Kd.N_typed HO443.out) (by decide)) BK444.out (by decide)) (fun k_ hk => ⟨hk.1.2, hk.2⟩))).2.1 (Kd.R_F (Kd.R_mono (ok' := (fun k_ => some k_ ≠ (.slice Ao26 y441.length co26 : Value).ownBlock ∧ k_ ≠ gb444)) (Kd.R_types (Kd.R_apart' (HO449.out) (Kd.N_typed HO443.out) (by decide)) BK444.out (by decide)) (fun k_ hk => ⟨hk.1.2, hk.2⟩))))) (Reps.one (show Kd.FK (Kd.slice 3 (Kd.int .i64)) _ _ y450 [.slice Ao36 y450.length co36] from (Kd.FK_slice_mk (Kd.R_reads' (Kd.R_mono (ok' := (fun k_ => some k_ ≠ (.slice Ao26 y441.length co26 : Value).ownBlock ∧ k_ ≠ gb444)) (Kd.R_types (Kd.R_apart' (HO452.out) (Kd.N_typed HO443.out) (by decide)) BK444.out (by decide)) (fun k_ hk => ⟨hk.1.2, hk.2⟩))).2.1 (Kd.R_F (Kd.R_mono (ok' := (fun k_ => some k_ ≠ (.slice Ao26 y441.length co26 : Value).ownBlock ∧ k_ ≠ gb444)) (Kd.R_types (Kd.R_apart' (HO452.out) (Kd.N_typed HO443.out) (by decide)) BK444.out (by decide)) (fun k_ hk => ⟨hk.1.2, hk.2⟩))))) (Reps.none _ _)))); intro v454 w37 ho38 hb hg_ hnew_; clear hg_ hnew_; (first | rw [← Ny453.out] at ho38 | (simp only [Int.reduceToNat] at ho38; rw [← Ny453.out] at ho38)); have n0_ := am (Kd.N_elder' (kN HO443.out) (by first | exact Kd.N_base ho38 | exact Kd.S_base ho38 | exact Kd.R_base ho38) hb); have n1_ := am (Kd.N_lower ho38 (below_size (bs HB.out))); have n2_ := am (blk_below (g := gb444) (o := .cells #[.slice Ao26 y441.length co26] 24 (0, 0)) (kb BK444.out) hb); have n3_ := am (below_step (bs HB.out) hb); clear HO443; clear BK444; clear HB; clear HO449; clear HO452; have HO443 := n0_; have HO455 := n1_; have BK444 := n2_; have HB := n3_; clear n0_ n1_ n2_ n3_; clear hb ho38; obtain ⟨Ao39, co39, eo39⟩ := Kd.N_slice HO455.out; subst eo39) | ((with_reducible refine gate_callee (f := 41) rfl ?_); refine goesL_ (some 28) rfl rfl Try.func41 (by kernel_rfl) rfl #[.agg #[.slice Ao26 y441.length co26], .slice Ao39 y453.length co39] rfl (by (try simp only [List.map_toArray, List.map_cons, List.map_nil]); first | done | rfl | (simp only [List.length_drop, List.length_take]; rfl)) ?_; (with_reducible refine (color_Colored.calls k _ _ y441 _ _ y453 t456 t459 _ ?side1 ?side2 ?side3 ?side4 A2.out).mono ?_); (case side1 => repeat (first | exact (Kd.N_reads' HO443.out).2.2 | (with_reducible refine Kd.C_alloc ?_ _) | (with_reducible refine Kd.C_drewN ?_ _) | (with_reducible refine Kd.C_drew ?_))); (case side2 => exact (Kd.N_reads' HO443.out).2.1); (case side3 => repeat (first | exact (Kd.N_reads' HO455.out).2.2 | (with_reducible refine Kd.C_alloc ?_ _) | (with_reducible refine Kd.C_drewN ?_ _) | (with_reducible refine Kd.C_drew ?_))); (case side4 => exact (Kd.N_reads' HO455.out).2.1); rintro e w40 ⟨v457, rfl, ho0, hb⟩; refine ⟨_, rfl, ?_⟩; have n0_ := am (Kd.N_elder' (kN HO443.out) (by first | exact Kd.N_base ho0 | exact Kd.S_base ho0 | exact Kd.R_base ho0) hb); have n1_ := am (Kd.N_elder' (kN HO455.out) (by first | exact Kd.N_base ho0 | exact Kd.S_base ho0 | exact Kd.R_base ho0) hb); have n2_ := am (Kd.N_lower (Kd.N_mono (ok' := fun k_ => some k_ ≠ (.slice Ao26 y441.length co26 : Value).ownBlock ∧ some k_ ≠ (.slice Ao39 y453.length co39 : Value).ownBlock ∧ k_ ≠ gb444) (Kd.S_N (Kd.S_bound ho0)) (fun k_ hk_ => ⟨(Kd.fresh' (Kd.N_lt (kN HO443.out)) k_ hk_.2.1), (Kd.fresh' (Kd.N_lt (kN HO455.out)) k_ hk_.2.1), (Kd.freshB (g := gb444) (o := .cells #[.slice Ao26 y441.length co26] 24 (0, 0)) (kb BK444.out) k_ hk_.2.1)⟩)) (below_size (bs HB.out))); have n3_ := am (blk_below (g := gb444) (o := .cells #[.slice Ao26 y441.length co26] 24 (0, 0)) (kb BK444.out) hb); have n4_ := am (below_step (bs HB.out) hb); clear HO443; clear HO455; clear BK444; clear HB; have HO443 := n0_; have HO455 := n1_; have HO458 := n2_; have BK444 := n3_; have HB := n4_; clear n0_ n1_ n2_ n3_ n4_; (try clear hb); (try clear hb2); (try clear hk); (try clear hi); (try clear ho0)) | ((with_reducible refine gate_dst (N := 4) rfl ?_); (try (refine gate_guard (by rfl) ?_; dsimp only)); refine box_event ?hg (N := 4) ?hd (cs := #[.slice none 0 0]) (t := 24) ?hr ?_; (case hd => rfl); (case hg => rfl); (case hr => first | (go_simp; done) | (go_simp; rfl)); intro gb460 hg w41 hbox hb; have n0_ := am (Kd.N_below (Kd.N_elderB (kN HO443.out) gb460 (Nat.le_of_eq hg.symm)) hb); have n1_ := am (Kd.N_below (Kd.N_elderB (kN HO455.out) gb460 (Nat.le_of_eq hg.symm)) hb); have n2_ := am (Kd.N_below (Kd.N_elderB (kN HO458.out) gb460 (Nat.le_of_eq hg.symm)) hb); have n3_ := am (blk_below (g := gb444) (o := .cells #[.slice Ao26 y441.length co26] 24 (0, 0)) (kb BK444.out) hb); have n4_ := am (below_step (bs HB.out) hb); have n5_ := am (hbox); have n6_ := am ((by rw [hg]; exact (below_size (bs HB.out)) : w.heap.size ≤ gb460)); have n7_ := am ((by rw [hg]; exact (below_size (bs HB.out)) : w.heap.size ≤ gb460)); have n8_ := am ((by rw [hg]; exact Nat.ne_of_lt (blk_lt (g := gb444) (o := .cells #[.slice Ao26 y441.length co26] 24 (0, 0)) (kb BK444.out)) : gb444 ≠ gb460)); have n9_ := am ((by rw [hg]; exact Nat.ne_of_gt (blk_lt (g := gb444) (o := .cells #[.slice Ao26 y441.length co26] 24 (0, 0)) (kb BK444.out)) : gb460 ≠ gb444)); clear HO443; clear HO455; clear HO458; clear BK444; clear HB; have HO443 := n0_; have HO455 := n1_; have HO458 := n2_; have BK444 := n3_; have HB := n4_; have BK460 := n5_; have GW460 := n6_; have GE460 := n7_; have NB444_460 := n8_; have NB460_444 := n9_; clear n0_ n1_ n2_ n3_ n4_ n5_ n6_ n7_ n8_ n9_; clear hb hbox hg; obtain ⟨Ao42, co42, eo42⟩ := Kd.N_slice HO458.out; subst eo42; have hnb43 := NB460_444.out; have hnc43 := NB444_460.out; have hcz44_0 : w41.cell? ⟨gb460, 0, none⟩ = some (.slice none 0 0) := (blk_cell BK460.out 0).trans rfl; have hfz44_0 := blk_frozen BK460.out 0; have hcz45_0 : w41.cell? ⟨gb444, 0, none⟩ = some (.slice Ao26 y441.length co26) := (blk_cell BK444.out 0).trans rfl; have hfz45_0 := blk_frozen BK444.out 0) | ((with_reducible refine gate_callee (f := 42) rfl ?_); refine goesL_ (some 34) rfl rfl Try.func42 (by kernel_rfl) rfl #[.agg #[.slice Ao26 y441.length co26], .agg #[.slice Ao42 t456.length co42]] rfl (by (try simp only [List.map_toArray, List.map_cons, List.map_nil]); first | done | rfl | (simp only [List.length_drop, List.length_take]; rfl)) ?_; (with_reducible refine (color_Same.calls k _ _ y441 _ _ t456 true t462 _ ?side1 ?side2 ?side3 ?side4 A3.out).mono ?_); (case side1 => exact (Kd.N_reads' (e := 28) (base := w.heap.size) (n := y441.length) (c := co26) (by (with_reducible repeat (first | apply Kd.N_alloc | apply Kd.N_drewN | apply Kd.N_drew)); exact (Kd.N_mono (Kd.N_far (p := ⟨gb460, 0, none⟩) (Kd.N_mono HO443.out (fun k_ hk => (⟨hk, hk.2⟩ : _ ∧ k_ ≠ gb460))) (fun _ hk => hk.2) (.slice Ao42 t456.length co42)) (fun _ h_ => h_.1)))).2.2); (case side2 => exact (Kd.N_reads' HO443.out).2.1); (case side3 => refine (Kd.N_reads' (e := 28) (base := w.heap.size) (ok := fun k_ => ((some k_ ≠ (.slice Ao26 y441.length co26 : Value).ownBlock ∧ (some k_ ≠ (.slice Ao39 y453.length co39 : Value).ownBlock ∧ k_ ≠ gb444)) ∧ k_ ≠ gb460)) (n := t456.length) (c := co42) ?_).2.2; exact (by (with_reducible repeat (first | apply Kd.N_alloc | apply Kd.N_drewN | apply Kd.N_drew)); exact (Kd.N_mono (Kd.N_far (p := ⟨gb460, 0, none⟩) (Kd.N_mono HO458.out (fun k_ hk => (⟨hk, hk.2⟩ : _ ∧ k_ ≠ gb460))) (fun _ hk => hk.2) (.slice Ao42 t456.length co42)) (fun _ h_ => h_.1)))); (case side4 => exact (Kd.N_reads' HO458.out).2.1); rintro e w46 ⟨rfl, hb⟩; refine ⟨_, rfl, ?_⟩; have n0_ := am (Kd.N_below (by (with_reducible repeat (first | apply Kd.N_alloc | apply Kd.N_drewN | apply Kd.N_drew)); exact (Kd.N_mono (Kd.N_far (p := ⟨gb460, 0, none⟩) (Kd.N_mono HO443.out (fun k_ hk => (⟨hk, hk.2⟩ : _ ∧ k_ ≠ gb460))) (fun _ hk => hk.2) (.slice Ao42 t456.length co42)) (fun _ h_ => h_.1))) hb); have n1_ := am (Kd.N_below (by (with_reducible repeat (first | apply Kd.N_alloc | apply Kd.N_drewN | apply Kd.N_drew)); exact (Kd.N_mono (Kd.N_far (p := ⟨gb460, 0, none⟩) (Kd.N_mono HO455.out (fun k_ hk => (⟨hk, hk.2⟩ : _ ∧ k_ ≠ gb460))) (fun _ hk => hk.2) (.slice Ao42 t456.length co42)) (fun _ h_ => h_.1))) hb); have n2_ := am (Kd.N_below (by (with_reducible repeat (first | apply Kd.N_alloc | apply Kd.N_drewN | apply Kd.N_drew)); exact (Kd.N_mono (Kd.N_far (p := ⟨gb460, 0, none⟩) (Kd.N_mono HO458.out (fun k_ hk => (⟨hk, hk.2⟩ : _ ∧ k_ ≠ gb460))) (fun _ hk => hk.2) (.slice Ao42 t456.length co42)) (fun _ h_ => h_.1))) hb); have n3_ := am (blk_below (g := gb444) (o := .cells #[.slice Ao26 y441.length co26] 24 (0, 0)) (by (with_reducible repeat (first | refine blk_drewN ?_ _ | refine blk_drew ?_ | refine blk_alloc ?_ _)); refine blk_far ?_ NB444_460.out _; (with_reducible repeat (first | refine blk_drewN ?_ _ | refine blk_drew ?_ | refine blk_alloc ?_ _)); exact BK444.out) hb); have n4_ := am (blk_below (g := gb460) (o := .cells #[.slice Ao42 t456.length co42] 24 (0, 0)) (by (with_reducible repeat (first | refine blk_drewN ?_ _ | refine blk_drew ?_ | refine blk_alloc ?_ _)); refine blk_put (cs := #[.slice none 0 0]) ?_ 0 _ rfl; (with_reducible repeat (first | refine blk_drewN ?_ _ | refine blk_drew ?_ | refine blk_alloc ?_ _)); exact BK460.out) hb); have n5_ := am (below_step (bs HB.out) hb); clear HO443; clear HO455; clear HO458; clear BK444; clear BK460; clear HB; have HO443 := n0_; have HO455 := n1_; have HO458 := n2_; have BK444 := n3_; have BK460 := n4_; have HB := n5_; clear n0_ n1_ n2_ n3_ n4_ n5_; (try clear hb); (try clear hb2); (try clear hk); (try clear hi); have hcz47_0 : w46.cell? ⟨gb444, 0, none⟩ = some (.slice Ao26 y441.length co26) := (blk_cell BK444.out 0).trans rfl; have hfz47_0 := blk_frozen BK444.out 0) | ((with_reducible refine gate_callee (f := 49) rfl ?_); refine goesL_ (some 39) rfl rfl Try.func49 (by kernel_rfl) rfl #[.agg #[.slice Ao26 y441.length co26]] rfl (by (try simp only [List.map_toArray, List.map_cons, List.map_nil]); first | done | rfl | (simp only [List.length_drop, List.length_take]; rfl)) ?_; (with_reducible refine (color_Road.calls k _ _ y441 t463 t466 t469 _ ?side1 ?side2 A4.out).mono ?_); (case side1 => repeat (first | exact (Kd.N_reads' HO443.out).2.2 | (with_reducible refine Kd.C_alloc ?_ _) | (with_reducible refine Kd.C_drewN ?_ _) | (with_reducible refine Kd.C_drew ?_))); (case side2 => exact (Kd.N_reads' HO443.out).2.1); rintro e w48 ⟨v464, v467, rfl, ho0, ho1, hb⟩; refine ⟨_, rfl, ?_⟩; have n0_ := am (Kd.N_mono (Kd.N_told (Kd.N_told (Kd.N_old (kN HO443.out) hb) (by first | exact Kd.N_base ho0 | exact Kd.S_base ho0 | exact Kd.R_base ho0)) (Kd.R_base ho1)) (fun _ h_ => h_.1)); have n1_ := am (Kd.N_mono (Kd.N_told (Kd.N_told (Kd.N_old (kN HO455.out) hb) (by first | exact Kd.N_base ho0 | exact Kd.S_base ho0 | exact Kd.R_base ho0)) (Kd.R_base ho1)) (fun _ h_ => h_.1)); have n2_ := am (Kd.N_mono (Kd.N_told (Kd.N_told (Kd.N_old (kN HO458.out) hb) (by first | exact Kd.N_base ho0 | exact Kd.S_base ho0 | exact Kd.R_base ho0)) (Kd.R_base ho1)) (fun _ h_ => h_.1)); have n3_ := am (Kd.N_lower (Kd.N_mono (ok' := fun k_ => some k_ ≠ (v467 : Value).ownBlock ∧ some k_ ≠ (.slice Ao26 y441.length co26 : Value).ownBlock ∧ some k_ ≠ (.slice Ao39 y453.length co39 : Value).ownBlock ∧ some k_ ≠ (.slice Ao42 t456.length co42 : Value).ownBlock ∧ k_ ≠ gb444 ∧ k_ ≠ gb460) (Kd.S_N (Kd.S_bound ho0)) (fun k_ hk_ => ⟨hk_.1, (Kd.fresh' (Kd.N_lt (kN HO443.out)) k_ hk_.2.1), (Kd.fresh' (Kd.N_lt (kN HO455.out)) k_ hk_.2.1), (Kd.fresh' (Kd.N_lt (kN HO458.out)) k_ hk_.2.1), (Kd.freshB (g := gb444) (o := .cells #[.slice Ao26 y441.length co26] 24 (0, 0)) (kb BK444.out) k_ hk_.2.1), (Kd.freshB (g := gb460) (o := .cells #[.slice Ao42 t456.length co42] 24 (0, 0)) (kb BK460.out) k_ hk_.2.1)⟩)) (below_size (bs HB.out))); have n4_ := am (Kd.R_lower ho1 (below_size (bs HB.out))); have n5_ := am (blk_below (g := gb444) (o := .cells #[.slice Ao26 y441.length co26] 24 (0, 0)) (kb BK444.out) hb); have n6_ := am (blk_below (g := gb460) (o := .cells #[.slice Ao42 t456.length co42] 24 (0, 0)) (kb BK460.out) hb); have n7_ := am (below_step (bs HB.out) hb); clear HO443; clear HO455; clear HO458; clear BK444; clear BK460; clear HB; have HO443 := n0_; have HO455 := n1_; have HO458 := n2_; have HO465 := n3_; have HO468 := n4_; have BK444 := n5_; have BK460 := n6_; have HB := n7_; clear n0_ n1_ n2_ n3_ n4_ n5_ n6_ n7_; (try clear hb); (try clear hb2); (try clear hk); (try clear hi); (try clear ho0); (try clear ho1)) | ((with_reducible refine gate_dst (N := 8) rfl ?_); (try (refine gate_guard (by rfl) ?_; dsimp only)); refine box_event ?hg (N := 8) ?hd (cs := #[.slice none 0 0]) (t := 24) ?hr ?_; (case hd => rfl); (case hg => rfl); (case hr => first | (go_simp; done) | (go_simp; rfl)); intro gb470 hg w49 hbox hb; have n0_ := am (Kd.N_below (Kd.N_elderB (kN HO443.out) gb470 (Nat.le_of_eq hg.symm)) hb); have n1_ := am (Kd.N_below (Kd.N_elderB (kN HO455.out) gb470 (Nat.le_of_eq hg.symm)) hb); have n2_ := am (Kd.N_below (Kd.N_elderB (kN HO458.out) gb470 (Nat.le_of_eq hg.symm)) hb); have n3_ := am (Kd.N_below (Kd.N_elderB (kN HO465.out) gb470 (Nat.le_of_eq hg.symm)) hb); have n4_ := am (Kd.R_below (kR HO468.out) hb); have n5_ := am (blk_below (g := gb444) (o := .cells #[.slice Ao26 y441.length co26] 24 (0, 0)) (kb BK444.out) hb); have n6_ := am (blk_below (g := gb460) (o := .cells #[.slice Ao42 t456.length co42] 24 (0, 0)) (kb BK460.out) hb); have n7_ := am (below_step (bs HB.out) hb); have n8_ := am (hbox); have n9_ := am ((by rw [hg]; exact (below_size (bs HB.out)) : w.heap.size ≤ gb470)); have n10_ := am ((by rw [hg]; exact (below_size (bs HB.out)) : w.heap.size ≤ gb470)); have n11_ := am ((by rw [hg]; exact Nat.ne_of_lt (blk_lt (g := gb444) (o := .cells #[.slice Ao26 y441.length co26] 24 (0, 0)) (kb BK444.out)) : gb444 ≠ gb470)); have n12_ := am ((by rw [hg]; exact Nat.ne_of_gt (blk_lt (g := gb444) (o := .cells #[.slice Ao26 y441.length co26] 24 (0, 0)) (kb BK444.out)) : gb470 ≠ gb444)); have n13_ := am ((by rw [hg]; exact Nat.ne_of_lt (blk_lt (g := gb460) (o := .cells #[.slice Ao42 t456.length co42] 24 (0, 0)) (kb BK460.out)) : gb460 ≠ gb470)); have n14_ := am ((by rw [hg]; exact Nat.ne_of_gt (blk_lt (g := gb460) (o := .cells #[.slice Ao42 t456.length co42] 24 (0, 0)) (kb BK460.out)) : gb470 ≠ gb460)); clear HO443; clear HO455; clear HO458; clear HO465; clear HO468; clear BK444; clear BK460; clear HB; have HO443 := n0_; have HO455 := n1_; have HO458 := n2_; have HO465 := n3_; have HO468 := n4_; have BK444 := n5_; have BK460 := n6_; have HB := n7_; have BK470 := n8_; have GW470 := n9_; have GE470 := n10_; have NB444_470 := n11_; have NB470_444 := n12_; have NB460_470 := n13_; have NB470_460 := n14_; clear n0_ n1_ n2_ n3_ n4_ n5_ n6_ n7_ n8_ n9_ n10_ n11_ n12_ n13_ n14_; clear hb hbox hg; obtain ⟨Ao50, co50, eo50⟩ := Kd.N_slice HO465.out; subst eo50; have hnb51 := NB470_444.out; have hnc51 := NB444_470.out; have hnb52 := NB470_460.out; have hnc52 := NB460_470.out; have hcz53_0 : w49.cell? ⟨gb470, 0, none⟩ = some (.slice none 0 0) := (blk_cell BK470.out 0).trans rfl; have hfz53_0 := blk_frozen BK470.out 0) | ((with_reducible refine gate_dst (N := 44) rfl ?_); (try (refine gate_guard (by rfl) ?_; dsimp only)); refine Kd.R_lit (Kd.int .i64) _ 3 ?hg (N := 44) ?hd (xs := ([1, 1] : List Int)) (inner := [.int .i64 1, .int .i64 1]) (ok := fun _ => True) (okp := fun _ => True) ?hr ?hp (fun _ hk => hk) trivial (Below.refl _ _) (Nat.le_refl _) (by simp) ?_; (case hd => rfl); (case hg => rfl); (case hr => first | (go_simp; done) | (go_simp; rfl)); (case hp => exact (Reps.one (show Kd.M (Kd.int .i64) _ _ _ 1 [.int .i64 1] from rfl) (Reps.one (show Kd.M (Kd.int .i64) _ _ _ 1 [.int .i64 1] from rfl) (Reps.none _ _)))); intro v472 w54 ho55 hb hg_ hnew_; clear hg_ hnew_; (first | rw [← Ny471.out] at ho55 | (simp only [Int.reduceToNat] at ho55; rw [← Ny471.out] at ho55)); have n0_ := am (Kd.N_elder' (by (with_reducible repeat (first | apply Kd.N_alloc | apply Kd.N_drewN | apply Kd.N_drew)); exact (Kd.N_mono (Kd.N_far (p := ⟨gb470, 0, none⟩) (Kd.N_mono HO443.out (fun k_ hk => (⟨hk, hk.2⟩ : _ ∧ k_ ≠ gb470))) (fun _ hk => hk.2) (.slice Ao50 t463.length co50)) (fun _ h_ => h_.1))) (Kd.R_base ho55) hb); have n1_ := am (Kd.N_elder' (by (with_reducible repeat (first | apply Kd.N_alloc | apply Kd.N_drewN | apply Kd.N_drew)); exact (Kd.N_mono (Kd.N_far (p := ⟨gb470, 0, none⟩) (Kd.N_mono HO455.out (fun k_ hk => (⟨hk, hk.2⟩ : _ ∧ k_ ≠ gb470))) (fun _ hk => hk.2) (.slice Ao50 t463.length co50)) (fun _ h_ => h_.1))) (Kd.R_base ho55) hb); have n2_ := am (Kd.N_elder' (by (with_reducible repeat (first | apply Kd.N_alloc | apply Kd.N_drewN | apply Kd.N_drew)); exact (Kd.N_mono (Kd.N_far (p := ⟨gb470, 0, none⟩) (Kd.N_mono HO458.out (fun k_ hk => (⟨hk, hk.2⟩ : _ ∧ k_ ≠ gb470))) (fun _ hk => hk.2) (.slice Ao50 t463.length co50)) (fun _ h_ => h_.1))) (Kd.R_base ho55) hb); have n3_ := am (Kd.N_elder' (by (with_reducible repeat (first | apply Kd.N_alloc | apply Kd.N_drewN | apply Kd.N_drew)); exact (Kd.N_mono (Kd.N_far (p := ⟨gb470, 0, none⟩) (Kd.N_mono HO465.out (fun k_ hk => (⟨hk, hk.2⟩ : _ ∧ k_ ≠ gb470))) (fun _ hk => hk.2) (.slice Ao50 t463.length co50)) (fun _ h_ => h_.1))) (Kd.R_base ho55) hb); have n4_ := am (Kd.R_elder' (by (with_reducible repeat (first | apply Kd.R_alloc | apply Kd.R_drewN | apply Kd.R_drew)); exact (Kd.R_mono (Kd.R_far (p := ⟨gb470, 0, none⟩) (Kd.R_types HO468.out BK470.out (by decide)) (fun _ hk => hk.2) (.slice Ao50 t463.length co50)) (fun _ h_ => h_.1))) (Kd.R_base ho55) hb); have n5_ := am (Kd.R_lower (Kd.R_new' ho55 (Kd.R_lt (by (with_reducible repeat (first | apply Kd.R_alloc | apply Kd.R_drewN | apply Kd.R_drew)); exact (Kd.R_mono (Kd.R_far (p := ⟨gb470, 0, none⟩) (Kd.R_types HO468.out BK470.out (by decide)) (fun _ hk => hk.2) (.slice Ao50 t463.length co50)) (fun _ h_ => h_.1))))) (below_size (bs HB.out))); have n6_ := am (blk_below (g := gb444) (o := .cells #[.slice Ao26 y441.length co26] 24 (0, 0)) (by (with_reducible repeat (first | refine blk_drewN ?_ _ | refine blk_drew ?_ | refine blk_alloc ?_ _)); refine blk_far ?_ NB444_470.out _; (with_reducible repeat (first | refine blk_drewN ?_ _ | refine blk_drew ?_ | refine blk_alloc ?_ _)); exact BK444.out) hb); have n7_ := am (blk_below (g := gb460) (o := .cells #[.slice Ao42 t456.length co42] 24 (0, 0)) (by (with_reducible repeat (first | refine blk_drewN ?_ _ | refine blk_drew ?_ | refine blk_alloc ?_ _)); refine blk_far ?_ NB460_470.out _; (with_reducible repeat (first | refine blk_drewN ?_ _ | refine blk_drew ?_ | refine blk_alloc ?_ _)); exact BK460.out) hb); have n8_ := am (blk_below (g := gb470) (o := .cells #[.slice Ao50 t463.length co50] 24 (0, 0)) (by (with_reducible repeat (first | refine blk_drewN ?_ _ | refine blk_drew ?_ | refine blk_alloc ?_ _)); refine blk_put (cs := #[.slice none 0 0]) ?_ 0 _ rfl; (with_reducible repeat (first | refine blk_drewN ?_ _ | refine blk_drew ?_ | refine blk_alloc ?_ _)); exact BK470.out) hb); have n9_ := am (below_step (bs HB.out) hb); clear HO443; clear HO455; clear HO458; clear HO465; clear HO468; clear BK444; clear BK460; clear BK470; clear HB; have HO443 := n0_; have HO455 := n1_; have HO458 := n2_; have HO465 := n3_; have HO468 := n4_; have HO473 := n5_; have BK444 := n6_; have BK460 := n7_; have BK470 := n8_; have HB := n9_; clear n0_ n1_ n2_ n3_ n4_ n5_ n6_ n7_ n8_ n9_; clear hb ho55) | ((with_reducible refine gate_dst (N := 45) rfl ?_); (try (refine gate_guard (by rfl) ?_; dsimp only)); refine Kd.R_lit (Kd.int .i64) _ 3 ?hg (N := 45) ?hd (xs := ([2, 2] : List Int)) (inner := [.int .i64 2, .int .i64 2]) (ok := fun _ => True) (okp := fun _ => True) ?hr ?hp (fun _ hk => hk) trivial (Below.refl _ _) (Nat.le_refl _) (by simp) ?_; (case hd => rfl); (case hg => rfl); (case hr => first | (go_simp; done) | (go_simp; rfl)); (case hp => exact (Reps.one (show Kd.M (Kd.int .i64) _ _ _ 2 [.int .i64 2] from rfl) (Reps.one (show Kd.M (Kd.int .i64) _ _ _ 2 [.int .i64 2] from rfl) (Reps.none _ _)))); intro v475 w56 ho57 hb hg_ hnew_; clear hg_ hnew_; (first | rw [← Ny474.out] at ho57 | (simp only [Int.reduceToNat] at ho57; rw [← Ny474.out] at ho57)); have n0_ := am (Kd.N_elder' (kN HO443.out) (Kd.R_base ho57) hb); have n1_ := am (Kd.N_elder' (kN HO455.out) (Kd.R_base ho57) hb); have n2_ := am (Kd.N_elder' (kN HO458.out) (Kd.R_base ho57) hb); have n3_ := am (Kd.N_elder' (kN HO465.out) (Kd.R_base ho57) hb); have n4_ := am (Kd.R_elder' (kR HO468.out) (Kd.R_base ho57) hb); have n5_ := am (Kd.R_elder' (kR HO473.out) (Kd.R_base ho57) hb); have n6_ := am (Kd.R_lower (Kd.R_new' (Kd.R_new' ho57 (Kd.R_lt (kR HO468.out))) (Kd.R_lt (kR HO473.out))) (below_size (bs HB.out))); have n7_ := am (blk_below (g := gb444) (o := .cells #[.slice Ao26 y441.length co26] 24 (0, 0)) (kb BK444.out) hb); have n8_ := am (blk_below (g := gb460) (o := .cells #[.slice Ao42 t456.length co42] 24 (0, 0)) (kb BK460.out) hb); have n9_ := am (blk_below (g := gb470) (o := .cells #[.slice Ao50 t463.length co50] 24 (0, 0)) (kb BK470.out) hb); have n10_ := am (below_step (bs HB.out) hb); clear HO443; clear HO455; clear HO458; clear HO465; clear HO468; clear HO473; clear BK444; clear BK460; clear BK470; clear HB; have HO443 := n0_; have HO455 := n1_; have HO458 := n2_; have HO465 := n3_; have HO468 := n4_; have HO473 := n5_; have HO476 := n6_; have BK444 := n7_; have BK460 := n8_; have BK470 := n9_; have HB := n10_; clear n0_ n1_ n2_ n3_ n4_ n5_ n6_ n7_ n8_ n9_ n10_; clear hb ho57) | ((with_reducible refine gate_dst (N := 46) rfl ?_); (try (refine gate_guard (by rfl) ?_; dsimp only)); refine Kd.R_lit (Kd.int .i64) _ 3 ?hg (N := 46) ?hd (xs := ([0, 0] : List Int)) (inner := [.int .i64 0, .int .i64 0]) (ok := fun _ => True) (okp := fun _ => True) ?hr ?hp (fun _ hk => hk) trivial (Below.refl _ _) (Nat.le_refl _) (by simp) ?_; (case hd => rfl); (case hg => rfl); (case hr => first | (go_simp; done) | (go_simp; rfl)); (case hp => exact (Reps.one (show Kd.M (Kd.int .i64) _ _ _ 0 [.int .i64 0] from rfl) (Reps.one (show Kd.M (Kd.int .i64) _ _ _ 0 [.int .i64 0] from rfl) (Reps.none _ _)))); intro v478 w58 ho59 hb hg_ hnew_; clear hg_ hnew_; (first | rw [← Ny477.out] at ho59 | (simp only [Int.reduceToNat] at ho59; rw [← Ny477.out] at ho59)); have n0_ := am (Kd.N_elder' (kN HO443.out) (Kd.R_base ho59) hb); have n1_ := am (Kd.N_elder' (kN HO455.out) (Kd.R_base ho59) hb); have n2_ := am (Kd.N_elder' (kN HO458.out) (Kd.R_base ho59) hb); have n3_ := am (Kd.N_elder' (kN HO465.out) (Kd.R_base ho59) hb); have n4_ := am (Kd.R_elder' (kR HO468.out) (Kd.R_base ho59) hb); have n5_ := am (Kd.R_elder' (kR HO473.out) (Kd.R_base ho59) hb); have n6_ := am (Kd.R_elder' (kR HO476.out) (Kd.R_base ho59) hb); have n7_ := am (Kd.R_lower (Kd.R_new' (Kd.R_new' (Kd.R_new' ho59 (Kd.R_lt (kR HO468.out))) (Kd.R_lt (kR HO473.out))) (Kd.R_lt (kR HO476.out))) (below_size (bs HB.out))); have n8_ := am (blk_below (g := gb444) (o := .cells #[.slice Ao26 y441.length co26] 24 (0, 0)) (kb BK444.out) hb); have n9_ := am (blk_below (g := gb460) (o := .cells #[.slice Ao42 t456.length co42] 24 (0, 0)) (kb BK460.out) hb); have n10_ := am (blk_below (g := gb470) (o := .cells #[.slice Ao50 t463.length co50] 24 (0, 0)) (kb BK470.out) hb); have n11_ := am (below_step (bs HB.out) hb); clear HO443; clear HO455; clear HO458; clear HO465; clear HO468; clear HO473; clear HO476; clear BK444; clear BK460; clear BK470; clear HB; have HO443 := n0_; have HO455 := n1_; have HO458 := n2_; have HO465 := n3_; have HO468 := n4_; have HO473 := n5_; have HO476 := n6_; have HO479 := n7_; have BK444 := n8_; have BK460 := n9_; have BK470 := n10_; have HB := n11_; clear n0_ n1_ n2_ n3_ n4_ n5_ n6_ n7_ n8_ n9_ n10_ n11_; clear hb ho59; obtain ⟨Ao60, co60, eo60⟩ := Kd.R_slice HO473.out; subst eo60; obtain ⟨Ao61, co61, eo61⟩ := Kd.R_slice HO476.out; subst eo61; obtain ⟨Ao62, co62, eo62⟩ := Kd.R_slice HO479.out; subst eo62) | ((with_reducible refine gate_dst (N := 47) rfl ?_); (try (refine gate_guard (by rfl) ?_; dsimp only)); refine Kd.N_lit (Kd.slice 3 (Kd.int .i64)) _ 28 ?hg (N' := 47) ?hd (xs := ([y471, y474, y477] : List (List Int))) (inner := [.slice Ao60 y471.length co60, .slice Ao61 y474.length co61, .slice Ao62 y477.length co62]) (ok := (fun k_ => some k_ ≠ (.slice Ao26 y441.length co26 : Value).ownBlock ∧ some k_ ≠ (.slice Ao39 y453.length co39 : Value).ownBlock ∧ some k_ ≠ (.slice Ao42 t456.length co42 : Value).ownBlock ∧ some k_ ≠ (.slice Ao50 t463.length co50 : Value).ownBlock ∧ some k_ ≠ (v467 : Value).ownBlock ∧ k_ ≠ gb444 ∧ k_ ≠ gb460 ∧ k_ ≠ gb470)) (okp := (fun k_ => some k_ ≠ (.slice Ao26 y441.length co26 : Value).ownBlock ∧ some k_ ≠ (.slice Ao39 y453.length co39 : Value).ownBlock ∧ some k_ ≠ (.slice Ao42 t456.length co42 : Value).ownBlock ∧ some k_ ≠ (.slice Ao50 t463.length co50 : Value).ownBlock ∧ some k_ ≠ (v467 : Value).ownBlock ∧ k_ ≠ gb444 ∧ k_ ≠ gb460 ∧ k_ ≠ gb470)) ?hr ?hp (fun _ hk => hk) ((show ∀ k_, w58.heap.size ≤ k_ → (fun k_ => some k_ ≠ (.slice Ao26 y441.length co26 : Value).ownBlock ∧ some k_ ≠ (.slice Ao39 y453.length co39 : Value).ownBlock ∧ some k_ ≠ (.slice Ao42 t456.length co42 : Value).ownBlock ∧ some k_ ≠ (.slice Ao50 t463.length co50 : Value).ownBlock ∧ some k_ ≠ (v467 : Value).ownBlock ∧ k_ ≠ gb444 ∧ k_ ≠ gb460 ∧ k_ ≠ gb470) k_ from fun k_ hk => ⟨Kd.fresh' (Kd.N_lt (kN HO443.out)) k_ hk, Kd.fresh' (Kd.N_lt (kN HO455.out)) k_ hk, Kd.fresh' (Kd.N_lt (kN HO458.out)) k_ hk, Kd.fresh' (Kd.N_lt (kN HO465.out)) k_ hk, Kd.fresh' (Kd.R_lt (kR HO468.out)) k_ hk, Kd.freshB (g := gb444) (o := .cells #[.slice Ao26 y441.length co26] 24 (0, 0)) (kb BK444.out) k_ hk, Kd.freshB (g := gb460) (o := .cells #[.slice Ao42 t456.length co42] 24 (0, 0)) (kb BK460.out) k_ hk, Kd.freshB (g := gb470) (o := .cells #[.slice Ao50 t463.length co50] 24 (0, 0)) (kb BK470.out) k_ hk⟩) _ (Nat.le_refl _)) (Below.refl _ _) (Nat.le_refl _) (by simp) ?_; (case hd => rfl); (case hg => rfl); (case hr => first | (go_simp; done) | (go_simp; rfl)); (case hp => exact (Reps.one (show Kd.FK (Kd.slice 3 (Kd.int .i64)) _ _ y471 [.slice Ao60 y471.length co60] from (Kd.FK_slice_mk (Kd.R_reads' (Kd.R_mono (ok' := (fun k_ => some k_ ≠ (.slice Ao26 y441.length co26 : Value).ownBlock ∧ some k_ ≠ (.slice Ao39 y453.length co39 : Value).ownBlock ∧ some k_ ≠ (.slice Ao42 t456.length co42 : Value).ownBlock ∧ some k_ ≠ (.slice Ao50 t463.length co50 : Value).ownBlock ∧ some k_ ≠ (v467 : Value).ownBlock ∧ k_ ≠ gb444 ∧ k_ ≠ gb460 ∧ k_ ≠ gb470)) (Kd.R_types (Kd.R_types (Kd.R_types (Kd.R_apart' (Kd.R_apart' (Kd.R_apart' (Kd.R_apart' (HO473.out) (Kd.N_typed HO443.out) (by decide)) (Kd.N_typed HO455.out) (by decide)) (Kd.N_typed HO458.out) (by decide)) (Kd.N_typed HO465.out) (by decide)) BK444.out (by decide)) BK460.out (by decide)) BK470.out (by decide)) (fun k_ hk => ⟨hk.1.1.1.1.1.1.2, ⟨hk.1.1.1.1.1.2, ⟨hk.1.1.1.1.2, ⟨hk.1.1.1.2, ⟨hk.1.1.1.1.1.1.1.1.1.2, ⟨hk.1.1.2, ⟨hk.1.2, hk.2⟩⟩⟩⟩⟩⟩⟩))).2.1 (Kd.R_F (Kd.R_mono (ok' := (fun k_ => some k_ ≠ (.slice Ao26 y441.length co26 : Value).ownBlock ∧ some k_ ≠ (.slice Ao39 y453.length co39 : Value).ownBlock ∧ some k_ ≠ (.slice Ao42 t456.length co42 : Value).ownBlock ∧ some k_ ≠ (.slice Ao50 t463.length co50 : Value).ownBlock ∧ some k_ ≠ (v467 : Value).ownBlock ∧ k_ ≠ gb444 ∧ k_ ≠ gb460 ∧ k_ ≠ gb470)) (Kd.R_types (Kd.R_types (Kd.R_types (Kd.R_apart' (Kd.R_apart' (Kd.R_apart' (Kd.R_apart' (HO473.out) (Kd.N_typed HO443.out) (by decide)) (Kd.N_typed HO455.out) (by decide)) (Kd.N_typed HO458.out) (by decide)) (Kd.N_typed HO465.out) (by decide)) BK444.out (by decide)) BK460.out (by decide)) BK470.out (by decide)) (fun k_ hk => ⟨hk.1.1.1.1.1.1.2, ⟨hk.1.1.1.1.1.2, ⟨hk.1.1.1.1.2, ⟨hk.1.1.1.2, ⟨hk.1.1.1.1.1.1.1.1.1.2, ⟨hk.1.1.2, ⟨hk.1.2, hk.2⟩⟩⟩⟩⟩⟩⟩))))) (Reps.one (show Kd.FK (Kd.slice 3 (Kd.int .i64)) _ _ y474 [.slice Ao61 y474.length co61] from (Kd.FK_slice_mk (Kd.R_reads' (Kd.R_mono (ok' := (fun k_ => some k_ ≠ (.slice Ao26 y441.length co26 : Value).ownBlock ∧ some k_ ≠ (.slice Ao39 y453.length co39 : Value).ownBlock ∧ some k_ ≠ (.slice Ao42 t456.length co42 : Value).ownBlock ∧ some k_ ≠ (.slice Ao50 t463.length co50 : Value).ownBlock ∧ some k_ ≠ (v467 : Value).ownBlock ∧ k_ ≠ gb444 ∧ k_ ≠ gb460 ∧ k_ ≠ gb470)) (Kd.R_types (Kd.R_types (Kd.R_types (Kd.R_apart' (Kd.R_apart' (Kd.R_apart' (Kd.R_apart' (HO476.out) (Kd.N_typed HO443.out) (by decide)) (Kd.N_typed HO455.out) (by decide)) (Kd.N_typed HO458.out) (by decide)) (Kd.N_typed HO465.out) (by decide)) BK444.out (by decide)) BK460.out (by decide)) BK470.out (by decide)) (fun k_ hk => ⟨hk.1.1.1.1.1.1.2, ⟨hk.1.1.1.1.1.2, ⟨hk.1.1.1.1.2, ⟨hk.1.1.1.2, ⟨hk.1.1.1.1.1.1.1.1.1.2, ⟨hk.1.1.2, ⟨hk.1.2, hk.2⟩⟩⟩⟩⟩⟩⟩))).2.1 (Kd.R_F (Kd.R_mono (ok' := (fun k_ => some k_ ≠ (.slice Ao26 y441.length co26 : Value).ownBlock ∧ some k_ ≠ (.slice Ao39 y453.length co39 : Value).ownBlock ∧ some k_ ≠ (.slice Ao42 t456.length co42 : Value).ownBlock ∧ some k_ ≠ (.slice Ao50 t463.length co50 : Value).ownBlock ∧ some k_ ≠ (v467 : Value).ownBlock ∧ k_ ≠ gb444 ∧ k_ ≠ gb460 ∧ k_ ≠ gb470)) (Kd.R_types (Kd.R_types (Kd.R_types (Kd.R_apart' (Kd.R_apart' (Kd.R_apart' (Kd.R_apart' (HO476.out) (Kd.N_typed HO443.out) (by decide)) (Kd.N_typed HO455.out) (by decide)) (Kd.N_typed HO458.out) (by decide)) (Kd.N_typed HO465.out) (by decide)) BK444.out (by decide)) BK460.out (by decide)) BK470.out (by decide)) (fun k_ hk => ⟨hk.1.1.1.1.1.1.2, ⟨hk.1.1.1.1.1.2, ⟨hk.1.1.1.1.2, ⟨hk.1.1.1.2, ⟨hk.1.1.1.1.1.1.1.1.1.2, ⟨hk.1.1.2, ⟨hk.1.2, hk.2⟩⟩⟩⟩⟩⟩⟩))))) (Reps.one (show Kd.FK (Kd.slice 3 (Kd.int .i64)) _ _ y477 [.slice Ao62 y477.length co62] from (Kd.FK_slice_mk (Kd.R_reads' (Kd.R_mono (ok' := (fun k_ => some k_ ≠ (.slice Ao26 y441.length co26 : Value).ownBlock ∧ some k_ ≠ (.slice Ao39 y453.length co39 : Value).ownBlock ∧ some k_ ≠ (.slice Ao42 t456.length co42 : Value).ownBlock ∧ some k_ ≠ (.slice Ao50 t463.length co50 : Value).ownBlock ∧ some k_ ≠ (v467 : Value).ownBlock ∧ k_ ≠ gb444 ∧ k_ ≠ gb460 ∧ k_ ≠ gb470)) (Kd.R_types (Kd.R_types (Kd.R_types (Kd.R_apart' (Kd.R_apart' (Kd.R_apart' (Kd.R_apart' (HO479.out) (Kd.N_typed HO443.out) (by decide)) (Kd.N_typed HO455.out) (by decide)) (Kd.N_typed HO458.out) (by decide)) (Kd.N_typed HO465.out) (by decide)) BK444.out (by decide)) BK460.out (by decide)) BK470.out (by decide)) (fun k_ hk => ⟨hk.1.1.1.1.1.1.2, ⟨hk.1.1.1.1.1.2, ⟨hk.1.1.1.1.2, ⟨hk.1.1.1.2, ⟨hk.1.1.1.1.1.1.1.1.1.2, ⟨hk.1.1.2, ⟨hk.1.2, hk.2⟩⟩⟩⟩⟩⟩⟩))).2.1 (Kd.R_F (Kd.R_mono (ok' := (fun k_ => some k_ ≠ (.slice Ao26 y441.length co26 : Value).ownBlock ∧ some k_ ≠ (.slice Ao39 y453.length co39 : Value).ownBlock ∧ some k_ ≠ (.slice Ao42 t456.length co42 : Value).ownBlock ∧ some k_ ≠ (.slice Ao50 t463.length co50 : Value).ownBlock ∧ some k_ ≠ (v467 : Value).ownBlock ∧ k_ ≠ gb444 ∧ k_ ≠ gb460 ∧ k_ ≠ gb470)) (Kd.R_types (Kd.R_types (Kd.R_types (Kd.R_apart' (Kd.R_apart' (Kd.R_apart' (Kd.R_apart' (HO479.out) (Kd.N_typed HO443.out) (by decide)) (Kd.N_typed HO455.out) (by decide)) (Kd.N_typed HO458.out) (by decide)) (Kd.N_typed HO465.out) (by decide)) BK444.out (by decide)) BK460.out (by decide)) BK470.out (by decide)) (fun k_ hk => ⟨hk.1.1.1.1.1.1.2, ⟨hk.1.1.1.1.1.2, ⟨hk.1.1.1.1.2, ⟨hk.1.1.1.2, ⟨hk.1.1.1.1.1.1.1.1.1.2, ⟨hk.1.1.2, ⟨hk.1.2, hk.2⟩⟩⟩⟩⟩⟩⟩))))) (Reps.none _ _))))); intro v481 w63 ho64 hb hg_ hnew_; clear hg_ hnew_; (first | rw [← Ny480.out] at ho64 | (simp only [Int.reduceToNat] at ho64; rw [← Ny480.out] at ho64)); have n0_ := am (Kd.N_elder' (kN HO443.out) (by first | exact Kd.N_base ho64 | exact Kd.S_base ho64 | exact Kd.R_base ho64) hb); have n1_ := am (Kd.N_elder' (kN HO455.out) (by first | exact Kd.N_base ho64 | exact Kd.S_base ho64 | exact Kd.R_base ho64) hb); have n2_ := am (Kd.N_elder' (kN HO458.out) (by first | exact Kd.N_base ho64 | exact Kd.S_base ho64 | exact Kd.R_base ho64) hb); have n3_ := am (Kd.N_elder' (kN HO465.out) (by first | exact Kd.N_base ho64 | exact Kd.S_base ho64 | exact Kd.R_base ho64) hb); have n4_ := am (Kd.R_below (kR HO468.out) hb); have n5_ := am (Kd.N_lower ho64 (below_size (bs HB.out))); have n6_ := am (blk_below (g := gb444) (o := .cells #[.slice Ao26 y441.length co26] 24 (0, 0)) (kb BK444.out) hb); have n7_ := am (blk_below (g := gb460) (o := .cells #[.slice Ao42 t456.length co42] 24 (0, 0)) (kb BK460.out) hb); have n8_ := am (blk_below (g := gb470) (o := .cells #[.slice Ao50 t463.length co50] 24 (0, 0)) (kb BK470.out) hb); have n9_ := am (below_step (bs HB.out) hb); clear HO443; clear HO455; clear HO458; clear HO465; clear HO468; clear BK444; clear BK460; clear BK470; clear HB; clear HO473; clear HO476; clear HO479; have HO443 := n0_; have HO455 := n1_; have HO458 := n2_; have HO465 := n3_; have HO468 := n4_; have HO482 := n5_; have BK444 := n6_; have BK460 := n7_; have BK470 := n8_; have HB := n9_; clear n0_ n1_ n2_ n3_ n4_ n5_ n6_ n7_ n8_ n9_; clear hb ho64; obtain ⟨Ao65, co65, eo65⟩ := Kd.N_slice HO482.out; subst eo65) | ((with_reducible refine gate_callee (f := 49) rfl ?_); refine goesL_ (some 49) rfl rfl Try.func49 (by kernel_rfl) rfl #[.agg #[.slice Ao65 y480.length co65]] rfl (by (try simp only [List.map_toArray, List.map_cons, List.map_nil]); first | done | rfl | (simp only [List.length_drop, List.length_take]; rfl)) ?_; (with_reducible refine (color_Road.calls k _ _ y480 t483 t486 t489 _ ?side1 ?side2 A5.out).mono ?_); (case side1 => repeat (first | exact (Kd.N_reads' HO482.out).2.2 | (with_reducible refine Kd.C_alloc ?_ _) | (with_reducible refine Kd.C_drewN ?_ _) | (with_reducible refine Kd.C_drew ?_))); (case side2 => exact (Kd.N_reads' HO482.out).2.1); rintro e w66 ⟨v484, v487, rfl, ho0, ho1, hb⟩; refine ⟨_, rfl, ?_⟩; have n0_ := am (Kd.N_mono (Kd.N_told (Kd.N_told (Kd.N_old (kN HO443.out) hb) (by first | exact Kd.N_base ho0 | exact Kd.S_base ho0 | exact Kd.R_base ho0)) (Kd.R_base ho1)) (fun _ h_ => h_.1)); have n1_ := am (Kd.N_mono (Kd.N_told (Kd.N_told (Kd.N_old (kN HO455.out) hb) (by first | exact Kd.N_base ho0 | exact Kd.S_base ho0 | exact Kd.R_base ho0)) (Kd.R_base ho1)) (fun _ h_ => h_.1)); have n2_ := am (Kd.N_mono (Kd.N_told (Kd.N_told (Kd.N_old (kN HO458.out) hb) (by first | exact Kd.N_base ho0 | exact Kd.S_base ho0 | exact Kd.R_base ho0)) (Kd.R_base ho1)) (fun _ h_ => h_.1)); have n3_ := am (Kd.N_mono (Kd.N_told (Kd.N_told (Kd.N_old (kN HO465.out) hb) (by first | exact Kd.N_base ho0 | exact Kd.S_base ho0 | exact Kd.R_base ho0)) (Kd.R_base ho1)) (fun _ h_ => h_.1)); have n4_ := am (Kd.R_elder' (kR HO468.out) (Kd.R_base ho1) hb); have n5_ := am (Kd.N_mono (Kd.N_told (Kd.N_told (Kd.N_old (kN HO482.out) hb) (by first | exact Kd.N_base ho0 | exact Kd.S_base ho0 | exact Kd.R_base ho0)) (Kd.R_base ho1)) (fun _ h_ => h_.1)); have n6_ := am (Kd.N_lower (Kd.N_mono (ok' := fun k_ => some k_ ≠ (v487 : Value).ownBlock ∧ some k_ ≠ (.slice Ao26 y441.length co26 : Value).ownBlock ∧ some k_ ≠ (.slice Ao39 y453.length co39 : Value).ownBlock ∧ some k_ ≠ (.slice Ao42 t456.length co42 : Value).ownBlock ∧ some k_ ≠ (.slice Ao50 t463.length co50 : Value).ownBlock ∧ some k_ ≠ (v467 : Value).ownBlock ∧ some k_ ≠ (.slice Ao65 y480.length co65 : Value).ownBlock ∧ k_ ≠ gb444 ∧ k_ ≠ gb460 ∧ k_ ≠ gb470) (Kd.S_N (Kd.S_bound ho0)) (fun k_ hk_ => ⟨hk_.1, (Kd.fresh' (Kd.N_lt (kN HO443.out)) k_ hk_.2.1), (Kd.fresh' (Kd.N_lt (kN HO455.out)) k_ hk_.2.1), (Kd.fresh' (Kd.N_lt (kN HO458.out)) k_ hk_.2.1), (Kd.fresh' (Kd.N_lt (kN HO465.out)) k_ hk_.2.1), (Kd.fresh' (Kd.R_lt (kR HO468.out)) k_ hk_.2.1), (Kd.fresh' (Kd.N_lt (kN HO482.out)) k_ hk_.2.1), (Kd.freshB (g := gb444) (o := .cells #[.slice Ao26 y441.length co26] 24 (0, 0)) (kb BK444.out) k_ hk_.2.1), (Kd.freshB (g := gb460) (o := .cells #[.slice Ao42 t456.length co42] 24 (0, 0)) (kb BK460.out) k_ hk_.2.1), (Kd.freshB (g := gb470) (o := .cells #[.slice Ao50 t463.length co50] 24 (0, 0)) (kb BK470.out) k_ hk_.2.1)⟩)) (below_size (bs HB.out))); have n7_ := am (Kd.R_lower (Kd.R_new' ho1 (Kd.R_lt (kR HO468.out))) (below_size (bs HB.out))); have n8_ := am (blk_below (g := gb444) (o := .cells #[.slice Ao26 y441.length co26] 24 (0, 0)) (kb BK444.out) hb); have n9_ := am (blk_below (g := gb460) (o := .cells #[.slice Ao42 t456.length co42] 24 (0, 0)) (kb BK460.out) hb); have n10_ := am (blk_below (g := gb470) (o := .cells #[.slice Ao50 t463.length co50] 24 (0, 0)) (kb BK470.out) hb); have n11_ := am (below_step (bs HB.out) hb); clear HO443; clear HO455; clear HO458; clear HO465; clear HO468; clear HO482; clear BK444; clear BK460; clear BK470; clear HB; have HO443 := n0_; have HO455 := n1_; have HO458 := n2_; have HO465 := n3_; have HO468 := n4_; have HO482 := n5_; have HO485 := n6_; have HO488 := n7_; have BK444 := n8_; have BK460 := n9_; have BK470 := n10_; have HB := n11_; clear n0_ n1_ n2_ n3_ n4_ n5_ n6_ n7_ n8_ n9_ n10_ n11_; (try clear hb); (try clear hb2); (try clear hk); (try clear hi); (try clear ho0); (try clear ho1)) | ((with_reducible refine gate_dst (N := 11) rfl ?_); (try (refine gate_guard (by rfl) ?_; dsimp only)); refine box_event ?hg (N := 11) ?hd (cs := #[.slice none 0 0]) (t := 24) ?hr ?_; (case hd => rfl); (case hg => rfl); (case hr => first | (go_simp; done) | (go_simp; rfl)); intro gb490 hg w67 hbox hb; have n0_ := am (Kd.N_below (Kd.N_elderB (kN HO443.out) gb490 (Nat.le_of_eq hg.symm)) hb); have n1_ := am (Kd.N_below (Kd.N_elderB (kN HO455.out) gb490 (Nat.le_of_eq hg.symm)) hb); have n2_ := am (Kd.N_below (Kd.N_elderB (kN HO458.out) gb490 (Nat.le_of_eq hg.symm)) hb); have n3_ := am (Kd.N_below (Kd.N_elderB (kN HO465.out) gb490 (Nat.le_of_eq hg.symm)) hb); have n4_ := am (Kd.R_below (kR HO468.out) hb); have n5_ := am (Kd.N_below (Kd.N_elderB (kN HO482.out) gb490 (Nat.le_of_eq hg.symm)) hb); have n6_ := am (Kd.N_below (Kd.N_elderB (kN HO485.out) gb490 (Nat.le_of_eq hg.symm)) hb); have n7_ := am (Kd.R_below (kR HO488.out) hb); have n8_ := am (blk_below (g := gb444) (o := .cells #[.slice Ao26 y441.length co26] 24 (0, 0)) (kb BK444.out) hb); have n9_ := am (blk_below (g := gb460) (o := .cells #[.slice Ao42 t456.length co42] 24 (0, 0)) (kb BK460.out) hb); have n10_ := am (blk_below (g := gb470) (o := .cells #[.slice Ao50 t463.length co50] 24 (0, 0)) (kb BK470.out) hb); have n11_ := am (below_step (bs HB.out) hb); have n12_ := am (hbox); have n13_ := am ((by rw [hg]; exact (below_size (bs HB.out)) : w.heap.size ≤ gb490)); have n14_ := am ((by rw [hg]; exact (below_size (bs HB.out)) : w.heap.size ≤ gb490)); have n15_ := am ((by rw [hg]; exact Nat.ne_of_lt (blk_lt (g := gb444) (o := .cells #[.slice Ao26 y441.length co26] 24 (0, 0)) (kb BK444.out)) : gb444 ≠ gb490)); have n16_ := am ((by rw [hg]; exact Nat.ne_of_gt (blk_lt (g := gb444) (o := .cells #[.slice Ao26 y441.length co26] 24 (0, 0)) (kb BK444.out)) : gb490 ≠ gb444)); have n17_ := am ((by rw [hg]; exact Nat.ne_of_lt (blk_lt (g := gb460) (o := .cells #[.slice Ao42 t456.length co42] 24 (0, 0)) (kb BK460.out)) : gb460 ≠ gb490)); have n18_ := am ((by rw [hg]; exact Nat.ne_of_gt (blk_lt (g := gb460) (o := .cells #[.slice Ao42 t456.length co42] 24 (0, 0)) (kb BK460.out)) : gb490 ≠ gb460)); have n19_ := am ((by rw [hg]; exact Nat.ne_of_lt (blk_lt (g := gb470) (o := .cells #[.slice Ao50 t463.length co50] 24 (0, 0)) (kb BK470.out)) : gb470 ≠ gb490)); have n20_ := am ((by rw [hg]; exact Nat.ne_of_gt (blk_lt (g := gb470) (o := .cells #[.slice Ao50 t463.length co50] 24 (0, 0)) (kb BK470.out)) : gb490 ≠ gb470)); clear HO443; clear HO455; clear HO458; clear HO465; clear HO468; clear HO482; clear HO485; clear HO488; clear BK444; clear BK460; clear BK470; clear HB; have HO443 := n0_; have HO455 := n1_; have HO458 := n2_; have HO465 := n3_; have HO468 := n4_; have HO482 := n5_; have HO485 := n6_; have HO488 := n7_; have BK444 := n8_; have BK460 := n9_; have BK470 := n10_; have HB := n11_; have BK490 := n12_; have GW490 := n13_; have GE490 := n14_; have NB444_490 := n15_; have NB490_444 := n16_; have NB460_490 := n17_; have NB490_460 := n18_; have NB470_490 := n19_; have NB490_470 := n20_; clear n0_ n1_ n2_ n3_ n4_ n5_ n6_ n7_ n8_ n9_ n10_ n11_ n12_ n13_ n14_ n15_ n16_ n17_ n18_ n19_ n20_; clear hb hbox hg; obtain ⟨Ao68, co68, eo68⟩ := Kd.N_slice HO485.out; subst eo68; have hnb69 := NB490_444.out; have hnc69 := NB444_490.out; have hnb70 := NB490_460.out; have hnc70 := NB460_490.out; have hnb71 := NB490_470.out; have hnc71 := NB470_490.out; have hcz72_0 : w67.cell? ⟨gb490, 0, none⟩ = some (.slice none 0 0) := (blk_cell BK490.out 0).trans rfl; have hfz72_0 := blk_frozen BK490.out 0; have hcz73_0 : w67.cell? ⟨gb460, 0, none⟩ = some (.slice Ao42 t456.length co42) := (blk_cell BK460.out 0).trans rfl; have hfz73_0 := blk_frozen BK460.out 0) | ((with_reducible refine gate_dst (N := 66) rfl ?_); (try (refine gate_guard (by rfl) ?_; dsimp only)); refine Kd.R_lit (Kd.int .i64) _ 3 ?hg (N := 66) ?hd (xs := ([1, 0] : List Int)) (inner := [.int .i64 1, .int .i64 0]) (ok := fun _ => True) (okp := fun _ => True) ?hr ?hp (fun _ hk => hk) trivial (Below.refl _ _) (Nat.le_refl _) (by simp) ?_; (case hd => rfl); (case hg => rfl); (case hr => first | (go_simp; done) | (go_simp; rfl)); (case hp => exact (Reps.one (show Kd.M (Kd.int .i64) _ _ _ 1 [.int .i64 1] from rfl) (Reps.one (show Kd.M (Kd.int .i64) _ _ _ 0 [.int .i64 0] from rfl) (Reps.none _ _)))); intro v492 w74 ho75 hb hg_ hnew_; clear hg_ hnew_; (first | rw [← Ny491.out] at ho75 | (simp only [Int.reduceToNat] at ho75; rw [← Ny491.out] at ho75)); have n0_ := am (Kd.N_elder' (by (with_reducible repeat (first | apply Kd.N_alloc | apply Kd.N_drewN | apply Kd.N_drew)); exact (Kd.N_mono (Kd.N_far (p := ⟨gb490, 0, none⟩) (Kd.N_mono HO443.out (fun k_ hk => (⟨hk, hk.2⟩ : _ ∧ k_ ≠ gb490))) (fun _ hk => hk.2) (.slice Ao68 t483.length co68)) (fun _ h_ => h_.1))) (Kd.R_base ho75) hb); have n1_ := am (Kd.N_elder' (by (with_reducible repeat (first | apply Kd.N_alloc | apply Kd.N_drewN | apply Kd.N_drew)); exact (Kd.N_mono (Kd.N_far (p := ⟨gb490, 0, none⟩) (Kd.N_mono HO455.out (fun k_ hk => (⟨hk, hk.2⟩ : _ ∧ k_ ≠ gb490))) (fun _ hk => hk.2) (.slice Ao68 t483.length co68)) (fun _ h_ => h_.1))) (Kd.R_base ho75) hb); have n2_ := am (Kd.N_elder' (by (with_reducible repeat (first | apply Kd.N_alloc | apply Kd.N_drewN | apply Kd.N_drew)); exact (Kd.N_mono (Kd.N_far (p := ⟨gb490, 0, none⟩) (Kd.N_mono HO458.out (fun k_ hk => (⟨hk, hk.2⟩ : _ ∧ k_ ≠ gb490))) (fun _ hk => hk.2) (.slice Ao68 t483.length co68)) (fun _ h_ => h_.1))) (Kd.R_base ho75) hb); have n3_ := am (Kd.N_elder' (by (with_reducible repeat (first | apply Kd.N_alloc | apply Kd.N_drewN | apply Kd.N_drew)); exact (Kd.N_mono (Kd.N_far (p := ⟨gb490, 0, none⟩) (Kd.N_mono HO465.out (fun k_ hk => (⟨hk, hk.2⟩ : _ ∧ k_ ≠ gb490))) (fun _ hk => hk.2) (.slice Ao68 t483.length co68)) (fun _ h_ => h_.1))) (Kd.R_base ho75) hb); have n4_ := am (Kd.R_elder' (by (with_reducible repeat (first | apply Kd.R_alloc | apply Kd.R_drewN | apply Kd.R_drew)); exact (Kd.R_mono (Kd.R_far (p := ⟨gb490, 0, none⟩) (Kd.R_types HO468.out BK490.out (by decide)) (fun _ hk => hk.2) (.slice Ao68 t483.length co68)) (fun _ h_ => h_.1))) (Kd.R_base ho75) hb); have n5_ := am (Kd.N_elder' (by (with_reducible repeat (first | apply Kd.N_alloc | apply Kd.N_drewN | apply Kd.N_drew)); exact (Kd.N_mono (Kd.N_far (p := ⟨gb490, 0, none⟩) (Kd.N_mono HO482.out (fun k_ hk => (⟨hk, hk.2⟩ : _ ∧ k_ ≠ gb490))) (fun _ hk => hk.2) (.slice Ao68 t483.length co68)) (fun _ h_ => h_.1))) (Kd.R_base ho75) hb); have n6_ := am (Kd.N_elder' (by (with_reducible repeat (first | apply Kd.N_alloc | apply Kd.N_drewN | apply Kd.N_drew)); exact (Kd.N_mono (Kd.N_far (p := ⟨gb490, 0, none⟩) (Kd.N_mono HO485.out (fun k_ hk => (⟨hk, hk.2⟩ : _ ∧ k_ ≠ gb490))) (fun _ hk => hk.2) (.slice Ao68 t483.length co68)) (fun _ h_ => h_.1))) (Kd.R_base ho75) hb); have n7_ := am (Kd.R_elder' (by (with_reducible repeat (first | apply Kd.R_alloc | apply Kd.R_drewN | apply Kd.R_drew)); exact (Kd.R_mono (Kd.R_far (p := ⟨gb490, 0, none⟩) (Kd.R_types HO488.out BK490.out (by decide)) (fun _ hk => hk.2) (.slice Ao68 t483.length co68)) (fun _ h_ => h_.1))) (Kd.R_base ho75) hb); have n8_ := am (Kd.R_lower (Kd.R_new' (Kd.R_new' ho75 (Kd.R_lt (by (with_reducible repeat (first | apply Kd.R_alloc | apply Kd.R_drewN | apply Kd.R_drew)); exact (Kd.R_mono (Kd.R_far (p := ⟨gb490, 0, none⟩) (Kd.R_types HO468.out BK490.out (by decide)) (fun _ hk => hk.2) (.slice Ao68 t483.length co68)) (fun _ h_ => h_.1))))) (Kd.R_lt (by (with_reducible repeat (first | apply Kd.R_alloc | apply Kd.R_drewN | apply Kd.R_drew)); exact (Kd.R_mono (Kd.R_far (p := ⟨gb490, 0, none⟩) (Kd.R_types HO488.out BK490.out (by decide)) (fun _ hk => hk.2) (.slice Ao68 t483.length co68)) (fun _ h_ => h_.1))))) (below_size (bs HB.out))); have n9_ := am (blk_below (g := gb444) (o := .cells #[.slice Ao26 y441.length co26] 24 (0, 0)) (by (with_reducible repeat (first | refine blk_drewN ?_ _ | refine blk_drew ?_ | refine blk_alloc ?_ _)); refine blk_far ?_ NB444_490.out _; (with_reducible repeat (first | refine blk_drewN ?_ _ | refine blk_drew ?_ | refine blk_alloc ?_ _)); exact BK444.out) hb); have n10_ := am (blk_below (g := gb460) (o := .cells #[.slice Ao42 t456.length co42] 24 (0, 0)) (by (with_reducible repeat (first | refine blk_drewN ?_ _ | refine blk_drew ?_ | refine blk_alloc ?_ _)); refine blk_far ?_ NB460_490.out _; (with_reducible repeat (first | refine blk_drewN ?_ _ | refine blk_drew ?_ | refine blk_alloc ?_ _)); exact BK460.out) hb); have n11_ := am (blk_below (g := gb470) (o := .cells #[.slice Ao50 t463.length co50] 24 (0, 0)) (by (with_reducible repeat (first | refine blk_drewN ?_ _ | refine blk_drew ?_ | refine blk_alloc ?_ _)); refine blk_far ?_ NB470_490.out _; (with_reducible repeat (first | refine blk_drewN ?_ _ | refine blk_drew ?_ | refine blk_alloc ?_ _)); exact BK470.out) hb); have n12_ := am (blk_below (g := gb490) (o := .cells #[.slice Ao68 t483.length co68] 24 (0, 0)) (by (with_reducible repeat (first | refine blk_drewN ?_ _ | refine blk_drew ?_ | refine blk_alloc ?_ _)); refine blk_put (cs := #[.slice none 0 0]) ?_ 0 _ rfl; (with_reducible repeat (first | refine blk_drewN ?_ _ | refine blk_drew ?_ | refine blk_alloc ?_ _)); exact BK490.out) hb); have n13_ := am (below_step (bs HB.out) hb); clear HO443; clear HO455; clear HO458; clear HO465; clear HO468; clear HO482; clear HO485; clear HO488; clear BK444; clear BK460; clear BK470; clear BK490; clear HB; have HO443 := n0_; have HO455 := n1_; have HO458 := n2_; have HO465 := n3_; have HO468 := n4_; have HO482 := n5_; have HO485 := n6_; have HO488 := n7_; have HO493 := n8_; have BK444 := n9_; have BK460 := n10_; have BK470 := n11_; have BK490 := n12_; have HB := n13_; clear n0_ n1_ n2_ n3_ n4_ n5_ n6_ n7_ n8_ n9_ n10_ n11_ n12_ n13_; clear hb ho75) | ((with_reducible refine gate_dst (N := 67) rfl ?_); (try (refine gate_guard (by rfl) ?_; dsimp only)); refine Kd.R_lit (Kd.int .i64) _ 3 ?hg (N := 67) ?hd (xs := ([1, 0] : List Int)) (inner := [.int .i64 1, .int .i64 0]) (ok := fun _ => True) (okp := fun _ => True) ?hr ?hp (fun _ hk => hk) trivial (Below.refl _ _) (Nat.le_refl _) (by simp) ?_; (case hd => rfl); (case hg => rfl); (case hr => first | (go_simp; done) | (go_simp; rfl)); (case hp => exact (Reps.one (show Kd.M (Kd.int .i64) _ _ _ 1 [.int .i64 1] from rfl) (Reps.one (show Kd.M (Kd.int .i64) _ _ _ 0 [.int .i64 0] from rfl) (Reps.none _ _)))); intro v495 w76 ho77 hb hg_ hnew_; clear hg_ hnew_; (first | rw [← Ny494.out] at ho77 | (simp only [Int.reduceToNat] at ho77; rw [← Ny494.out] at ho77)); have n0_ := am (Kd.N_elder' (kN HO443.out) (Kd.R_base ho77) hb); have n1_ := am (Kd.N_elder' (kN HO455.out) (Kd.R_base ho77) hb); have n2_ := am (Kd.N_elder' (kN HO458.out) (Kd.R_base ho77) hb); have n3_ := am (Kd.N_elder' (kN HO465.out) (Kd.R_base ho77) hb); have n4_ := am (Kd.R_elder' (kR HO468.out) (Kd.R_base ho77) hb); have n5_ := am (Kd.N_elder' (kN HO482.out) (Kd.R_base ho77) hb); have n6_ := am (Kd.N_elder' (kN HO485.out) (Kd.R_base ho77) hb); have n7_ := am (Kd.R_elder' (kR HO488.out) (Kd.R_base ho77) hb); have n8_ := am (Kd.R_elder' (kR HO493.out) (Kd.R_base ho77) hb); have n9_ := am (Kd.R_lower (Kd.R_new' (Kd.R_new' (Kd.R_new' ho77 (Kd.R_lt (kR HO468.out))) (Kd.R_lt (kR HO488.out))) (Kd.R_lt (kR HO493.out))) (below_size (bs HB.out))); have n10_ := am (blk_below (g := gb444) (o := .cells #[.slice Ao26 y441.length co26] 24 (0, 0)) (kb BK444.out) hb); have n11_ := am (blk_below (g := gb460) (o := .cells #[.slice Ao42 t456.length co42] 24 (0, 0)) (kb BK460.out) hb); have n12_ := am (blk_below (g := gb470) (o := .cells #[.slice Ao50 t463.length co50] 24 (0, 0)) (kb BK470.out) hb); have n13_ := am (blk_below (g := gb490) (o := .cells #[.slice Ao68 t483.length co68] 24 (0, 0)) (kb BK490.out) hb); have n14_ := am (below_step (bs HB.out) hb); clear HO443; clear HO455; clear HO458; clear HO465; clear HO468; clear HO482; clear HO485; clear HO488; clear HO493; clear BK444; clear BK460; clear BK470; clear BK490; clear HB; have HO443 := n0_; have HO455 := n1_; have HO458 := n2_; have HO465 := n3_; have HO468 := n4_; have HO482 := n5_; have HO485 := n6_; have HO488 := n7_; have HO493 := n8_; have HO496 := n9_; have BK444 := n10_; have BK460 := n11_; have BK470 := n12_; have BK490 := n13_; have HB := n14_; clear n0_ n1_ n2_ n3_ n4_ n5_ n6_ n7_ n8_ n9_ n10_ n11_ n12_ n13_ n14_; clear hb ho77; obtain ⟨Ao78, co78, eo78⟩ := Kd.R_slice HO493.out; subst eo78; obtain ⟨Ao79, co79, eo79⟩ := Kd.R_slice HO496.out; subst eo79) | ((with_reducible refine gate_dst (N := 68) rfl ?_); (try (refine gate_guard (by rfl) ?_; dsimp only)); refine Kd.N_lit (Kd.slice 3 (Kd.int .i64)) _ 28 ?hg (N' := 68) ?hd (xs := ([y491, y494] : List (List Int))) (inner := [.slice Ao78 y491.length co78, .slice Ao79 y494.length co79]) (ok := (fun k_ => some k_ ≠ (.slice Ao26 y441.length co26 : Value).ownBlock ∧ some k_ ≠ (.slice Ao39 y453.length co39 : Value).ownBlock ∧ some k_ ≠ (.slice Ao42 t456.length co42 : Value).ownBlock ∧ some k_ ≠ (.slice Ao50 t463.length co50 : Value).ownBlock ∧ some k_ ≠ (v467 : Value).ownBlock ∧ some k_ ≠ (.slice Ao65 y480.length co65 : Value).ownBlock ∧ some k_ ≠ (.slice Ao68 t483.length co68 : Value).ownBlock ∧ some k_ ≠ (v487 : Value).ownBlock ∧ k_ ≠ gb444 ∧ k_ ≠ gb460 ∧ k_ ≠ gb470 ∧ k_ ≠ gb490)) (okp := (fun k_ => some k_ ≠ (.slice Ao26 y441.length co26 : Value).ownBlock ∧ some k_ ≠ (.slice Ao39 y453.length co39 : Value).ownBlock ∧ some k_ ≠ (.slice Ao42 t456.length co42 : Value).ownBlock ∧ some k_ ≠ (.slice Ao50 t463.length co50 : Value).ownBlock ∧ some k_ ≠ (v467 : Value).ownBlock ∧ some k_ ≠ (.slice Ao65 y480.length co65 : Value).ownBlock ∧ some k_ ≠ (.slice Ao68 t483.length co68 : Value).ownBlock ∧ some k_ ≠ (v487 : Value).ownBlock ∧ k_ ≠ gb444 ∧ k_ ≠ gb460 ∧ k_ ≠ gb470 ∧ k_ ≠ gb490)) ?hr ?hp (fun _ hk => hk) ((show ∀ k_, w76.heap.size ≤ k_ → (fun k_ => some k_ ≠ (.slice Ao26 y441.length co26 : Value).ownBlock ∧ some k_ ≠ (.slice Ao39 y453.length co39 : Value).ownBlock ∧ some k_ ≠ (.slice Ao42 t456.length co42 : Value).ownBlock ∧ some k_ ≠ (.slice Ao50 t463.length co50 : Value).ownBlock ∧ some k_ ≠ (v467 : Value).ownBlock ∧ some k_ ≠ (.slice Ao65 y480.length co65 : Value).ownBlock ∧ some k_ ≠ (.slice Ao68 t483.length co68 : Value).ownBlock ∧ some k_ ≠ (v487 : Value).ownBlock ∧ k_ ≠ gb444 ∧ k_ ≠ gb460 ∧ k_ ≠ gb470 ∧ k_ ≠ gb490) k_ from fun k_ hk => ⟨Kd.fresh' (Kd.N_lt (kN HO443.out)) k_ hk, Kd.fresh' (Kd.N_lt (kN HO455.out)) k_ hk, Kd.fresh' (Kd.N_lt (kN HO458.out)) k_ hk, Kd.fresh' (Kd.N_lt (kN HO465.out)) k_ hk, Kd.fresh' (Kd.R_lt (kR HO468.out)) k_ hk, Kd.fresh' (Kd.N_lt (kN HO482.out)) k_ hk, Kd.fresh' (Kd.N_lt (kN HO485.out)) k_ hk, Kd.fresh' (Kd.R_lt (kR HO488.out)) k_ hk, Kd.freshB (g := gb444) (o := .cells #[.slice Ao26 y441.length co26] 24 (0, 0)) (kb BK444.out) k_ hk, Kd.freshB (g := gb460) (o := .cells #[.slice Ao42 t456.length co42] 24 (0, 0)) (kb BK460.out) k_ hk, Kd.freshB (g := gb470) (o := .cells #[.slice Ao50 t463.length co50] 24 (0, 0)) (kb BK470.out) k_ hk, Kd.freshB (g := gb490) (o := .cells #[.slice Ao68 t483.length co68] 24 (0, 0)) (kb BK490.out) k_ hk⟩) _ (Nat.le_refl _)) (Below.refl _ _) (Nat.le_refl _) (by simp) ?_; (case hd => rfl); (case hg => rfl); (case hr => first | (go_simp; done) | (go_simp; rfl)); (case hp => exact (Reps.one (show Kd.FK (Kd.slice 3 (Kd.int .i64)) _ _ y491 [.slice Ao78 y491.length co78] from (Kd.FK_slice_mk (Kd.R_reads' (Kd.R_mono (ok' := (fun k_ => some k_ ≠ (.slice Ao26 y441.length co26 : Value).ownBlock ∧ some k_ ≠ (.slice Ao39 y453.length co39 : Value).ownBlock ∧ some k_ ≠ (.slice Ao42 t456.length co42 : Value).ownBlock ∧ some k_ ≠ (.slice Ao50 t463.length co50 : Value).ownBlock ∧ some k_ ≠ (v467 : Value).ownBlock ∧ some k_ ≠ (.slice Ao65 y480.length co65 : Value).ownBlock ∧ some k_ ≠ (.slice Ao68 t483.length co68 : Value).ownBlock ∧ some k_ ≠ (v487 : Value).ownBlock ∧ k_ ≠ gb444 ∧ k_ ≠ gb460 ∧ k_ ≠ gb470 ∧ k_ ≠ gb490)) (Kd.R_types (Kd.R_types (Kd.R_types (Kd.R_types (Kd.R_apart' (Kd.R_apart' (Kd.R_apart' (Kd.R_apart' (Kd.R_apart' (Kd.R_apart' (HO493.out) (Kd.N_typed HO443.out) (by decide)) (Kd.N_typed HO455.out) (by decide)) (Kd.N_typed HO458.out) (by decide)) (Kd.N_typed HO465.out) (by decide)) (Kd.N_typed HO482.out) (by decide)) (Kd.N_typed HO485.out) (by decide)) BK444.out (by decide)) BK460.out (by decide)) BK470.out (by decide)) BK490.out (by decide)) (fun k_ hk => ⟨hk.1.1.1.1.1.1.1.1.1.2, ⟨hk.1.1.1.1.1.1.1.1.2, ⟨hk.1.1.1.1.1.1.1.2, ⟨hk.1.1.1.1.1.1.2, ⟨hk.1.1.1.1.1.1.1.1.1.1.1.1.2, ⟨hk.1.1.1.1.1.2, ⟨hk.1.1.1.1.2, ⟨hk.1.1.1.1.1.1.1.1.1.1.1.2, ⟨hk.1.1.1.2, ⟨hk.1.1.2, ⟨hk.1.2, hk.2⟩⟩⟩⟩⟩⟩⟩⟩⟩⟩⟩))).2.1 (Kd.R_F (Kd.R_mono (ok' := (fun k_ => some k_ ≠ (.slice Ao26 y441.length co26 : Value).ownBlock ∧ some k_ ≠ (.slice Ao39 y453.length co39 : Value).ownBlock ∧ some k_ ≠ (.slice Ao42 t456.length co42 : Value).ownBlock ∧ some k_ ≠ (.slice Ao50 t463.length co50 : Value).ownBlock ∧ some k_ ≠ (v467 : Value).ownBlock ∧ some k_ ≠ (.slice Ao65 y480.length co65 : Value).ownBlock ∧ some k_ ≠ (.slice Ao68 t483.length co68 : Value).ownBlock ∧ some k_ ≠ (v487 : Value).ownBlock ∧ k_ ≠ gb444 ∧ k_ ≠ gb460 ∧ k_ ≠ gb470 ∧ k_ ≠ gb490)) (Kd.R_types (Kd.R_types (Kd.R_types (Kd.R_types (Kd.R_apart' (Kd.R_apart' (Kd.R_apart' (Kd.R_apart' (Kd.R_apart' (Kd.R_apart' (HO493.out) (Kd.N_typed HO443.out) (by decide)) (Kd.N_typed HO455.out) (by decide)) (Kd.N_typed HO458.out) (by decide)) (Kd.N_typed HO465.out) (by decide)) (Kd.N_typed HO482.out) (by decide)) (Kd.N_typed HO485.out) (by decide)) BK444.out (by decide)) BK460.out (by decide)) BK470.out (by decide)) BK490.out (by decide)) (fun k_ hk => ⟨hk.1.1.1.1.1.1.1.1.1.2, ⟨hk.1.1.1.1.1.1.1.1.2, ⟨hk.1.1.1.1.1.1.1.2, ⟨hk.1.1.1.1.1.1.2, ⟨hk.1.1.1.1.1.1.1.1.1.1.1.1.2, ⟨hk.1.1.1.1.1.2, ⟨hk.1.1.1.1.2, ⟨hk.1.1.1.1.1.1.1.1.1.1.1.2, ⟨hk.1.1.1.2, ⟨hk.1.1.2, ⟨hk.1.2, hk.2⟩⟩⟩⟩⟩⟩⟩⟩⟩⟩⟩))))) (Reps.one (show Kd.FK (Kd.slice 3 (Kd.int .i64)) _ _ y494 [.slice Ao79 y494.length co79] from (Kd.FK_slice_mk (Kd.R_reads' (Kd.R_mono (ok' := (fun k_ => some k_ ≠ (.slice Ao26 y441.length co26 : Value).ownBlock ∧ some k_ ≠ (.slice Ao39 y453.length co39 : Value).ownBlock ∧ some k_ ≠ (.slice Ao42 t456.length co42 : Value).ownBlock ∧ some k_ ≠ (.slice Ao50 t463.length co50 : Value).ownBlock ∧ some k_ ≠ (v467 : Value).ownBlock ∧ some k_ ≠ (.slice Ao65 y480.length co65 : Value).ownBlock ∧ some k_ ≠ (.slice Ao68 t483.length co68 : Value).ownBlock ∧ some k_ ≠ (v487 : Value).ownBlock ∧ k_ ≠ gb444 ∧ k_ ≠ gb460 ∧ k_ ≠ gb470 ∧ k_ ≠ gb490)) (Kd.R_types (Kd.R_types (Kd.R_types (Kd.R_types (Kd.R_apart' (Kd.R_apart' (Kd.R_apart' (Kd.R_apart' (Kd.R_apart' (Kd.R_apart' (HO496.out) (Kd.N_typed HO443.out) (by decide)) (Kd.N_typed HO455.out) (by decide)) (Kd.N_typed HO458.out) (by decide)) (Kd.N_typed HO465.out) (by decide)) (Kd.N_typed HO482.out) (by decide)) (Kd.N_typed HO485.out) (by decide)) BK444.out (by decide)) BK460.out (by decide)) BK470.out (by decide)) BK490.out (by decide)) (fun k_ hk => ⟨hk.1.1.1.1.1.1.1.1.1.2, ⟨hk.1.1.1.1.1.1.1.1.2, ⟨hk.1.1.1.1.1.1.1.2, ⟨hk.1.1.1.1.1.1.2, ⟨hk.1.1.1.1.1.1.1.1.1.1.1.1.2, ⟨hk.1.1.1.1.1.2, ⟨hk.1.1.1.1.2, ⟨hk.1.1.1.1.1.1.1.1.1.1.1.2, ⟨hk.1.1.1.2, ⟨hk.1.1.2, ⟨hk.1.2, hk.2⟩⟩⟩⟩⟩⟩⟩⟩⟩⟩⟩))).2.1 (Kd.R_F (Kd.R_mono (ok' := (fun k_ => some k_ ≠ (.slice Ao26 y441.length co26 : Value).ownBlock ∧ some k_ ≠ (.slice Ao39 y453.length co39 : Value).ownBlock ∧ some k_ ≠ (.slice Ao42 t456.length co42 : Value).ownBlock ∧ some k_ ≠ (.slice Ao50 t463.length co50 : Value).ownBlock ∧ some k_ ≠ (v467 : Value).ownBlock ∧ some k_ ≠ (.slice Ao65 y480.length co65 : Value).ownBlock ∧ some k_ ≠ (.slice Ao68 t483.length co68 : Value).ownBlock ∧ some k_ ≠ (v487 : Value).ownBlock ∧ k_ ≠ gb444 ∧ k_ ≠ gb460 ∧ k_ ≠ gb470 ∧ k_ ≠ gb490)) (Kd.R_types (Kd.R_types (Kd.R_types (Kd.R_types (Kd.R_apart' (Kd.R_apart' (Kd.R_apart' (Kd.R_apart' (Kd.R_apart' (Kd.R_apart' (HO496.out) (Kd.N_typed HO443.out) (by decide)) (Kd.N_typed HO455.out) (by decide)) (Kd.N_typed HO458.out) (by decide)) (Kd.N_typed HO465.out) (by decide)) (Kd.N_typed HO482.out) (by decide)) (Kd.N_typed HO485.out) (by decide)) BK444.out (by decide)) BK460.out (by decide)) BK470.out (by decide)) BK490.out (by decide)) (fun k_ hk => ⟨hk.1.1.1.1.1.1.1.1.1.2, ⟨hk.1.1.1.1.1.1.1.1.2, ⟨hk.1.1.1.1.1.1.1.2, ⟨hk.1.1.1.1.1.1.2, ⟨hk.1.1.1.1.1.1.1.1.1.1.1.1.2, ⟨hk.1.1.1.1.1.2, ⟨hk.1.1.1.1.2, ⟨hk.1.1.1.1.1.1.1.1.1.1.1.2, ⟨hk.1.1.1.2, ⟨hk.1.1.2, ⟨hk.1.2, hk.2⟩⟩⟩⟩⟩⟩⟩⟩⟩⟩⟩))))) (Reps.none _ _)))); intro v498 w80 ho81 hb hg_ hnew_; clear hg_ hnew_; (first | rw [← Ny497.out] at ho81 | (simp only [Int.reduceToNat] at ho81; rw [← Ny497.out] at ho81)); have n0_ := am (Kd.N_elder' (kN HO443.out) (by first | exact Kd.N_base ho81 | exact Kd.S_base ho81 | exact Kd.R_base ho81) hb); have n1_ := am (Kd.N_elder' (kN HO455.out) (by first | exact Kd.N_base ho81 | exact Kd.S_base ho81 | exact Kd.R_base ho81) hb); have n2_ := am (Kd.N_elder' (kN HO458.out) (by first | exact Kd.N_base ho81 | exact Kd.S_base ho81 | exact Kd.R_base ho81) hb); have n3_ := am (Kd.N_elder' (kN HO465.out) (by first | exact Kd.N_base ho81 | exact Kd.S_base ho81 | exact Kd.R_base ho81) hb); have n4_ := am (Kd.R_below (kR HO468.out) hb); have n5_ := am (Kd.N_elder' (kN HO482.out) (by first | exact Kd.N_base ho81 | exact Kd.S_base ho81 | exact Kd.R_base ho81) hb); have n6_ := am (Kd.N_elder' (kN HO485.out) (by first | exact Kd.N_base ho81 | exact Kd.S_base ho81 | exact Kd.R_base ho81) hb); have n7_ := am (Kd.R_below (kR HO488.out) hb); have n8_ := am (Kd.N_lower ho81 (below_size (bs HB.out))); have n9_ := am (blk_below (g := gb444) (o := .cells #[.slice Ao26 y441.length co26] 24 (0, 0)) (kb BK444.out) hb); have n10_ := am (blk_below (g := gb460) (o := .cells #[.slice Ao42 t456.length co42] 24 (0, 0)) (kb BK460.out) hb); have n11_ := am (blk_below (g := gb470) (o := .cells #[.slice Ao50 t463.length co50] 24 (0, 0)) (kb BK470.out) hb); have n12_ := am (blk_below (g := gb490) (o := .cells #[.slice Ao68 t483.length co68] 24 (0, 0)) (kb BK490.out) hb); have n13_ := am (below_step (bs HB.out) hb); clear HO443; clear HO455; clear HO458; clear HO465; clear HO468; clear HO482; clear HO485; clear HO488; clear BK444; clear BK460; clear BK470; clear BK490; clear HB; clear HO493; clear HO496; have HO443 := n0_; have HO455 := n1_; have HO458 := n2_; have HO465 := n3_; have HO468 := n4_; have HO482 := n5_; have HO485 := n6_; have HO488 := n7_; have HO499 := n8_; have BK444 := n9_; have BK460 := n10_; have BK470 := n11_; have BK490 := n12_; have HB := n13_; clear n0_ n1_ n2_ n3_ n4_ n5_ n6_ n7_ n8_ n9_ n10_ n11_ n12_ n13_; clear hb ho81; obtain ⟨Ao82, co82, eo82⟩ := Kd.N_slice HO499.out; subst eo82) | (go_at_call 27; (with_reducible refine (mizmazeref01_Sames.calls k _ _ t456 _ _ y497 true _ ?side1 ?side2 ?side3 ?side4 A9.out).mono ?_); (case side1 => repeat (first | exact (Kd.N_reads' HO458.out).2.2 | (with_reducible refine Kd.C_alloc ?_ _) | (with_reducible refine Kd.C_drewN ?_ _) | (with_reducible refine Kd.C_drew ?_))); (case side2 => exact (Kd.N_reads' HO458.out).2.1); (case side3 => repeat (first | exact (Kd.N_reads' HO499.out).2.2 | (with_reducible refine Kd.C_alloc ?_ _) | (with_reducible refine Kd.C_drewN ?_ _) | (with_reducible refine Kd.C_drew ?_))); (case side4 => exact (Kd.N_reads' HO499.out).2.1); rintro e w' ⟨rfl, ⟨nd, rfl⟩⟩; have hcz83_0 : w80.cell? ⟨gb470, 0, none⟩ = some (.slice Ao50 t463.length co50) := (blk_cell BK470.out 0).trans rfl; have hfz83_0 := blk_frozen BK470.out 0) | (go_at_call 18; (with_reducible refine (mizmazeref01_Valid.calls k _ _ t463 true _ ?side1 ?side2 A14.out).mono ?_); (case side1 => repeat (first | exact (Kd.N_reads' HO465.out).2.2 | (with_reducible refine Kd.C_alloc ?_ _) | (with_reducible refine Kd.C_drewN ?_ _) | (with_reducible refine Kd.C_drew ?_))); (case side2 => exact (Kd.N_reads' HO465.out).2.1); rintro e w84 ⟨rfl, hb⟩; have n0_ := am (Kd.N_below (kN HO443.out) hb); have n1_ := am (Kd.N_below (kN HO455.out) hb); have n2_ := am (Kd.N_below (kN HO458.out) hb); have n3_ := am (Kd.N_below (kN HO465.out) hb); have n4_ := am (Kd.R_below (kR HO468.out) hb); have n5_ := am (Kd.N_below (kN HO482.out) hb); have n6_ := am (Kd.N_below (kN HO485.out) hb); have n7_ := am (Kd.R_below (kR HO488.out) hb); have n8_ := am (Kd.N_below (kN HO499.out) hb); have n9_ := am (blk_below (g := gb444) (o := .cells #[.slice Ao26 y441.length co26] 24 (0, 0)) (kb BK444.out) hb); have n10_ := am (blk_below (g := gb460) (o := .cells #[.slice Ao42 t456.length co42] 24 (0, 0)) (kb BK460.out) hb); have n11_ := am (blk_below (g := gb470) (o := .cells #[.slice Ao50 t463.length co50] 24 (0, 0)) (kb BK470.out) hb); have n12_ := am (blk_below (g := gb490) (o := .cells #[.slice Ao68 t483.length co68] 24 (0, 0)) (kb BK490.out) hb); have n13_ := am (below_step (bs HB.out) hb); clear HO443; clear HO455; clear HO458; clear HO465; clear HO468; clear HO482; clear HO485; clear HO488; clear HO499; clear BK444; clear BK460; clear BK470; clear BK490; clear HB; have HO443 := n0_; have HO455 := n1_; have HO458 := n2_; have HO465 := n3_; have HO468 := n4_; have HO482 := n5_; have HO485 := n6_; have HO488 := n7_; have HO499 := n8_; have BK444 := n9_; have BK460 := n10_; have BK470 := n11_; have BK490 := n12_; have HB := n13_; clear n0_ n1_ n2_ n3_ n4_ n5_ n6_ n7_ n8_ n9_ n10_ n11_ n12_ n13_; (try clear hb); (try clear hb2); (try clear hk); (try clear hi); have hcz85_0 : w84.cell? ⟨gb470, 0, none⟩ = some (.slice Ao50 t463.length co50) := (blk_cell BK470.out 0).trans rfl; have hfz85_0 := blk_frozen BK470.out 0; obtain ⟨Ao86, co86, eo86⟩ := Kd.R_slice HO468.out; subst eo86) | (go_at_call 50; (with_reducible refine (mizmazeref03_Resets.calls k _ _ t463 _ _ t466 true _ ?side1 ?side2 ?side3 ?side4 A16.out).mono ?_); (case side1 => repeat (first | exact (Kd.N_reads' HO465.out).2.2 | (with_reducible refine Kd.C_alloc ?_ _) | (with_reducible refine Kd.C_drewN ?_ _) | (with_reducible refine Kd.C_drew ?_))); (case side2 => exact (Kd.N_reads' HO465.out).2.1); (case side3 => repeat (first | exact (Kd.R_reads' HO468.out).2.2 | (with_reducible refine Kd.C_alloc ?_ _) | (with_reducible refine Kd.C_drewN ?_ _) | (with_reducible refine Kd.C_drew ?_))); (case side4 => exact (Kd.R_reads' HO468.out).2.1); rintro e w87 ⟨rfl, hb⟩; have n0_ := am (Kd.N_below (kN HO443.out) hb); have n1_ := am (Kd.N_below (kN HO455.out) hb); have n2_ := am (Kd.N_below (kN HO458.out) hb); have n3_ := am (Kd.N_below (kN HO465.out) hb); have n4_ := am (Kd.R_below (kR HO468.out) hb); have n5_ := am (Kd.N_below (kN HO482.out) hb); have n6_ := am (Kd.N_below (kN HO485.out) hb); have n7_ := am (Kd.R_below (kR HO488.out) hb); have n8_ := am (Kd.N_below (kN HO499.out) hb); have n9_ := am (blk_below (g := gb444) (o := .cells #[.slice Ao26 y441.length co26] 24 (0, 0)) (kb BK444.out) hb); have n10_ := am (blk_below (g := gb460) (o := .cells #[.slice Ao42 t456.length co42] 24 (0, 0)) (kb BK460.out) hb); have n11_ := am (blk_below (g := gb470) (o := .cells #[.slice Ao50 t463.length co50] 24 (0, 0)) (kb BK470.out) hb); have n12_ := am (blk_below (g := gb490) (o := .cells #[.slice Ao68 t483.length co68] 24 (0, 0)) (kb BK490.out) hb); have n13_ := am (below_step (bs HB.out) hb); clear HO443; clear HO455; clear HO458; clear HO465; clear HO468; clear HO482; clear HO485; clear HO488; clear HO499; clear BK444; clear BK460; clear BK470; clear BK490; clear HB; have HO443 := n0_; have HO455 := n1_; have HO458 := n2_; have HO465 := n3_; have HO468 := n4_; have HO482 := n5_; have HO485 := n6_; have HO488 := n7_; have HO499 := n8_; have BK444 := n9_; have BK460 := n10_; have BK470 := n11_; have BK490 := n12_; have HB := n13_; clear n0_ n1_ n2_ n3_ n4_ n5_ n6_ n7_ n8_ n9_ n10_ n11_ n12_ n13_; (try clear hb); (try clear hb2); (try clear hk); (try clear hi)))
 go_ret
 exact ⟨by first | rfl | (simp [errW_none, errW_some] <;> rfl) | (simp [*, errW_none, errW_some] <;> rfl), by repeat (first | (with_reducible first | exact HB.out | apply ba | apply pb | apply bd | refine below_set ?_ GE444.out | refine below_set ?_ GE460.out | refine below_set ?_ GE470.out | refine below_set ?_ GE490.out) | exact HB.out)⟩
end Go.Proofs.Ytjgdalhdiohclaa.Q
end
/-! Part QLaw05ColorMakes -/
section
-- Written by xprint.py, a program of this session's, over the kit's print. Lean checks it.
namespace Go.Proofs.Ytjgdalhdiohclaa.Q
attribute [local go_sem] max2_int min2_int max_two min_two max_three min_three max_four min_four
set_option linter.unusedVariables false
set_option linter.unusedSimpArgs false

/-! ### mizmazelaw05_ColorMakes: function 9 -/
mutual
def mizmazelaw05_ColorMakes.j0 : Nat → Int → Bool → Int → Int → List (List Int) → List (List Int) → List (List Int) → List (List Int) → Option (Bool)
 | 0, _, _, _, _, _, _, _, _ => none
 | k + 1, x8, x9, x10, x12, x513000, x514000, x519000, x522000 => if x8 = x12 then ((mizmazeref01_Sames.f k x519000 x522000).bind fun t527 => (mizmazelaw05_ColorMakes.j1 k x9 x10 (!t527) x513000 x514000)) else (mizmazelaw05_ColorMakes.j1 k x9 x10 true x513000 x514000)
def mizmazelaw05_ColorMakes.j1 : Nat → Bool → Int → Bool → List (List Int) → List (List Int) → Option (Bool)
 | 0, _, _, _, _, _ => none
 | k + 1, x9, x10, x47, x513000, x514000 => if x47 = true then (some false) else ((mizmazeref01_Valid.f k x513000).bind fun t528 => (if t528 = true then ((mizmazeref01_Valid.f k x514000).bind fun t529 => (mizmazelaw05_ColorMakes.j2 k x9 x10 (!t529) x513000 x514000)) else (mizmazelaw05_ColorMakes.j2 k x9 x10 true x513000 x514000)))
def mizmazelaw05_ColorMakes.j2 : Nat → Bool → Int → Bool → List (List Int) → List (List Int) → Option (Bool)
 | 0, _, _, _, _, _ => none
 | k + 1, x9, x10, x55, x513000, x514000 => if x55 = true then (if x10 = 1 then (if x9 = true then (some false) else ((mizmazelaw05_awake.f k).bind fun t530 => (some t530))) else (some false)) else (if x10 = 0 then ((mizmazeref05_Same.f k x513000 x514000).bind fun t531 => (if (x9 == t531) = true then ((mizmazelaw05_awake.f k).bind fun t532 => (some t532)) else (some false))) else (some false))
end
def mizmazelaw05_ColorMakes.f (k : Nat) (l0_0 : List (List Int)) (l1_0 : List (List Int)) (l2 : List (List Int)) : Option (Bool) := (color_Colored.f k l0_0 l2).bind fun bt514 => ((color_Same.f k l0_0 l1_0).bind fun bt519 => ((mizmazeref01_Valid.f k l0_0).bind fun t522 => (if t522 = true then ((mizmazeref05_Perms.f k l0_0 l2).bind fun t523 => (if t523 = true then ((mizmazeref05_Colored.f k l0_0 l2).bind fun t524 => (mizmazelaw05_ColorMakes.j0 k bt514.2 bt519.1 bt519.2 0 l0_0 l1_0 bt514.1 t524)) else (mizmazelaw05_ColorMakes.j0 k bt514.2 bt519.1 bt519.2 2 l0_0 l1_0 bt514.1 ([] : List (List Int))))) else (mizmazelaw05_ColorMakes.j0 k bt514.2 bt519.1 bt519.2 1 l0_0 l1_0 bt514.1 ([] : List (List Int))))))
theorem mizmazelaw05_ColorMakes.mono_l : ∀ k, (∀ y0 y1 y2 y3 y4 y5 y6 y7, LeO (mizmazelaw05_ColorMakes.j0 k y0 y1 y2 y3 y4 y5 y6 y7) (mizmazelaw05_ColorMakes.j0 (k + 1) y0 y1 y2 y3 y4 y5 y6 y7)) ∧ (∀ y0 y1 y2 y3 y4, LeO (mizmazelaw05_ColorMakes.j1 k y0 y1 y2 y3 y4) (mizmazelaw05_ColorMakes.j1 (k + 1) y0 y1 y2 y3 y4)) ∧ (∀ y0 y1 y2 y3 y4, LeO (mizmazelaw05_ColorMakes.j2 k y0 y1 y2 y3 y4) (mizmazelaw05_ColorMakes.j2 (k + 1) y0 y1 y2 y3 y4))
 | 0 => ⟨fun _ _ _ _ _ _ _ _ r h => by simp [mizmazelaw05_ColorMakes.j0] at h, fun _ _ _ _ _ r h => by simp [mizmazelaw05_ColorMakes.j1] at h, fun _ _ _ _ _ r h => by simp [mizmazelaw05_ColorMakes.j2] at h⟩
 | k + 1 => by
  obtain ⟨ih0, ih1, ih2⟩ := mizmazelaw05_ColorMakes.mono_l k
  refine ⟨?_, ?_, ?_⟩
  ·intro y0 y1 y2 y3 y4 y5 y6 y7
   unfold mizmazelaw05_ColorMakes.j0
   repeat' first
   | (with_reducible exact ih0 _ _ _ _ _ _ _ _)
   | (with_reducible exact ih1 _ _ _ _ _)
   | (with_reducible exact ih2 _ _ _ _ _)
   | (with_reducible exact color_Colored.mono _ _ _)
   | (with_reducible exact color_Same.mono _ _ _)
   | (with_reducible exact mizmazelaw05_awake.mono _)
   | (with_reducible exact mizmazeref01_Sames.mono _ _ _)
   | (with_reducible exact mizmazeref01_Valid.mono _ _)
   | (with_reducible exact mizmazeref05_Colored.mono _ _ _)
   | (with_reducible exact mizmazeref05_Perms.mono _ _ _)
   | (with_reducible exact mizmazeref05_Same.mono _ _ _)
   | (with_reducible exact LeO.refl _)
   | (with_reducible exact LeO.none _)
   | (with_reducible refine LeO.ite ?_ ?_)
   | (with_reducible refine LeO.bind ?_ (fun _ => ?_))
   | exact ih0 _ _ _ _ _ _ _ _
   | exact ih1 _ _ _ _ _
   | exact ih2 _ _ _ _ _
   | exact color_Colored.mono _ _ _
   | exact color_Same.mono _ _ _
   | exact mizmazelaw05_awake.mono _
   | exact mizmazeref01_Sames.mono _ _ _
   | exact mizmazeref01_Valid.mono _ _
   | exact mizmazeref05_Colored.mono _ _ _
   | exact mizmazeref05_Perms.mono _ _ _
   | exact mizmazeref05_Same.mono _ _ _
   | exact LeO.none _
   | refine LeO.ite ?_ ?_
   | refine LeO.bind ?_ (fun _ => ?_)
  ·intro y0 y1 y2 y3 y4
   unfold mizmazelaw05_ColorMakes.j1
   repeat' first
   | (with_reducible exact ih0 _ _ _ _ _ _ _ _)
   | (with_reducible exact ih1 _ _ _ _ _)
   | (with_reducible exact ih2 _ _ _ _ _)
   | (with_reducible exact color_Colored.mono _ _ _)
   | (with_reducible exact color_Same.mono _ _ _)
   | (with_reducible exact mizmazelaw05_awake.mono _)
   | (with_reducible exact mizmazeref01_Sames.mono _ _ _)
   | (with_reducible exact mizmazeref01_Valid.mono _ _)
   | (with_reducible exact mizmazeref05_Colored.mono _ _ _)
   | (with_reducible exact mizmazeref05_Perms.mono _ _ _)
   | (with_reducible exact mizmazeref05_Same.mono _ _ _)
   | (with_reducible exact LeO.refl _)
   | (with_reducible exact LeO.none _)
   | (with_reducible refine LeO.ite ?_ ?_)
   | (with_reducible refine LeO.bind ?_ (fun _ => ?_))
   | exact ih0 _ _ _ _ _ _ _ _
   | exact ih1 _ _ _ _ _
   | exact ih2 _ _ _ _ _
   | exact color_Colored.mono _ _ _
   | exact color_Same.mono _ _ _
   | exact mizmazelaw05_awake.mono _
   | exact mizmazeref01_Sames.mono _ _ _
   | exact mizmazeref01_Valid.mono _ _
   | exact mizmazeref05_Colored.mono _ _ _
   | exact mizmazeref05_Perms.mono _ _ _
   | exact mizmazeref05_Same.mono _ _ _
   | exact LeO.none _
   | refine LeO.ite ?_ ?_
   | refine LeO.bind ?_ (fun _ => ?_)
  ·intro y0 y1 y2 y3 y4
   unfold mizmazelaw05_ColorMakes.j2
   repeat' first
   | (with_reducible exact ih0 _ _ _ _ _ _ _ _)
   | (with_reducible exact ih1 _ _ _ _ _)
   | (with_reducible exact ih2 _ _ _ _ _)
   | (with_reducible exact color_Colored.mono _ _ _)
   | (with_reducible exact color_Same.mono _ _ _)
   | (with_reducible exact mizmazelaw05_awake.mono _)
   | (with_reducible exact mizmazeref01_Sames.mono _ _ _)
   | (with_reducible exact mizmazeref01_Valid.mono _ _)
   | (with_reducible exact mizmazeref05_Colored.mono _ _ _)
   | (with_reducible exact mizmazeref05_Perms.mono _ _ _)
   | (with_reducible exact mizmazeref05_Same.mono _ _ _)
   | (with_reducible exact LeO.refl _)
   | (with_reducible exact LeO.none _)
   | (with_reducible refine LeO.ite ?_ ?_)
   | (with_reducible refine LeO.bind ?_ (fun _ => ?_))
   | exact ih0 _ _ _ _ _ _ _ _
   | exact ih1 _ _ _ _ _
   | exact ih2 _ _ _ _ _
   | exact color_Colored.mono _ _ _
   | exact color_Same.mono _ _ _
   | exact mizmazelaw05_awake.mono _
   | exact mizmazeref01_Sames.mono _ _ _
   | exact mizmazeref01_Valid.mono _ _
   | exact mizmazeref05_Colored.mono _ _ _
   | exact mizmazeref05_Perms.mono _ _ _
   | exact mizmazeref05_Same.mono _ _ _
   | exact LeO.none _
   | refine LeO.ite ?_ ?_
   | refine LeO.bind ?_ (fun _ => ?_)
theorem mizmazelaw05_ColorMakes.mono : ∀ a0 a1 a2 k, LeO (mizmazelaw05_ColorMakes.f k a0 a1 a2) (mizmazelaw05_ColorMakes.f (k + 1) a0 a1 a2) := by
 intro a0 a1 a2 k
 obtain ⟨ih0, ih1, ih2⟩ := mizmazelaw05_ColorMakes.mono_l k
 unfold mizmazelaw05_ColorMakes.f
 repeat' first
   | (with_reducible exact ih0 _ _ _ _ _ _ _ _)
   | (with_reducible exact ih1 _ _ _ _ _)
   | (with_reducible exact ih2 _ _ _ _ _)
   | (with_reducible exact color_Colored.mono _ _ _)
   | (with_reducible exact color_Same.mono _ _ _)
   | (with_reducible exact mizmazelaw05_awake.mono _)
   | (with_reducible exact mizmazeref01_Sames.mono _ _ _)
   | (with_reducible exact mizmazeref01_Valid.mono _ _)
   | (with_reducible exact mizmazeref05_Colored.mono _ _ _)
   | (with_reducible exact mizmazeref05_Perms.mono _ _ _)
   | (with_reducible exact mizmazeref05_Same.mono _ _ _)
   | (with_reducible exact LeO.refl _)
   | (with_reducible exact LeO.none _)
   | (with_reducible refine LeO.ite ?_ ?_)
   | (with_reducible refine LeO.bind ?_ (fun _ => ?_))
   | exact ih0 _ _ _ _ _ _ _ _
   | exact ih1 _ _ _ _ _
   | exact ih2 _ _ _ _ _
   | exact color_Colored.mono _ _ _
   | exact color_Same.mono _ _ _
   | exact mizmazelaw05_awake.mono _
   | exact mizmazeref01_Sames.mono _ _ _
   | exact mizmazeref01_Valid.mono _ _
   | exact mizmazeref05_Colored.mono _ _ _
   | exact mizmazeref05_Perms.mono _ _ _
   | exact mizmazeref05_Same.mono _ _ _
   | exact LeO.none _
   | refine LeO.ite ?_ ?_
   | refine LeO.bind ?_ (fun _ => ?_)
set_option maxHeartbeats 8000000 in
set_option maxRecDepth 100000 in
theorem mizmazelaw05_ColorMakes.calls (k : Nat) (A0_0 : Option Addr) (c0_0 : Nat) (l0_0 : List (List Int)) (A1_0 : Option Addr) (c1_0 : Nat) (l1_0 : List (List Int)) (A2 : Option Addr) (c2 : Nat) (l2 : List (List Int)) (r : Bool) (w : World) (hr0_0 : Kd.C (Kd.slice 3 (Kd.int .i64)) w A0_0 l0_0.length l0_0) (hc0_0 : l0_0.length ≤ c0_0) (hr1_0 : Kd.C (Kd.slice 3 (Kd.int .i64)) w A1_0 l1_0.length l1_0) (hc1_0 : l1_0.length ≤ c1_0) (hr2 : Kd.C (Kd.slice 3 (Kd.int .i64)) w A2 l2.length l2) (hc2 : l2.length ≤ c2) (h : mizmazelaw05_ColorMakes.f k l0_0 l1_0 l2 = some r) :
    Calls Try.prog 9 #[.agg #[.slice A0_0 l0_0.length c0_0], .agg #[.slice A1_0 l1_0.length c1_0], .slice A2 l2.length c2] w fun e w' => e = .returned (.bool r) ∧ Below w.heap.size w w' := by
 have hu24 := Try.underlying24
 have HR0_0 := am hr0_0
 have HC0_0 := am hc0_0
 clear hr0_0 hc0_0
 have HR1_0 := am hr1_0
 have HC1_0 := am hc1_0
 clear hr1_0 hc1_0
 have HR2 := am hr2
 have HC2 := am hc2
 clear hr2 hc2
 have HB := am (Below.refl w.heap.size w)
 have H : ((color_Colored.f k l0_0 l2).bind fun bt514 => ((color_Same.f k l0_0 l1_0).bind fun bt519 => ((mizmazeref01_Valid.f k l0_0).bind fun t522 => (if t522 = true then ((mizmazeref05_Perms.f k l0_0 l2).bind fun t523 => (if t523 = true then ((mizmazeref05_Colored.f k l0_0 l2).bind fun t524 => (mizmazelaw05_ColorMakes.j0 k bt514.2 bt519.1 bt519.2 0 l0_0 l1_0 bt514.1 t524)) else (mizmazelaw05_ColorMakes.j0 k bt514.2 bt519.1 bt519.2 2 l0_0 l1_0 bt514.1 ([] : List (List Int))))) else (mizmazelaw05_ColorMakes.j0 k bt514.2 bt519.1 bt519.2 1 l0_0 l1_0 bt514.1 ([] : List (List Int))))))) = some r := h
 clear h
 replace H := Option.bind_eq_some_iff.mp H
 obtain ⟨⟨t514, t517⟩, A40, H⟩ := H
 replace H : ((color_Same.f k l0_0 l1_0).bind fun bt519 => ((mizmazeref01_Valid.f k l0_0).bind fun t522 => (if t522 = true then ((mizmazeref05_Perms.f k l0_0 l2).bind fun t523 => (if t523 = true then ((mizmazeref05_Colored.f k l0_0 l2).bind fun t524 => (mizmazelaw05_ColorMakes.j0 k t517 bt519.1 bt519.2 0 l0_0 l1_0 t514 t524)) else (mizmazelaw05_ColorMakes.j0 k t517 bt519.1 bt519.2 2 l0_0 l1_0 t514 ([] : List (List Int))))) else (mizmazelaw05_ColorMakes.j0 k t517 bt519.1 bt519.2 1 l0_0 l1_0 t514 ([] : List (List Int)))))) = some r := H
 have A4 := am A40
 clear A40
 replace H := Option.bind_eq_some_iff.mp H
 obtain ⟨⟨t519, t520⟩, A50, H⟩ := H
 replace H : ((mizmazeref01_Valid.f k l0_0).bind fun t522 => (if t522 = true then ((mizmazeref05_Perms.f k l0_0 l2).bind fun t523 => (if t523 = true then ((mizmazeref05_Colored.f k l0_0 l2).bind fun t524 => (mizmazelaw05_ColorMakes.j0 k t517 t519 t520 0 l0_0 l1_0 t514 t524)) else (mizmazelaw05_ColorMakes.j0 k t517 t519 t520 2 l0_0 l1_0 t514 ([] : List (List Int))))) else (mizmazelaw05_ColorMakes.j0 k t517 t519 t520 1 l0_0 l1_0 t514 ([] : List (List Int))))) = some r := H
 have A5 := am A50
 clear A50
 have HC6 := am H
 clear H
 go_enter Try.func9, Try.ntmps9
 go_upto_block 0 with (first | ((with_reducible refine gate_dst (N := 3) rfl ?_); refine box_event ?hg (N := 3) ?hd (cs := #[.slice A0_0 l0_0.length c0_0]) (t := 24) ?hr ?_; (case hd => rfl); (case hg => rfl); (case hr => first | (go_simp; done) | (go_simp; rfl)); intro gb512 hg w7 hbox hb; have n0_ := am (below_step (bw HB.out) hb); have n1_ := am (hbox); have n2_ := am ((by rw [hg]; exact (below_size (bw HB.out)) : w.heap.size ≤ gb512)); have n3_ := am ((by rw [hg]; exact (below_size (bw HB.out)) : w.heap.size ≤ gb512)); clear HB; have HB := n0_; have BK512 := n1_; have GW512 := n2_; have GE512 := n3_; clear n0_ n1_ n2_ n3_; clear hb hbox hg) | ((with_reducible refine gate_dst (N := 4) rfl ?_); refine box_event ?hg (N := 4) ?hd (cs := #[.slice A1_0 l1_0.length c1_0]) (t := 24) ?hr ?_; (case hd => rfl); (case hg => rfl); (case hr => first | (go_simp; done) | (go_simp; rfl)); intro gb513 hg w8 hbox hb; have n0_ := am (blk_below (g := gb512) (o := .cells #[.slice A0_0 l0_0.length c0_0] 24 (0, 0)) (kb BK512.out) hb); have n1_ := am (below_step (bs HB.out) hb); have n2_ := am (hbox); have n3_ := am ((by rw [hg]; exact (below_size (bs HB.out)) : w.heap.size ≤ gb513)); have n4_ := am ((by rw [hg]; exact (below_size (bs HB.out)) : w.heap.size ≤ gb513)); have n5_ := am ((by rw [hg]; exact Nat.ne_of_lt (blk_lt (g := gb512) (o := .cells #[.slice A0_0 l0_0.length c0_0] 24 (0, 0)) (kb BK512.out)) : gb512 ≠ gb513)); have n6_ := am ((by rw [hg]; exact Nat.ne_of_gt (blk_lt (g := gb512) (o := .cells #[.slice A0_0 l0_0.length c0_0] 24 (0, 0)) (kb BK512.out)) : gb513 ≠ gb512)); clear BK512; clear HB; have BK512 := n0_; have HB := n1_; have BK513 := n2_; have GW513 := n3_; have GE513 := n4_; have NB512_513 := n5_; have NB513_512 := n6_; clear n0_ n1_ n2_ n3_ n4_ n5_ n6_; clear hb hbox hg; have hnb9 := NB512_513.out; have hnc9 := NB513_512.out; have hcz10_0 : w8.cell? ⟨gb512, 0, none⟩ = some (.slice A0_0 l0_0.length c0_0) := (blk_cell BK512.out 0).trans rfl; have hfz10_0 := blk_frozen BK512.out 0) | ((with_reducible refine gate_callee (f := 41) rfl ?_); refine goesL_ (some 16) rfl rfl Try.func41 (by kernel_rfl) rfl #[.agg #[.slice A0_0 l0_0.length c0_0], .slice A2 l2.length c2] rfl (by (try simp only [List.map_toArray, List.map_cons, List.map_nil]); first | done | rfl | (simp only [List.length_drop, List.length_take]; rfl)) ?_; (with_reducible refine (color_Colored.calls k _ _ l0_0 _ _ l2 t514 t517 _ ?side1 ?side2 ?side3 ?side4 A4.out).mono ?_); (case side1 => repeat (first | exact (Kd.C_below HR0_0.out HB.out) | (with_reducible refine Kd.C_alloc ?_ _) | (with_reducible refine Kd.C_drewN ?_ _) | (with_reducible refine Kd.C_drew ?_))); (case side2 => exact HC0_0.out); (case side3 => repeat (first | exact (Kd.C_below HR2.out HB.out) | (with_reducible refine Kd.C_alloc ?_ _) | (with_reducible refine Kd.C_drewN ?_ _) | (with_reducible refine Kd.C_drew ?_))); (case side4 => exact HC2.out); rintro e w11 ⟨v515, rfl, ho0, hb⟩; refine ⟨_, rfl, ?_⟩; have n0_ := am (Kd.S_lower ho0 (below_size (bs HB.out))); have n1_ := am (blk_below (g := gb512) (o := .cells #[.slice A0_0 l0_0.length c0_0] 24 (0, 0)) (kb BK512.out) hb); have n2_ := am (blk_below (g := gb513) (o := .cells #[.slice A1_0 l1_0.length c1_0] 24 (0, 0)) (kb BK513.out) hb); have n3_ := am (below_step (bs HB.out) hb); clear BK512; clear BK513; clear HB; have HO516 := n0_; have BK512 := n1_; have BK513 := n2_; have HB := n3_; clear n0_ n1_ n2_ n3_; (try clear hb); (try clear hb2); (try clear hk); (try clear hi); (try clear ho0)) | ((with_reducible refine gate_dst (N := 7) rfl ?_); refine box_event ?hg (N := 7) ?hd (cs := #[.slice none 0 0]) (t := 24) ?hr ?_; (case hd => rfl); (case hg => rfl); (case hr => first | (go_simp; done) | (go_simp; rfl)); intro gb518 hg w12 hbox hb; have n0_ := am (Kd.S_below (kS HO516.out) hb); have n1_ := am (blk_below (g := gb512) (o := .cells #[.slice A0_0 l0_0.length c0_0] 24 (0, 0)) (kb BK512.out) hb); have n2_ := am (blk_below (g := gb513) (o := .cells #[.slice A1_0 l1_0.length c1_0] 24 (0, 0)) (kb BK513.out) hb); have n3_ := am (below_step (bs HB.out) hb); have n4_ := am (hbox); have n5_ := am ((by rw [hg]; exact (below_size (bs HB.out)) : w.heap.size ≤ gb518)); have n6_ := am ((by rw [hg]; exact (below_size (bs HB.out)) : w.heap.size ≤ gb518)); have n7_ := am ((by rw [hg]; exact Nat.ne_of_lt (blk_lt (g := gb512) (o := .cells #[.slice A0_0 l0_0.length c0_0] 24 (0, 0)) (kb BK512.out)) : gb512 ≠ gb518)); have n8_ := am ((by rw [hg]; exact Nat.ne_of_gt (blk_lt (g := gb512) (o := .cells #[.slice A0_0 l0_0.length c0_0] 24 (0, 0)) (kb BK512.out)) : gb518 ≠ gb512)); have n9_ := am ((by rw [hg]; exact Nat.ne_of_lt (blk_lt (g := gb513) (o := .cells #[.slice A1_0 l1_0.length c1_0] 24 (0, 0)) (kb BK513.out)) : gb513 ≠ gb518)); have n10_ := am ((by rw [hg]; exact Nat.ne_of_gt (blk_lt (g := gb513) (o := .cells #[.slice A1_0 l1_0.length c1_0] 24 (0, 0)) (kb BK513.out)) : gb518 ≠ gb513)); clear HO516; clear BK512; clear BK513; clear HB; have HO516 := n0_; have BK512 := n1_; have BK513 := n2_; have HB := n3_; have BK518 := n4_; have GW518 := n5_; have GE518 := n6_; have NB512_518 := n7_; have NB518_512 := n8_; have NB513_518 := n9_; have NB518_513 := n10_; clear n0_ n1_ n2_ n3_ n4_ n5_ n6_ n7_ n8_ n9_ n10_; clear hb hbox hg; obtain ⟨Ao13, co13, eo13⟩ := Kd.S_slice HO516.out; subst eo13; have hnb14 := NB518_512.out; have hnc14 := NB512_518.out; have hnb15 := NB518_513.out; have hnc15 := NB513_518.out; have hcz16_0 : w12.cell? ⟨gb518, 0, none⟩ = some (.slice none 0 0) := (blk_cell BK518.out 0).trans rfl; have hfz16_0 := blk_frozen BK518.out 0; have hcz17_0 : w12.cell? ⟨gb512, 0, none⟩ = some (.slice A0_0 l0_0.length c0_0) := (blk_cell BK512.out 0).trans rfl; have hfz17_0 := blk_frozen BK512.out 0; have hcz18_0 : w12.cell? ⟨gb513, 0, none⟩ = some (.slice A1_0 l1_0.length c1_0) := (blk_cell BK513.out 0).trans rfl; have hfz18_0 := blk_frozen BK513.out 0) | ((with_reducible refine gate_callee (f := 42) rfl ?_); refine goesL_ (some 22) rfl rfl Try.func42 (by kernel_rfl) rfl #[.agg #[.slice A0_0 l0_0.length c0_0], .agg #[.slice A1_0 l1_0.length c1_0]] rfl (by (try simp only [List.map_toArray, List.map_cons, List.map_nil]); first | done | rfl | (simp only [List.length_drop, List.length_take]; rfl)) ?_; (with_reducible refine (color_Same.calls k _ _ l0_0 _ _ l1_0 t519 t520 _ ?side1 ?side2 ?side3 ?side4 A5.out).mono ?_); (case side1 => exact Kd.C_below HR0_0.out (bs HB.out)); (case side2 => exact HC0_0.out); (case side3 => exact Kd.C_below HR1_0.out (bs HB.out)); (case side4 => exact HC1_0.out); rintro e w19 ⟨rfl, hb⟩; refine ⟨_, rfl, ?_⟩; have n0_ := am (Kd.S_below (by (with_reducible repeat (first | apply Kd.S_alloc | apply Kd.S_drewN | apply Kd.S_drew)); exact (Kd.S_mono (Kd.S_far (p := ⟨gb518, 0, none⟩) (Kd.S_types HO516.out BK518.out (by decide)) (fun _ hk => hk.2) (.slice Ao13 t514.length co13)) (fun _ h_ => h_.1))) hb); have n1_ := am (blk_below (g := gb512) (o := .cells #[.slice A0_0 l0_0.length c0_0] 24 (0, 0)) (by (with_reducible repeat (first | refine blk_drewN ?_ _ | refine blk_drew ?_ | refine blk_alloc ?_ _)); refine blk_far ?_ NB512_518.out _; (with_reducible repeat (first | refine blk_drewN ?_ _ | refine blk_drew ?_ | refine blk_alloc ?_ _)); exact BK512.out) hb); have n2_ := am (blk_below (g := gb513) (o := .cells #[.slice A1_0 l1_0.length c1_0] 24 (0, 0)) (by (with_reducible repeat (first | refine blk_drewN ?_ _ | refine blk_drew ?_ | refine blk_alloc ?_ _)); refine blk_far ?_ NB513_518.out _; (with_reducible repeat (first | refine blk_drewN ?_ _ | refine blk_drew ?_ | refine blk_alloc ?_ _)); exact BK513.out) hb); have n3_ := am (blk_below (g := gb518) (o := .cells #[.slice Ao13 t514.length co13] 24 (0, 0)) (by (with_reducible repeat (first | refine blk_drewN ?_ _ | refine blk_drew ?_ | refine blk_alloc ?_ _)); refine blk_put (cs := #[.slice none 0 0]) ?_ 0 _ rfl; (with_reducible repeat (first | refine blk_drewN ?_ _ | refine blk_drew ?_ | refine blk_alloc ?_ _)); exact BK518.out) hb); have n4_ := am (below_step (bs HB.out) hb); clear HO516; clear BK512; clear BK513; clear BK518; clear HB; have HO516 := n0_; have BK512 := n1_; have BK513 := n2_; have BK518 := n3_; have HB := n4_; clear n0_ n1_ n2_ n3_ n4_; (try clear hb); (try clear hb2); (try clear hk); (try clear hi)) | ((with_reducible refine gate_dst (N := 11) rfl ?_); refine box_event ?hg (N := 11) ?hd (cs := #[.slice none 0 0]) (t := 24) ?hr ?_; (case hd => rfl); (case hg => rfl); (case hr => first | (go_simp; done) | (go_simp; rfl)); intro gb521 hg w20 hbox hb; have n0_ := am (Kd.S_below (kS HO516.out) hb); have n1_ := am (blk_below (g := gb512) (o := .cells #[.slice A0_0 l0_0.length c0_0] 24 (0, 0)) (kb BK512.out) hb); have n2_ := am (blk_below (g := gb513) (o := .cells #[.slice A1_0 l1_0.length c1_0] 24 (0, 0)) (kb BK513.out) hb); have n3_ := am (blk_below (g := gb518) (o := .cells #[.slice Ao13 t514.length co13] 24 (0, 0)) (kb BK518.out) hb); have n4_ := am (below_step (bs HB.out) hb); have n5_ := am (hbox); have n6_ := am ((by rw [hg]; exact (below_size (bs HB.out)) : w.heap.size ≤ gb521)); have n7_ := am ((by rw [hg]; exact (below_size (bs HB.out)) : w.heap.size ≤ gb521)); have n8_ := am ((by rw [hg]; exact Nat.ne_of_lt (blk_lt (g := gb512) (o := .cells #[.slice A0_0 l0_0.length c0_0] 24 (0, 0)) (kb BK512.out)) : gb512 ≠ gb521)); have n9_ := am ((by rw [hg]; exact Nat.ne_of_gt (blk_lt (g := gb512) (o := .cells #[.slice A0_0 l0_0.length c0_0] 24 (0, 0)) (kb BK512.out)) : gb521 ≠ gb512)); have n10_ := am ((by rw [hg]; exact Nat.ne_of_lt (blk_lt (g := gb513) (o := .cells #[.slice A1_0 l1_0.length c1_0] 24 (0, 0)) (kb BK513.out)) : gb513 ≠ gb521)); have n11_ := am ((by rw [hg]; exact Nat.ne_of_gt (blk_lt (g := gb513) (o := .cells #[.slice A1_0 l1_0.length c1_0] 24 (0, 0)) (kb BK513.out)) : gb521 ≠ gb513)); have n12_ := am ((by rw [hg]; exact Nat.ne_of_lt (blk_lt (g := gb518) (o := .cells #[.slice Ao13 t514.length co13] 24 (0, 0)) (kb BK518.out)) : gb518 ≠ gb521)); have n13_ := am ((by rw [hg]; exact Nat.ne_of_gt (blk_lt (g := gb518) (o := .cells #[.slice Ao13 t514.length co13] 24 (0, 0)) (kb BK518.out)) : gb521 ≠ gb518)); clear HO516; clear BK512; clear BK513; clear BK518; clear HB; have HO516 := n0_; have BK512 := n1_; have BK513 := n2_; have BK518 := n3_; have HB := n4_; have BK521 := n5_; have GW521 := n6_; have GE521 := n7_; have NB512_521 := n8_; have NB521_512 := n9_; have NB513_521 := n10_; have NB521_513 := n11_; have NB518_521 := n12_; have NB521_518 := n13_; clear n0_ n1_ n2_ n3_ n4_ n5_ n6_ n7_ n8_ n9_ n10_ n11_ n12_ n13_; clear hb hbox hg))
 (try simp only [Act.put, List.setIfInBounds_toArray, List.set_cons_zero, List.set_cons_succ])
 go_cut [12] (fun v12 wc => ∃ (kq : Nat) (x12_5 : Int) (x522000_5 : List (List Int)) (u522000 : Value), v12 = .int .i64 x12_5 ∧ Aside0 (mizmazelaw05_ColorMakes.j0 kq t517 t519 t520 x12_5 l0_0 l1_0 t514 x522000_5 = some r) ∧ Aside0 (kq ≤ k) ∧ Aside0 (Kd.S (Kd.slice 3 (Kd.int .i64)) 28 wc w.heap.size (fun k_ => some k_ ≠ (u522000 : Value).ownBlock) (.slice Ao13 t514.length co13) t514) ∧ Aside0 (Kd.S (Kd.slice 3 (Kd.int .i64)) 28 wc w.heap.size (fun k_ => some k_ ≠ ((.slice Ao13 t514.length co13) : Value).ownBlock) u522000 x522000_5) ∧ Aside0 (wc.heap[gb512]? = some (.cells #[(.slice A0_0 l0_0.length c0_0)] 24 (0, 0))) ∧ Aside0 (wc.heap[gb513]? = some (.cells #[(.slice A1_0 l1_0.length c1_0)] 24 (0, 0))) ∧ Aside0 (wc.heap[gb518]? = some (.cells #[(.slice Ao13 t514.length co13)] 24 (0, 0))) ∧ Aside0 (wc.heap[gb521]? = some (.cells #[u522000] 24 (0, 0))) ∧ Aside0 (Below w.heap.size w wc))
 case first =>
  have H := HC6.out
  clear HC6
  replace H := Option.bind_eq_some_iff.mp H
  obtain ⟨t522, A210, H⟩ := H
  replace H : (if t522 = true then ((mizmazeref05_Perms.f k l0_0 l2).bind fun t523 => (if t523 = true then ((mizmazeref05_Colored.f k l0_0 l2).bind fun t524 => (mizmazelaw05_ColorMakes.j0 k t517 t519 t520 0 l0_0 l1_0 t514 t524)) else (mizmazelaw05_ColorMakes.j0 k t517 t519 t520 2 l0_0 l1_0 t514 ([] : List (List Int))))) else (mizmazelaw05_ColorMakes.j0 k t517 t519 t520 1 l0_0 l1_0 t514 ([] : List (List Int)))) = some r := H
  have A21 := am A210
  clear A210
  by_cases c22 : t522 = true
  rotate_left
  ·replace c22 := Bool.eq_false_iff.mpr c22
   subst c22
   have H1 : (mizmazelaw05_ColorMakes.j0 k t517 t519 t520 1 l0_0 l1_0 t514 ([] : List (List Int))) = some r := by rw [if_neg (show ¬ (false = true) by decide)] at H; exact H
   clear H
   have H := H1
   clear H1
   have H' := am H
   clear H
   have hnb46 := NB512_513.out
   have hnc46 := NB513_512.out
   have hnb47 := NB512_518.out
   have hnc47 := NB518_512.out
   have hnb48 := NB512_521.out
   have hnc48 := NB521_512.out
   have hcz49_0 : w20.cell? ⟨gb512, 0, none⟩ = some (.slice A0_0 l0_0.length c0_0) := (blk_cell BK512.out 0).trans rfl
   have hfz49_0 := blk_frozen BK512.out 0
   go_wp2_with (first | ((with_reducible refine gate_callee (f := 18) rfl ?_); refine goesL_ (some 30) rfl rfl Try.func18 (by kernel_rfl) rfl #[.agg #[.slice A0_0 l0_0.length c0_0]] rfl (by (try simp only [List.map_toArray, List.map_cons, List.map_nil]); first | done | rfl | (simp only [List.length_drop, List.length_take]; rfl)) ?_; (with_reducible refine (mizmazeref01_Valid.calls k _ _ l0_0 false _ ?side1 ?side2 A21.out).mono ?_); (case side1 => repeat (first | exact (Kd.C_below HR0_0.out HB.out) | (with_reducible refine Kd.C_alloc ?_ _) | (with_reducible refine Kd.C_drewN ?_ _) | (with_reducible refine Kd.C_drew ?_))); (case side2 => exact HC0_0.out); rintro e w50 ⟨rfl, hb⟩; refine ⟨_, rfl, ?_⟩; have n0_ := am (Kd.S_below (kS HO516.out) hb); have n1_ := am (blk_below (g := gb512) (o := .cells #[.slice A0_0 l0_0.length c0_0] 24 (0, 0)) (kb BK512.out) hb); have n2_ := am (blk_below (g := gb513) (o := .cells #[.slice A1_0 l1_0.length c1_0] 24 (0, 0)) (kb BK513.out) hb); have n3_ := am (blk_below (g := gb518) (o := .cells #[.slice Ao13 t514.length co13] 24 (0, 0)) (kb BK518.out) hb); have n4_ := am (blk_below (g := gb521) (o := .cells #[.slice none 0 0] 24 (0, 0)) (kb BK521.out) hb); have n5_ := am (below_step (bs HB.out) hb); clear HO516; clear BK512; clear BK513; clear BK518; clear BK521; clear HB; have HO516 := n0_; have BK512 := n1_; have BK513 := n2_; have BK518 := n3_; have BK521 := n4_; have HB := n5_; clear n0_ n1_ n2_ n3_ n4_ n5_; (try clear hb); (try clear hb2); (try clear hk); (try clear hi)))
   go_meet
   case rel => exact ⟨_, (1), (([] : List (List Int))), (.slice none 0 0), (by first | rfl | (simp; done) | (simp [*]; done)), H', ⟨by first | omega | exact Nat.le_refl _⟩, ⟨by (with_reducible repeat (first | apply Kd.S_alloc | apply Kd.S_drewN | apply Kd.S_drew)); exact Kd.S_mono HO516.out (fun _ hk => (by simp [Value.ownBlock]))⟩, ⟨by first | exact Kd.S_nil _ _ _ _ _ | exact Kd.N_nil _ _ _ _ _ | exact Kd.V_nil _ _ _ _ _ | exact Kd.Q_nil _ _ _ _ _ | exact Kd.R_nil _ _ _ _ _⟩, ⟨by (with_reducible repeat (first | refine blk_drewN ?_ _ | refine blk_drew ?_ | refine blk_alloc ?_ _)); exact BK512.out⟩, ⟨by (with_reducible repeat (first | refine blk_drewN ?_ _ | refine blk_drew ?_ | refine blk_alloc ?_ _)); exact BK513.out⟩, ⟨by (with_reducible repeat (first | refine blk_drewN ?_ _ | refine blk_drew ?_ | refine blk_alloc ?_ _)); exact BK518.out⟩, ⟨by (with_reducible repeat (first | refine blk_drewN ?_ _ | refine blk_drew ?_ | refine blk_alloc ?_ _)); exact BK521.out⟩, ⟨by repeat (first | (with_reducible first | exact HB.out | apply ba | apply pb | apply bd | refine below_set ?_ GE512.out | refine below_set ?_ GE513.out | refine below_set ?_ GE518.out | refine below_set ?_ GE521.out) | exact HB.out)⟩⟩
  subst c22
  have H1 : ((mizmazeref05_Perms.f k l0_0 l2).bind fun t523 => (if t523 = true then ((mizmazeref05_Colored.f k l0_0 l2).bind fun t524 => (mizmazelaw05_ColorMakes.j0 k t517 t519 t520 0 l0_0 l1_0 t514 t524)) else (mizmazelaw05_ColorMakes.j0 k t517 t519 t520 2 l0_0 l1_0 t514 ([] : List (List Int))))) = some r := by rw [if_pos rfl] at H; exact H
  clear H
  have H := H1
  clear H1
  replace H := Option.bind_eq_some_iff.mp H
  obtain ⟨t523, A230, H⟩ := H
  replace H : (if t523 = true then ((mizmazeref05_Colored.f k l0_0 l2).bind fun t524 => (mizmazelaw05_ColorMakes.j0 k t517 t519 t520 0 l0_0 l1_0 t514 t524)) else (mizmazelaw05_ColorMakes.j0 k t517 t519 t520 2 l0_0 l1_0 t514 ([] : List (List Int)))) = some r := H
  have A23 := am A230
  clear A230
  by_cases c24 : t523 = true
  rotate_left
  ·replace c24 := Bool.eq_false_iff.mpr c24
   subst c24
   have H1 : (mizmazelaw05_ColorMakes.j0 k t517 t519 t520 2 l0_0 l1_0 t514 ([] : List (List Int))) = some r := by rw [if_neg (show ¬ (false = true) by decide)] at H; exact H
   clear H
   have H := H1
   clear H1
   have H' := am H
   clear H
   have hnb39 := NB512_513.out
   have hnc39 := NB513_512.out
   have hnb40 := NB512_518.out
   have hnc40 := NB518_512.out
   have hnb41 := NB512_521.out
   have hnc41 := NB521_512.out
   have hcz42_0 : w20.cell? ⟨gb512, 0, none⟩ = some (.slice A0_0 l0_0.length c0_0) := (blk_cell BK512.out 0).trans rfl
   have hfz42_0 := blk_frozen BK512.out 0
   go_wp2_with (first | ((with_reducible refine gate_callee (f := 18) rfl ?_); refine goesL_ (some 30) rfl rfl Try.func18 (by kernel_rfl) rfl #[.agg #[.slice A0_0 l0_0.length c0_0]] rfl (by (try simp only [List.map_toArray, List.map_cons, List.map_nil]); first | done | rfl | (simp only [List.length_drop, List.length_take]; rfl)) ?_; (with_reducible refine (mizmazeref01_Valid.calls k _ _ l0_0 true _ ?side1 ?side2 A21.out).mono ?_); (case side1 => repeat (first | exact (Kd.C_below HR0_0.out HB.out) | (with_reducible refine Kd.C_alloc ?_ _) | (with_reducible refine Kd.C_drewN ?_ _) | (with_reducible refine Kd.C_drew ?_))); (case side2 => exact HC0_0.out); rintro e w43 ⟨rfl, hb⟩; refine ⟨_, rfl, ?_⟩; have n0_ := am (Kd.S_below (kS HO516.out) hb); have n1_ := am (blk_below (g := gb512) (o := .cells #[.slice A0_0 l0_0.length c0_0] 24 (0, 0)) (kb BK512.out) hb); have n2_ := am (blk_below (g := gb513) (o := .cells #[.slice A1_0 l1_0.length c1_0] 24 (0, 0)) (kb BK513.out) hb); have n3_ := am (blk_below (g := gb518) (o := .cells #[.slice Ao13 t514.length co13] 24 (0, 0)) (kb BK518.out) hb); have n4_ := am (blk_below (g := gb521) (o := .cells #[.slice none 0 0] 24 (0, 0)) (kb BK521.out) hb); have n5_ := am (below_step (bs HB.out) hb); clear HO516; clear BK512; clear BK513; clear BK518; clear BK521; clear HB; have HO516 := n0_; have BK512 := n1_; have BK513 := n2_; have BK518 := n3_; have BK521 := n4_; have HB := n5_; clear n0_ n1_ n2_ n3_ n4_ n5_; (try clear hb); (try clear hb2); (try clear hk); (try clear hi); have hcz44_0 : w43.cell? ⟨gb512, 0, none⟩ = some (.slice A0_0 l0_0.length c0_0) := (blk_cell BK512.out 0).trans rfl; have hfz44_0 := blk_frozen BK512.out 0) | ((with_reducible refine gate_callee (f := 43) rfl ?_); refine goesL_ (some 35) rfl rfl Try.func43 (by kernel_rfl) rfl #[.agg #[.slice A0_0 l0_0.length c0_0], .slice A2 l2.length c2] rfl (by (try simp only [List.map_toArray, List.map_cons, List.map_nil]); first | done | rfl | (simp only [List.length_drop, List.length_take]; rfl)) ?_; (with_reducible refine (mizmazeref05_Perms.calls k _ _ l0_0 _ _ l2 false _ ?side1 ?side2 ?side3 ?side4 A23.out).mono ?_); (case side1 => repeat (first | exact (Kd.C_below HR0_0.out HB.out) | (with_reducible refine Kd.C_alloc ?_ _) | (with_reducible refine Kd.C_drewN ?_ _) | (with_reducible refine Kd.C_drew ?_))); (case side2 => exact HC0_0.out); (case side3 => repeat (first | exact (Kd.C_below HR2.out HB.out) | (with_reducible refine Kd.C_alloc ?_ _) | (with_reducible refine Kd.C_drewN ?_ _) | (with_reducible refine Kd.C_drew ?_))); (case side4 => exact HC2.out); rintro e w45 ⟨rfl, hb⟩; refine ⟨_, rfl, ?_⟩; have n0_ := am (Kd.S_below (kS HO516.out) hb); have n1_ := am (blk_below (g := gb512) (o := .cells #[.slice A0_0 l0_0.length c0_0] 24 (0, 0)) (kb BK512.out) hb); have n2_ := am (blk_below (g := gb513) (o := .cells #[.slice A1_0 l1_0.length c1_0] 24 (0, 0)) (kb BK513.out) hb); have n3_ := am (blk_below (g := gb518) (o := .cells #[.slice Ao13 t514.length co13] 24 (0, 0)) (kb BK518.out) hb); have n4_ := am (blk_below (g := gb521) (o := .cells #[.slice none 0 0] 24 (0, 0)) (kb BK521.out) hb); have n5_ := am (below_step (bs HB.out) hb); clear HO516; clear BK512; clear BK513; clear BK518; clear BK521; clear HB; have HO516 := n0_; have BK512 := n1_; have BK513 := n2_; have BK518 := n3_; have BK521 := n4_; have HB := n5_; clear n0_ n1_ n2_ n3_ n4_ n5_; (try clear hb); (try clear hb2); (try clear hk); (try clear hi)))
   go_meet
   case rel => exact ⟨_, (2), (([] : List (List Int))), (.slice none 0 0), (by first | rfl | (simp; done) | (simp [*]; done)), H', ⟨by first | omega | exact Nat.le_refl _⟩, ⟨by (with_reducible repeat (first | apply Kd.S_alloc | apply Kd.S_drewN | apply Kd.S_drew)); exact Kd.S_mono HO516.out (fun _ hk => (by simp [Value.ownBlock]))⟩, ⟨by first | exact Kd.S_nil _ _ _ _ _ | exact Kd.N_nil _ _ _ _ _ | exact Kd.V_nil _ _ _ _ _ | exact Kd.Q_nil _ _ _ _ _ | exact Kd.R_nil _ _ _ _ _⟩, ⟨by (with_reducible repeat (first | refine blk_drewN ?_ _ | refine blk_drew ?_ | refine blk_alloc ?_ _)); exact BK512.out⟩, ⟨by (with_reducible repeat (first | refine blk_drewN ?_ _ | refine blk_drew ?_ | refine blk_alloc ?_ _)); exact BK513.out⟩, ⟨by (with_reducible repeat (first | refine blk_drewN ?_ _ | refine blk_drew ?_ | refine blk_alloc ?_ _)); exact BK518.out⟩, ⟨by (with_reducible repeat (first | refine blk_drewN ?_ _ | refine blk_drew ?_ | refine blk_alloc ?_ _)); exact BK521.out⟩, ⟨by repeat (first | (with_reducible first | exact HB.out | apply ba | apply pb | apply bd | refine below_set ?_ GE512.out | refine below_set ?_ GE513.out | refine below_set ?_ GE518.out | refine below_set ?_ GE521.out) | exact HB.out)⟩⟩
  subst c24
  have H1 : ((mizmazeref05_Colored.f k l0_0 l2).bind fun t524 => (mizmazelaw05_ColorMakes.j0 k t517 t519 t520 0 l0_0 l1_0 t514 t524)) = some r := by rw [if_pos rfl] at H; exact H
  clear H
  have H := H1
  clear H1
  replace H := Option.bind_eq_some_iff.mp H
  obtain ⟨t524, A250, H⟩ := H
  replace H : (mizmazelaw05_ColorMakes.j0 k t517 t519 t520 0 l0_0 l1_0 t514 t524) = some r := H
  have A25 := am A250
  clear A250
  have H' := am H
  clear H
  have hnb26 := NB512_513.out
  have hnc26 := NB513_512.out
  have hnb27 := NB512_518.out
  have hnc27 := NB518_512.out
  have hnb28 := NB512_521.out
  have hnc28 := NB521_512.out
  have hcz29_0 : w20.cell? ⟨gb512, 0, none⟩ = some (.slice A0_0 l0_0.length c0_0) := (blk_cell BK512.out 0).trans rfl
  have hfz29_0 := blk_frozen BK512.out 0
  go_wp2_with (first | ((with_reducible refine gate_callee (f := 18) rfl ?_); refine goesL_ (some 30) rfl rfl Try.func18 (by kernel_rfl) rfl #[.agg #[.slice A0_0 l0_0.length c0_0]] rfl (by (try simp only [List.map_toArray, List.map_cons, List.map_nil]); first | done | rfl | (simp only [List.length_drop, List.length_take]; rfl)) ?_; (with_reducible refine (mizmazeref01_Valid.calls k _ _ l0_0 true _ ?side1 ?side2 A21.out).mono ?_); (case side1 => repeat (first | exact (Kd.C_below HR0_0.out HB.out) | (with_reducible refine Kd.C_alloc ?_ _) | (with_reducible refine Kd.C_drewN ?_ _) | (with_reducible refine Kd.C_drew ?_))); (case side2 => exact HC0_0.out); rintro e w30 ⟨rfl, hb⟩; refine ⟨_, rfl, ?_⟩; have n0_ := am (Kd.S_below (kS HO516.out) hb); have n1_ := am (blk_below (g := gb512) (o := .cells #[.slice A0_0 l0_0.length c0_0] 24 (0, 0)) (kb BK512.out) hb); have n2_ := am (blk_below (g := gb513) (o := .cells #[.slice A1_0 l1_0.length c1_0] 24 (0, 0)) (kb BK513.out) hb); have n3_ := am (blk_below (g := gb518) (o := .cells #[.slice Ao13 t514.length co13] 24 (0, 0)) (kb BK518.out) hb); have n4_ := am (blk_below (g := gb521) (o := .cells #[.slice none 0 0] 24 (0, 0)) (kb BK521.out) hb); have n5_ := am (below_step (bs HB.out) hb); clear HO516; clear BK512; clear BK513; clear BK518; clear BK521; clear HB; have HO516 := n0_; have BK512 := n1_; have BK513 := n2_; have BK518 := n3_; have BK521 := n4_; have HB := n5_; clear n0_ n1_ n2_ n3_ n4_ n5_; (try clear hb); (try clear hb2); (try clear hk); (try clear hi); have hcz31_0 : w30.cell? ⟨gb512, 0, none⟩ = some (.slice A0_0 l0_0.length c0_0) := (blk_cell BK512.out 0).trans rfl; have hfz31_0 := blk_frozen BK512.out 0) | ((with_reducible refine gate_callee (f := 43) rfl ?_); refine goesL_ (some 35) rfl rfl Try.func43 (by kernel_rfl) rfl #[.agg #[.slice A0_0 l0_0.length c0_0], .slice A2 l2.length c2] rfl (by (try simp only [List.map_toArray, List.map_cons, List.map_nil]); first | done | rfl | (simp only [List.length_drop, List.length_take]; rfl)) ?_; (with_reducible refine (mizmazeref05_Perms.calls k _ _ l0_0 _ _ l2 true _ ?side1 ?side2 ?side3 ?side4 A23.out).mono ?_); (case side1 => repeat (first | exact (Kd.C_below HR0_0.out HB.out) | (with_reducible refine Kd.C_alloc ?_ _) | (with_reducible refine Kd.C_drewN ?_ _) | (with_reducible refine Kd.C_drew ?_))); (case side2 => exact HC0_0.out); (case side3 => repeat (first | exact (Kd.C_below HR2.out HB.out) | (with_reducible refine Kd.C_alloc ?_ _) | (with_reducible refine Kd.C_drewN ?_ _) | (with_reducible refine Kd.C_drew ?_))); (case side4 => exact HC2.out); rintro e w32 ⟨rfl, hb⟩; refine ⟨_, rfl, ?_⟩; have n0_ := am (Kd.S_below (kS HO516.out) hb); have n1_ := am (blk_below (g := gb512) (o := .cells #[.slice A0_0 l0_0.length c0_0] 24 (0, 0)) (kb BK512.out) hb); have n2_ := am (blk_below (g := gb513) (o := .cells #[.slice A1_0 l1_0.length c1_0] 24 (0, 0)) (kb BK513.out) hb); have n3_ := am (blk_below (g := gb518) (o := .cells #[.slice Ao13 t514.length co13] 24 (0, 0)) (kb BK518.out) hb); have n4_ := am (blk_below (g := gb521) (o := .cells #[.slice none 0 0] 24 (0, 0)) (kb BK521.out) hb); have n5_ := am (below_step (bs HB.out) hb); clear HO516; clear BK512; clear BK513; clear BK518; clear BK521; clear HB; have HO516 := n0_; have BK512 := n1_; have BK513 := n2_; have BK518 := n3_; have BK521 := n4_; have HB := n5_; clear n0_ n1_ n2_ n3_ n4_ n5_; (try clear hb); (try clear hb2); (try clear hk); (try clear hi); have hcz33_0 : w32.cell? ⟨gb512, 0, none⟩ = some (.slice A0_0 l0_0.length c0_0) := (blk_cell BK512.out 0).trans rfl; have hfz33_0 := blk_frozen BK512.out 0) | ((with_reducible refine gate_callee (f := 44) rfl ?_); refine goesL_ (some 27) rfl rfl Try.func44 (by kernel_rfl) rfl #[.agg #[.slice A0_0 l0_0.length c0_0], .slice A2 l2.length c2] rfl (by (try simp only [List.map_toArray, List.map_cons, List.map_nil]); first | done | rfl | (simp only [List.length_drop, List.length_take]; rfl)) ?_; (with_reducible refine (mizmazeref05_Colored.calls k _ _ l0_0 _ _ l2 t524 _ ?side1 ?side2 ?side3 ?side4 A25.out).mono ?_); (case side1 => repeat (first | exact (Kd.C_below HR0_0.out HB.out) | (with_reducible refine Kd.C_alloc ?_ _) | (with_reducible refine Kd.C_drewN ?_ _) | (with_reducible refine Kd.C_drew ?_))); (case side2 => exact HC0_0.out); (case side3 => repeat (first | exact (Kd.C_below HR2.out HB.out) | (with_reducible refine Kd.C_alloc ?_ _) | (with_reducible refine Kd.C_drewN ?_ _) | (with_reducible refine Kd.C_drew ?_))); (case side4 => exact HC2.out); rintro e w34 ⟨v525, rfl, ho0, hb⟩; refine ⟨_, rfl, ?_⟩; have n0_ := am (Kd.S_elder' (kS HO516.out) (Kd.S_base ho0) hb); have n1_ := am (Kd.S_lower (Kd.S_new' ho0 (Kd.S_lt (kS HO516.out))) (below_size (bs HB.out))); have n2_ := am (blk_below (g := gb512) (o := .cells #[.slice A0_0 l0_0.length c0_0] 24 (0, 0)) (kb BK512.out) hb); have n3_ := am (blk_below (g := gb513) (o := .cells #[.slice A1_0 l1_0.length c1_0] 24 (0, 0)) (kb BK513.out) hb); have n4_ := am (blk_below (g := gb518) (o := .cells #[.slice Ao13 t514.length co13] 24 (0, 0)) (kb BK518.out) hb); have n5_ := am (blk_below (g := gb521) (o := .cells #[.slice none 0 0] 24 (0, 0)) (kb BK521.out) hb); have n6_ := am (below_step (bs HB.out) hb); clear HO516; clear BK512; clear BK513; clear BK518; clear BK521; clear HB; have HO516 := n0_; have HO526 := n1_; have BK512 := n2_; have BK513 := n3_; have BK518 := n4_; have BK521 := n5_; have HB := n6_; clear n0_ n1_ n2_ n3_ n4_ n5_ n6_; (try clear hb); (try clear hb2); (try clear hk); (try clear hi); (try clear ho0); obtain ⟨Ao35, co35, eo35⟩ := Kd.S_slice HO526.out; subst eo35; have hnb36 := NB521_513.out; have hnc36 := NB513_521.out; have hnb37 := NB521_518.out; have hnc37 := NB518_521.out; have hcz38_0 : w34.cell? ⟨gb521, 0, none⟩ = some (.slice none 0 0) := (blk_cell BK521.out 0).trans rfl; have hfz38_0 := blk_frozen BK521.out 0))
  go_meet
  case rel => exact ⟨_, (0), (t524), (.slice Ao35 t524.length co35), (by first | rfl | (simp; done) | (simp [*]; done)), H', ⟨by first | omega | exact Nat.le_refl _⟩, ⟨by (with_reducible repeat (first | apply Kd.S_alloc | apply Kd.S_drewN | apply Kd.S_drew)); exact Kd.S_mono (Kd.S_far (p := ⟨gb521, 0, none⟩) (Kd.S_types HO516.out BK521.out (by decide)) (fun _ hk => hk.2) (.slice Ao35 t524.length co35)) (fun _ hk => hk.1.2)⟩, ⟨by (with_reducible repeat (first | apply Kd.S_alloc | apply Kd.S_drewN | apply Kd.S_drew)); exact Kd.S_mono (Kd.S_far (p := ⟨gb521, 0, none⟩) (Kd.S_types HO526.out BK521.out (by decide)) (fun _ hk => hk.2) (.slice Ao35 t524.length co35)) (fun _ hk => hk.1.2)⟩, ⟨by (with_reducible repeat (first | refine blk_drewN ?_ _ | refine blk_drew ?_ | refine blk_alloc ?_ _)); refine blk_far ?_ NB512_521.out _; (with_reducible repeat (first | refine blk_drewN ?_ _ | refine blk_drew ?_ | refine blk_alloc ?_ _)); exact BK512.out⟩, ⟨by (with_reducible repeat (first | refine blk_drewN ?_ _ | refine blk_drew ?_ | refine blk_alloc ?_ _)); refine blk_far ?_ NB513_521.out _; (with_reducible repeat (first | refine blk_drewN ?_ _ | refine blk_drew ?_ | refine blk_alloc ?_ _)); exact BK513.out⟩, ⟨by (with_reducible repeat (first | refine blk_drewN ?_ _ | refine blk_drew ?_ | refine blk_alloc ?_ _)); refine blk_far ?_ NB518_521.out _; (with_reducible repeat (first | refine blk_drewN ?_ _ | refine blk_drew ?_ | refine blk_alloc ?_ _)); exact BK518.out⟩, ⟨by (with_reducible repeat (first | refine blk_drewN ?_ _ | refine blk_drew ?_ | refine blk_alloc ?_ _)); refine blk_put (cs := #[.slice none 0 0]) ?_ 0 _ rfl; (with_reducible repeat (first | refine blk_drewN ?_ _ | refine blk_drew ?_ | refine blk_alloc ?_ _)); exact BK521.out⟩, ⟨by repeat (first | (with_reducible first | exact HB.out | apply ba | apply pb | apply bd | refine below_set ?_ GE512.out | refine below_set ?_ GE513.out | refine below_set ?_ GE518.out | refine below_set ?_ GE521.out) | exact HB.out)⟩⟩
 case rest =>
  clear HC6
  try clear c1
  try clear c2
  try clear p2
  try clear c3
  try clear c4
  try clear c9
  try clear c14
  try clear c15
  try clear c18
  try clear c22
  try clear c24
  try clear c26
  try clear c27
  try clear c28
  try clear c36
  try clear c37
  try clear c39
  try clear c40
  try clear c41
  try clear c42
  try clear c43
  try clear c44
  try clear c46
  try clear c47
  try clear c48
  try clear hcz10_0
  try clear hcz16_0
  try clear hcz17_0
  try clear hcz18_0
  try clear hcz29_0
  try clear hcz31_0
  try clear hcz33_0
  try clear hcz38_0
  try clear hcz42_0
  try clear hcz44_0
  try clear hcz49_0
  try clear hfz10_0
  try clear hfz16_0
  try clear hfz17_0
  try clear hfz18_0
  try clear hfz29_0
  try clear hfz31_0
  try clear hfz33_0
  try clear hfz38_0
  try clear hfz42_0
  try clear hfz44_0
  try clear hfz49_0
  obtain ⟨kq, x12_5, x522000_5, u522000, rfl, HA, HJ5, HO_519000, HO_522000, BK512, BK513, BK518, BK521, HB⟩ := hcut
  cases kq with
  | zero => exact absurd HA.out (by simp [mizmazelaw05_ColorMakes.j0])
  | succ kj5 =>
   have H := HA.out
   clear HA
   simp only [mizmazelaw05_ColorMakes.j0] at H
   have HC51 := am H
   clear H
   go_upto_region 10 with (fail)
   go_cut [47] (fun v47 wc => ∃ (kq : Nat) (x47_50 : Bool), v47 = .bool x47_50 ∧ Aside0 (mizmazelaw05_ColorMakes.j1 kq t519 t520 x47_50 l0_0 l1_0 = some r) ∧ Aside0 (kq ≤ kj5) ∧ Aside0 (Kd.S (Kd.slice 3 (Kd.int .i64)) 28 wc w.heap.size (fun k_ => some k_ ≠ (u522000 : Value).ownBlock) (.slice Ao13 t514.length co13) t514) ∧ Aside0 (Kd.S (Kd.slice 3 (Kd.int .i64)) 28 wc w.heap.size (fun k_ => some k_ ≠ ((.slice Ao13 t514.length co13) : Value).ownBlock) u522000 x522000_5) ∧ Aside0 (wc.heap[gb512]? = some (.cells #[(.slice A0_0 l0_0.length c0_0)] 24 (0, 0))) ∧ Aside0 (wc.heap[gb513]? = some (.cells #[(.slice A1_0 l1_0.length c1_0)] 24 (0, 0))) ∧ Aside0 (wc.heap[gb518]? = some (.cells #[(.slice Ao13 t514.length co13)] 24 (0, 0))) ∧ Aside0 (wc.heap[gb521]? = some (.cells #[u522000] 24 (0, 0))) ∧ Aside0 (Below w.heap.size w wc))
   case first =>
    have H := HC51.out
    clear HC51
    by_cases c52 : t517 = x12_5
    rotate_left
    ·rw [if_neg c52] at H
     have c52b0 : (t517 == x12_5) = false := beq_eq_false_iff_ne.mpr c52
     have c52b1 : (t517 != x12_5) = true := bne_iff_ne.mpr c52
     (first | rw [c52b0] | (simp only [i64_w, i32_w]; rw [c52b0]) | skip)
     have H' := am H
     clear H
     go_wp2
     go_meet
     case rel => exact ⟨_, (true), (by first | rfl | (simp; done) | (simp [*]; done)), H', ⟨by have := HJ5.out; first | omega | exact Nat.le_refl _⟩, ⟨by (with_reducible repeat (first | apply Kd.S_alloc | apply Kd.S_drewN | apply Kd.S_drew)); exact HO_519000.out⟩, ⟨by (with_reducible repeat (first | apply Kd.S_alloc | apply Kd.S_drewN | apply Kd.S_drew)); exact HO_522000.out⟩, ⟨by (with_reducible repeat (first | refine blk_drewN ?_ _ | refine blk_drew ?_ | refine blk_alloc ?_ _)); exact BK512.out⟩, ⟨by (with_reducible repeat (first | refine blk_drewN ?_ _ | refine blk_drew ?_ | refine blk_alloc ?_ _)); exact BK513.out⟩, ⟨by (with_reducible repeat (first | refine blk_drewN ?_ _ | refine blk_drew ?_ | refine blk_alloc ?_ _)); exact BK518.out⟩, ⟨by (with_reducible repeat (first | refine blk_drewN ?_ _ | refine blk_drew ?_ | refine blk_alloc ?_ _)); exact BK521.out⟩, ⟨by repeat (first | (with_reducible first | exact HB.out | apply ba | apply pb | apply bd | refine below_set ?_ GE512.out | refine below_set ?_ GE513.out | refine below_set ?_ GE518.out | refine below_set ?_ GE521.out) | exact HB.out)⟩⟩
    rw [if_pos c52] at H
    have c52b0 : (t517 == x12_5) = true := beq_iff_eq.mpr c52
    have c52b1 : (t517 != x12_5) = false := bne_eq_false_iff_eq.mpr c52
    clear c52
    (first | rw [c52b0] | (simp only [i64_w, i32_w]; rw [c52b0]) | skip)
    replace H := Option.bind_eq_some_iff.mp H
    obtain ⟨t527, A530, H⟩ := H
    replace H : (mizmazelaw05_ColorMakes.j1 kj5 t519 t520 (!t527) l0_0 l1_0) = some r := H
    have A53 := am A530
    clear A530
    have H' := am H
    clear H
    have hnb54 := NB518_512.out
    have hnc54 := NB512_518.out
    have hnb55 := NB518_513.out
    have hnc55 := NB513_518.out
    have hnb56 := NB518_521.out
    have hnc56 := NB521_518.out
    have hcz57_0 : wc.cell? ⟨gb518, 0, none⟩ = some (.slice Ao13 t514.length co13) := (blk_cell BK518.out 0).trans rfl
    have hfz57_0 := blk_frozen BK518.out 0
    have hnb58 := NB521_512.out
    have hnc58 := NB512_521.out
    have hnb59 := NB521_513.out
    have hnc59 := NB513_521.out
    have hcz60_0 : wc.cell? ⟨gb521, 0, none⟩ = some (u522000) := (blk_cell BK521.out 0).trans rfl
    have hfz60_0 := blk_frozen BK521.out 0
    obtain ⟨Ao61, co61, eo61⟩ := Kd.S_slice HO_522000.out
    subst eo61
    go_wp2_with (first | (go_at_call 27; (with_reducible refine (mizmazeref01_Sames.calls kj5 _ _ t514 _ _ x522000_5 t527 _ ?side1 ?side2 ?side3 ?side4 A53.out).mono ?_); (case side1 => repeat (first | exact (Kd.S_reads' HO_519000.out).2.2 | (with_reducible refine Kd.C_alloc ?_ _) | (with_reducible refine Kd.C_drewN ?_ _) | (with_reducible refine Kd.C_drew ?_))); (case side2 => exact (Kd.S_reads' HO_519000.out).2.1); (case side3 => repeat (first | exact (Kd.S_reads' HO_522000.out).2.2 | (with_reducible refine Kd.C_alloc ?_ _) | (with_reducible refine Kd.C_drewN ?_ _) | (with_reducible refine Kd.C_drew ?_))); (case side4 => exact (Kd.S_reads' HO_522000.out).2.1); rintro e w' ⟨rfl, ⟨nd, rfl⟩⟩))
    go_meet
    case rel => exact ⟨_, (!t527), (by first | rfl | (simp; done) | (simp [*]; done)), H', ⟨by have := HJ5.out; first | omega | exact Nat.le_refl _⟩, ⟨by (with_reducible repeat (first | apply Kd.S_alloc | apply Kd.S_drewN | apply Kd.S_drew)); exact HO_519000.out⟩, ⟨by (with_reducible repeat (first | apply Kd.S_alloc | apply Kd.S_drewN | apply Kd.S_drew)); exact HO_522000.out⟩, ⟨by (with_reducible repeat (first | refine blk_drewN ?_ _ | refine blk_drew ?_ | refine blk_alloc ?_ _)); exact BK512.out⟩, ⟨by (with_reducible repeat (first | refine blk_drewN ?_ _ | refine blk_drew ?_ | refine blk_alloc ?_ _)); exact BK513.out⟩, ⟨by (with_reducible repeat (first | refine blk_drewN ?_ _ | refine blk_drew ?_ | refine blk_alloc ?_ _)); exact BK518.out⟩, ⟨by (with_reducible repeat (first | refine blk_drewN ?_ _ | refine blk_drew ?_ | refine blk_alloc ?_ _)); exact BK521.out⟩, ⟨by repeat (first | (with_reducible first | exact HB.out | apply ba | apply pb | apply bd | refine below_set ?_ GE512.out | refine below_set ?_ GE513.out | refine below_set ?_ GE518.out | refine below_set ?_ GE521.out) | exact HB.out)⟩⟩
   case rest =>
    clear HC51
    try clear c1
    try clear c2
    try clear p2
    try clear c3
    try clear c4
    try clear c5
    try clear c9
    try clear c14
    try clear c15
    try clear c18
    try clear c22
    try clear c24
    try clear c26
    try clear c27
    try clear c28
    try clear c36
    try clear c37
    try clear c39
    try clear c40
    try clear c41
    try clear c42
    try clear c43
    try clear c44
    try clear c46
    try clear c47
    try clear c48
    try clear c52
    try clear c52b0
    try clear c52b1
    try clear c54
    try clear c55
    try clear c56
    try clear c58
    try clear c59
    try clear hcz10_0
    try clear hcz16_0
    try clear hcz17_0
    try clear hcz18_0
    try clear hcz29_0
    try clear hcz31_0
    try clear hcz33_0
    try clear hcz38_0
    try clear hcz42_0
    try clear hcz44_0
    try clear hcz49_0
    try clear hcz57_0
    try clear hcz60_0
    try clear hfz10_0
    try clear hfz16_0
    try clear hfz17_0
    try clear hfz18_0
    try clear hfz29_0
    try clear hfz31_0
    try clear hfz33_0
    try clear hfz38_0
    try clear hfz42_0
    try clear hfz44_0
    try clear hfz49_0
    try clear hfz57_0
    try clear hfz60_0
    try clear p2
    obtain ⟨kq, x47_50, rfl, HA, HJ50, HO_519000, HO_522000, BK512, BK513, BK518, BK521, HB⟩ := hcut
    cases kq with
    | zero => exact absurd HA.out (by simp [mizmazelaw05_ColorMakes.j1])
    | succ kj50 =>
     have H := HA.out
     clear HA
     simp only [mizmazelaw05_ColorMakes.j1] at H
     by_cases c62 : x47_50 = true
     ·subst c62
      have H1 : (some false) = some r := by rw [if_pos rfl] at H; exact H
      clear H
      have H := H1
      clear H1
      obtain rfl := Option.some.inj H
      go_wp2
      go_ret
      exact ⟨by first | rfl | (simp [errW_none, errW_some] <;> rfl) | (simp [*, errW_none, errW_some] <;> rfl), by repeat (first | (with_reducible first | exact HB.out | apply ba | apply pb | apply bd | refine below_set ?_ GE512.out | refine below_set ?_ GE513.out | refine below_set ?_ GE518.out | refine below_set ?_ GE521.out) | exact HB.out)⟩
     replace c62 := Bool.eq_false_iff.mpr c62
     subst c62
     have H1 : ((mizmazeref01_Valid.f kj50 l0_0).bind fun t528 => (if t528 = true then ((mizmazeref01_Valid.f kj50 l1_0).bind fun t529 => (mizmazelaw05_ColorMakes.j2 kj50 t519 t520 (!t529) l0_0 l1_0)) else (mizmazelaw05_ColorMakes.j2 kj50 t519 t520 true l0_0 l1_0))) = some r := by rw [if_neg (show ¬ (false = true) by decide)] at H; exact H
     clear H
     have H := H1
     clear H1
     have HC63 := am H
     clear H
     go_upto_region 12 with (fail)
     go_cut [55] (fun v55 wc => ∃ (kq : Nat) (x55_62 : Bool), v55 = .bool x55_62 ∧ Aside0 (mizmazelaw05_ColorMakes.j2 kq t519 t520 x55_62 l0_0 l1_0 = some r) ∧ Aside0 (kq ≤ kj50) ∧ Aside0 (Kd.S (Kd.slice 3 (Kd.int .i64)) 28 wc w.heap.size (fun k_ => some k_ ≠ (u522000 : Value).ownBlock) (.slice Ao13 t514.length co13) t514) ∧ Aside0 (Kd.S (Kd.slice 3 (Kd.int .i64)) 28 wc w.heap.size (fun k_ => some k_ ≠ ((.slice Ao13 t514.length co13) : Value).ownBlock) u522000 x522000_5) ∧ Aside0 (wc.heap[gb512]? = some (.cells #[(.slice A0_0 l0_0.length c0_0)] 24 (0, 0))) ∧ Aside0 (wc.heap[gb513]? = some (.cells #[(.slice A1_0 l1_0.length c1_0)] 24 (0, 0))) ∧ Aside0 (wc.heap[gb518]? = some (.cells #[(.slice Ao13 t514.length co13)] 24 (0, 0))) ∧ Aside0 (wc.heap[gb521]? = some (.cells #[u522000] 24 (0, 0))) ∧ Aside0 (Below w.heap.size w wc))
     case first =>
      have H := HC63.out
      clear HC63
      replace H := Option.bind_eq_some_iff.mp H
      obtain ⟨t528, A640, H⟩ := H
      replace H : (if t528 = true then ((mizmazeref01_Valid.f kj50 l1_0).bind fun t529 => (mizmazelaw05_ColorMakes.j2 kj50 t519 t520 (!t529) l0_0 l1_0)) else (mizmazelaw05_ColorMakes.j2 kj50 t519 t520 true l0_0 l1_0)) = some r := H
      have A64 := am A640
      clear A640
      by_cases c65 : t528 = true
      rotate_left
      ·replace c65 := Bool.eq_false_iff.mpr c65
       subst c65
       have H1 : (mizmazelaw05_ColorMakes.j2 kj50 t519 t520 true l0_0 l1_0) = some r := by rw [if_neg (show ¬ (false = true) by decide)] at H; exact H
       clear H
       have H := H1
       clear H1
       have H' := am H
       clear H
       have hnb76 := NB512_513.out
       have hnc76 := NB513_512.out
       have hnb77 := NB512_518.out
       have hnc77 := NB518_512.out
       have hnb78 := NB512_521.out
       have hnc78 := NB521_512.out
       have hcz79_0 : wc.cell? ⟨gb512, 0, none⟩ = some (.slice A0_0 l0_0.length c0_0) := (blk_cell BK512.out 0).trans rfl
       have hfz79_0 := blk_frozen BK512.out 0
       go_wp2_with (first | ((with_reducible refine gate_callee (f := 18) rfl ?_); refine goesL_ (some 49) rfl rfl Try.func18 (by kernel_rfl) rfl #[.agg #[.slice A0_0 l0_0.length c0_0]] rfl (by (try simp only [List.map_toArray, List.map_cons, List.map_nil]); first | done | rfl | (simp only [List.length_drop, List.length_take]; rfl)) ?_; (with_reducible refine (mizmazeref01_Valid.calls kj50 _ _ l0_0 false _ ?side1 ?side2 A64.out).mono ?_); (case side1 => repeat (first | exact (Kd.C_below HR0_0.out HB.out) | (with_reducible refine Kd.C_alloc ?_ _) | (with_reducible refine Kd.C_drewN ?_ _) | (with_reducible refine Kd.C_drew ?_))); (case side2 => exact HC0_0.out); rintro e w80 ⟨rfl, hb⟩; refine ⟨_, rfl, ?_⟩; have n0_ := am (Kd.S_below (kS HO_519000.out) hb); have n1_ := am (Kd.S_below (kS HO_522000.out) hb); have n2_ := am (blk_below (g := gb512) (o := .cells #[.slice A0_0 l0_0.length c0_0] 24 (0, 0)) (kb BK512.out) hb); have n3_ := am (blk_below (g := gb513) (o := .cells #[.slice A1_0 l1_0.length c1_0] 24 (0, 0)) (kb BK513.out) hb); have n4_ := am (blk_below (g := gb518) (o := .cells #[.slice Ao13 t514.length co13] 24 (0, 0)) (kb BK518.out) hb); have n5_ := am (blk_below (g := gb521) (o := .cells #[u522000] 24 (0, 0)) (kb BK521.out) hb); have n6_ := am (below_step (bs HB.out) hb); clear HO_519000; clear HO_522000; clear BK512; clear BK513; clear BK518; clear BK521; clear HB; have HO_519000 := n0_; have HO_522000 := n1_; have BK512 := n2_; have BK513 := n3_; have BK518 := n4_; have BK521 := n5_; have HB := n6_; clear n0_ n1_ n2_ n3_ n4_ n5_ n6_; (try clear hb); (try clear hb2); (try clear hk); (try clear hi)))
       go_meet
       case rel => exact ⟨_, (true), (by first | rfl | (simp; done) | (simp [*]; done)), H', ⟨by have := HJ5.out; have := HJ50.out; first | omega | exact Nat.le_refl _⟩, ⟨by (with_reducible repeat (first | apply Kd.S_alloc | apply Kd.S_drewN | apply Kd.S_drew)); exact HO_519000.out⟩, ⟨by (with_reducible repeat (first | apply Kd.S_alloc | apply Kd.S_drewN | apply Kd.S_drew)); exact HO_522000.out⟩, ⟨by (with_reducible repeat (first | refine blk_drewN ?_ _ | refine blk_drew ?_ | refine blk_alloc ?_ _)); exact BK512.out⟩, ⟨by (with_reducible repeat (first | refine blk_drewN ?_ _ | refine blk_drew ?_ | refine blk_alloc ?_ _)); exact BK513.out⟩, ⟨by (with_reducible repeat (first | refine blk_drewN ?_ _ | refine blk_drew ?_ | refine blk_alloc ?_ _)); exact BK518.out⟩, ⟨by (with_reducible repeat (first | refine blk_drewN ?_ _ | refine blk_drew ?_ | refine blk_alloc ?_ _)); exact BK521.out⟩, ⟨by repeat (first | (with_reducible first | exact HB.out | apply ba | apply pb | apply bd | refine below_set ?_ GE512.out | refine below_set ?_ GE513.out | refine below_set ?_ GE518.out | refine below_set ?_ GE521.out) | exact HB.out)⟩⟩
      subst c65
      have H1 : ((mizmazeref01_Valid.f kj50 l1_0).bind fun t529 => (mizmazelaw05_ColorMakes.j2 kj50 t519 t520 (!t529) l0_0 l1_0)) = some r := by rw [if_pos rfl] at H; exact H
      clear H
      have H := H1
      clear H1
      replace H := Option.bind_eq_some_iff.mp H
      obtain ⟨t529, A660, H⟩ := H
      replace H : (mizmazelaw05_ColorMakes.j2 kj50 t519 t520 (!t529) l0_0 l1_0) = some r := H
      have A66 := am A660
      clear A660
      have H' := am H
      clear H
      have hnb67 := NB512_513.out
      have hnc67 := NB513_512.out
      have hnb68 := NB512_518.out
      have hnc68 := NB518_512.out
      have hnb69 := NB512_521.out
      have hnc69 := NB521_512.out
      have hcz70_0 : wc.cell? ⟨gb512, 0, none⟩ = some (.slice A0_0 l0_0.length c0_0) := (blk_cell BK512.out 0).trans rfl
      have hfz70_0 := blk_frozen BK512.out 0
      go_wp2_with (first | ((with_reducible refine gate_callee (f := 18) rfl ?_); refine goesL_ (some 49) rfl rfl Try.func18 (by kernel_rfl) rfl #[.agg #[.slice A0_0 l0_0.length c0_0]] rfl (by (try simp only [List.map_toArray, List.map_cons, List.map_nil]); first | done | rfl | (simp only [List.length_drop, List.length_take]; rfl)) ?_; (with_reducible refine (mizmazeref01_Valid.calls kj50 _ _ l0_0 true _ ?side1 ?side2 A64.out).mono ?_); (case side1 => repeat (first | exact (Kd.C_below HR0_0.out HB.out) | (with_reducible refine Kd.C_alloc ?_ _) | (with_reducible refine Kd.C_drewN ?_ _) | (with_reducible refine Kd.C_drew ?_))); (case side2 => exact HC0_0.out); rintro e w71 ⟨rfl, hb⟩; refine ⟨_, rfl, ?_⟩; have n0_ := am (Kd.S_below (kS HO_519000.out) hb); have n1_ := am (Kd.S_below (kS HO_522000.out) hb); have n2_ := am (blk_below (g := gb512) (o := .cells #[.slice A0_0 l0_0.length c0_0] 24 (0, 0)) (kb BK512.out) hb); have n3_ := am (blk_below (g := gb513) (o := .cells #[.slice A1_0 l1_0.length c1_0] 24 (0, 0)) (kb BK513.out) hb); have n4_ := am (blk_below (g := gb518) (o := .cells #[.slice Ao13 t514.length co13] 24 (0, 0)) (kb BK518.out) hb); have n5_ := am (blk_below (g := gb521) (o := .cells #[u522000] 24 (0, 0)) (kb BK521.out) hb); have n6_ := am (below_step (bs HB.out) hb); clear HO_519000; clear HO_522000; clear BK512; clear BK513; clear BK518; clear BK521; clear HB; have HO_519000 := n0_; have HO_522000 := n1_; have BK512 := n2_; have BK513 := n3_; have BK518 := n4_; have BK521 := n5_; have HB := n6_; clear n0_ n1_ n2_ n3_ n4_ n5_ n6_; (try clear hb); (try clear hb2); (try clear hk); (try clear hi); have hnb72 := NB513_518.out; have hnc72 := NB518_513.out; have hnb73 := NB513_521.out; have hnc73 := NB521_513.out; have hcz74_0 : w71.cell? ⟨gb513, 0, none⟩ = some (.slice A1_0 l1_0.length c1_0) := (blk_cell BK513.out 0).trans rfl; have hfz74_0 := blk_frozen BK513.out 0) | (go_at_call 18; (with_reducible refine (mizmazeref01_Valid.calls kj50 _ _ l1_0 t529 _ ?side1 ?side2 A66.out).mono ?_); (case side1 => repeat (first | exact (Kd.C_below HR1_0.out HB.out) | (with_reducible refine Kd.C_alloc ?_ _) | (with_reducible refine Kd.C_drewN ?_ _) | (with_reducible refine Kd.C_drew ?_))); (case side2 => exact HC1_0.out); rintro e w75 ⟨rfl, hb⟩; have n0_ := am (Kd.S_below (kS HO_519000.out) hb); have n1_ := am (Kd.S_below (kS HO_522000.out) hb); have n2_ := am (blk_below (g := gb512) (o := .cells #[.slice A0_0 l0_0.length c0_0] 24 (0, 0)) (kb BK512.out) hb); have n3_ := am (blk_below (g := gb513) (o := .cells #[.slice A1_0 l1_0.length c1_0] 24 (0, 0)) (kb BK513.out) hb); have n4_ := am (blk_below (g := gb518) (o := .cells #[.slice Ao13 t514.length co13] 24 (0, 0)) (kb BK518.out) hb); have n5_ := am (blk_below (g := gb521) (o := .cells #[u522000] 24 (0, 0)) (kb BK521.out) hb); have n6_ := am (below_step (bs HB.out) hb); clear HO_519000; clear HO_522000; clear BK512; clear BK513; clear BK518; clear BK521; clear HB; have HO_519000 := n0_; have HO_522000 := n1_; have BK512 := n2_; have BK513 := n3_; have BK518 := n4_; have BK521 := n5_; have HB := n6_; clear n0_ n1_ n2_ n3_ n4_ n5_ n6_; (try clear hb); (try clear hb2); (try clear hk); (try clear hi)))
      go_meet
      case rel => exact ⟨_, (!t529), (by first | rfl | (simp; done) | (simp [*]; done)), H', ⟨by have := HJ5.out; have := HJ50.out; first | omega | exact Nat.le_refl _⟩, ⟨by (with_reducible repeat (first | apply Kd.S_alloc | apply Kd.S_drewN | apply Kd.S_drew)); exact HO_519000.out⟩, ⟨by (with_reducible repeat (first | apply Kd.S_alloc | apply Kd.S_drewN | apply Kd.S_drew)); exact HO_522000.out⟩, ⟨by (with_reducible repeat (first | refine blk_drewN ?_ _ | refine blk_drew ?_ | refine blk_alloc ?_ _)); exact BK512.out⟩, ⟨by (with_reducible repeat (first | refine blk_drewN ?_ _ | refine blk_drew ?_ | refine blk_alloc ?_ _)); exact BK513.out⟩, ⟨by (with_reducible repeat (first | refine blk_drewN ?_ _ | refine blk_drew ?_ | refine blk_alloc ?_ _)); exact BK518.out⟩, ⟨by (with_reducible repeat (first | refine blk_drewN ?_ _ | refine blk_drew ?_ | refine blk_alloc ?_ _)); exact BK521.out⟩, ⟨by repeat (first | (with_reducible first | exact HB.out | apply ba | apply pb | apply bd | refine below_set ?_ GE512.out | refine below_set ?_ GE513.out | refine below_set ?_ GE518.out | refine below_set ?_ GE521.out) | exact HB.out)⟩⟩
     case rest =>
      clear HC63
      try clear c1
      try clear c2
      try clear p2
      try clear c3
      try clear c4
      try clear c5
      try clear c6
      try clear c7
      try clear c9
      try clear c14
      try clear c15
      try clear c18
      try clear c22
      try clear c24
      try clear c26
      try clear c27
      try clear c28
      try clear c36
      try clear c37
      try clear c39
      try clear c40
      try clear c41
      try clear c42
      try clear c43
      try clear c44
      try clear c46
      try clear c47
      try clear c48
      try clear c52
      try clear c52b0
      try clear c52b1
      try clear c54
      try clear c55
      try clear c56
      try clear c58
      try clear c59
      try clear c62
      try clear c65
      try clear c67
      try clear c68
      try clear c69
      try clear c72
      try clear c73
      try clear c76
      try clear c77
      try clear c78
      try clear hcz10_0
      try clear hcz16_0
      try clear hcz17_0
      try clear hcz18_0
      try clear hcz29_0
      try clear hcz31_0
      try clear hcz33_0
      try clear hcz38_0
      try clear hcz42_0
      try clear hcz44_0
      try clear hcz49_0
      try clear hcz57_0
      try clear hcz60_0
      try clear hcz70_0
      try clear hcz74_0
      try clear hcz79_0
      try clear hfz10_0
      try clear hfz16_0
      try clear hfz17_0
      try clear hfz18_0
      try clear hfz29_0
      try clear hfz31_0
      try clear hfz33_0
      try clear hfz38_0
      try clear hfz42_0
      try clear hfz44_0
      try clear hfz49_0
      try clear hfz57_0
      try clear hfz60_0
      try clear hfz70_0
      try clear hfz74_0
      try clear hfz79_0
      try clear p2
      obtain ⟨kq, x55_62, rfl, HA, HJ62, HO_519000, HO_522000, BK512, BK513, BK518, BK521, HB⟩ := hcut
      cases kq with
      | zero => exact absurd HA.out (by simp [mizmazelaw05_ColorMakes.j2])
      | succ kj62 =>
       have H := HA.out
       clear HA
       simp only [mizmazelaw05_ColorMakes.j2] at H
       by_cases c81 : x55_62 = true
       ·subst c81
        have H1 : (if t520 = 1 then (if t519 = true then (some false) else ((mizmazelaw05_awake.f kj62).bind fun t530 => (some t530))) else (some false)) = some r := by rw [if_pos rfl] at H; exact H
        clear H
        have H := H1
        clear H1
        by_cases c82 : t520 = 1
        rotate_left
        ·rw [if_neg c82] at H
         have c82b0 : (t520 == 1) = false := beq_eq_false_iff_ne.mpr c82
         have c82b1 : (t520 != 1) = true := bne_iff_ne.mpr c82
         obtain rfl := Option.some.inj H
         go_wp2
         go_ret
         exact ⟨by first | rfl | (simp [errW_none, errW_some] <;> rfl) | (simp [*, errW_none, errW_some] <;> rfl), by repeat (first | (with_reducible first | exact HB.out | apply ba | apply pb | apply bd | refine below_set ?_ GE512.out | refine below_set ?_ GE513.out | refine below_set ?_ GE518.out | refine below_set ?_ GE521.out) | exact HB.out)⟩
        rw [if_pos c82] at H
        have c82b0 : (t520 == 1) = true := beq_iff_eq.mpr c82
        have c82b1 : (t520 != 1) = false := bne_eq_false_iff_eq.mpr c82
        clear c82
        by_cases c83 : t519 = true
        ·subst c83
         have H1 : (some false) = some r := by rw [if_pos rfl] at H; exact H
         clear H
         have H := H1
         clear H1
         obtain rfl := Option.some.inj H
         go_wp2
         go_ret
         exact ⟨by first | rfl | (simp [errW_none, errW_some] <;> rfl) | (simp [*, errW_none, errW_some] <;> rfl), by repeat (first | (with_reducible first | exact HB.out | apply ba | apply pb | apply bd | refine below_set ?_ GE512.out | refine below_set ?_ GE513.out | refine below_set ?_ GE518.out | refine below_set ?_ GE521.out) | exact HB.out)⟩
        replace c83 := Bool.eq_false_iff.mpr c83
        subst c83
        have H1 : ((mizmazelaw05_awake.f kj62).bind fun t530 => (some t530)) = some r := by rw [if_neg (show ¬ (false = true) by decide)] at H; exact H
        clear H
        have H := H1
        clear H1
        replace H := Option.bind_eq_some_iff.mp H
        obtain ⟨t530, A840, H⟩ := H
        replace H : (some t530) = some r := H
        have A84 := am A840
        clear A840
        obtain rfl := Option.some.inj H
        go_wp2_with (first | (go_at_call 45; (with_reducible refine (mizmazelaw05_awake.calls kj62  t530 _ A84.out).mono ?_); rintro e w85 ⟨rfl, hb⟩; have n0_ := am (Kd.S_below (kS HO_519000.out) hb); have n1_ := am (Kd.S_below (kS HO_522000.out) hb); have n2_ := am (blk_below (g := gb512) (o := .cells #[.slice A0_0 l0_0.length c0_0] 24 (0, 0)) (kb BK512.out) hb); have n3_ := am (blk_below (g := gb513) (o := .cells #[.slice A1_0 l1_0.length c1_0] 24 (0, 0)) (kb BK513.out) hb); have n4_ := am (blk_below (g := gb518) (o := .cells #[.slice Ao13 t514.length co13] 24 (0, 0)) (kb BK518.out) hb); have n5_ := am (blk_below (g := gb521) (o := .cells #[u522000] 24 (0, 0)) (kb BK521.out) hb); have n6_ := am (below_step (bs HB.out) hb); clear HO_519000; clear HO_522000; clear BK512; clear BK513; clear BK518; clear BK521; clear HB; have HO_519000 := n0_; have HO_522000 := n1_; have BK512 := n2_; have BK513 := n3_; have BK518 := n4_; have BK521 := n5_; have HB := n6_; clear n0_ n1_ n2_ n3_ n4_ n5_ n6_; (try clear hb); (try clear hb2); (try clear hk); (try clear hi)))
        go_ret
        exact ⟨by first | rfl | (simp [errW_none, errW_some] <;> rfl) | (simp [*, errW_none, errW_some] <;> rfl), by repeat (first | (with_reducible first | exact HB.out | apply ba | apply pb | apply bd | refine below_set ?_ GE512.out | refine below_set ?_ GE513.out | refine below_set ?_ GE518.out | refine below_set ?_ GE521.out) | exact HB.out)⟩
       replace c81 := Bool.eq_false_iff.mpr c81
       subst c81
       have H1 : (if t520 = 0 then ((mizmazeref05_Same.f kj62 l0_0 l1_0).bind fun t531 => (if (t519 == t531) = true then ((mizmazelaw05_awake.f kj62).bind fun t532 => (some t532)) else (some false))) else (some false)) = some r := by rw [if_neg (show ¬ (false = true) by decide)] at H; exact H
       clear H
       have H := H1
       clear H1
       by_cases c86 : t520 = 0
       rotate_left
       ·rw [if_neg c86] at H
        have c86b0 : (t520 == 0) = false := beq_eq_false_iff_ne.mpr c86
        have c86b1 : (t520 != 0) = true := bne_iff_ne.mpr c86
        obtain rfl := Option.some.inj H
        go_wp2
        go_ret
        exact ⟨by first | rfl | (simp [errW_none, errW_some] <;> rfl) | (simp [*, errW_none, errW_some] <;> rfl), by repeat (first | (with_reducible first | exact HB.out | apply ba | apply pb | apply bd | refine below_set ?_ GE512.out | refine below_set ?_ GE513.out | refine below_set ?_ GE518.out | refine below_set ?_ GE521.out) | exact HB.out)⟩

       rw [if_pos c86] at H
       have c86b0 : (t520 == 0) = true := beq_iff_eq.mpr c86
       have c86b1 : (t520 != 0) = false := bne_eq_false_iff_eq.mpr c86
       clear c86
       replace H := Option.bind_eq_some_iff.mp H
       obtain ⟨t531, A870, H⟩ := H
       replace H : (if (t519 == t531) = true then ((mizmazelaw05_awake.f kj62).bind fun t532 => (some t532)) else (some false)) = some r := H
       have A87 := am A870
       clear A870
       by_cases c88 : (t519 == t531) = true
       rotate_left
       ·rw [if_neg c88] at H
        have c88b0 : (t519 == t531) = false := by simpa using c88
        (try (have c88b1 : decide (t519 = t531) = false := by simpa using c88))
        (try (have c88b2 : (t519 == t531) = false := by simpa using c88))
        (try (have c88b3 : ¬ (t519 = t531) := by simpa using c88))
        clear c88
        obtain rfl := Option.some.inj H
        have hnb99 := NB512_513.out
        have hnc99 := NB513_512.out
        have hnb100 := NB512_518.out
        have hnc100 := NB518_512.out
        have hnb101 := NB512_521.out
        have hnc101 := NB521_512.out
        have hcz102_0 : wc.cell? ⟨gb512, 0, none⟩ = some (.slice A0_0 l0_0.length c0_0) := (blk_cell BK512.out 0).trans rfl
        have hfz102_0 := blk_frozen BK512.out 0
        have hnb103 := NB513_518.out
        have hnc103 := NB518_513.out
        have hnb104 := NB513_521.out
        have hnc104 := NB521_513.out
        have hcz105_0 : wc.cell? ⟨gb513, 0, none⟩ = some (.slice A1_0 l1_0.length c1_0) := (blk_cell BK513.out 0).trans rfl
        have hfz105_0 := blk_frozen BK513.out 0
        go_wp2_with (first | (go_at_call 46; (with_reducible refine (mizmazeref05_Same.calls kj62 _ _ l0_0 _ _ l1_0 t531 _ ?side1 ?side2 ?side3 ?side4 A87.out).mono ?_); (case side1 => repeat (first | exact (Kd.C_below HR0_0.out HB.out) | (with_reducible refine Kd.C_alloc ?_ _) | (with_reducible refine Kd.C_drewN ?_ _) | (with_reducible refine Kd.C_drew ?_))); (case side2 => exact HC0_0.out); (case side3 => repeat (first | exact (Kd.C_below HR1_0.out HB.out) | (with_reducible refine Kd.C_alloc ?_ _) | (with_reducible refine Kd.C_drewN ?_ _) | (with_reducible refine Kd.C_drew ?_))); (case side4 => exact HC1_0.out); rintro e w106 ⟨rfl, hb⟩; have n0_ := am (Kd.S_below (kS HO_519000.out) hb); have n1_ := am (Kd.S_below (kS HO_522000.out) hb); have n2_ := am (blk_below (g := gb512) (o := .cells #[.slice A0_0 l0_0.length c0_0] 24 (0, 0)) (kb BK512.out) hb); have n3_ := am (blk_below (g := gb513) (o := .cells #[.slice A1_0 l1_0.length c1_0] 24 (0, 0)) (kb BK513.out) hb); have n4_ := am (blk_below (g := gb518) (o := .cells #[.slice Ao13 t514.length co13] 24 (0, 0)) (kb BK518.out) hb); have n5_ := am (blk_below (g := gb521) (o := .cells #[u522000] 24 (0, 0)) (kb BK521.out) hb); have n6_ := am (below_step (bs HB.out) hb); clear HO_519000; clear HO_522000; clear BK512; clear BK513; clear BK518; clear BK521; clear HB; have HO_519000 := n0_; have HO_522000 := n1_; have BK512 := n2_; have BK513 := n3_; have BK518 := n4_; have BK521 := n5_; have HB := n6_; clear n0_ n1_ n2_ n3_ n4_ n5_ n6_; (try clear hb); (try clear hb2); (try clear hk); (try clear hi)))
        go_ret
        exact ⟨by first | rfl | (simp [errW_none, errW_some] <;> rfl) | (simp [*, errW_none, errW_some] <;> rfl), by repeat (first | (with_reducible first | exact HB.out | apply ba | apply pb | apply bd | refine below_set ?_ GE512.out | refine below_set ?_ GE513.out | refine below_set ?_ GE518.out | refine below_set ?_ GE521.out) | exact HB.out)⟩
       rw [if_pos c88] at H
       have c88b0 : (t519 == t531) = true := c88
       (try (have c88b1 : decide (t519 = t531) = true := by simpa using c88))
       (try (have c88b2 : (t519 == t531) = true := by simpa using c88))
       clear c88
       replace H := Option.bind_eq_some_iff.mp H
       obtain ⟨t532, A890, H⟩ := H
       replace H : (some t532) = some r := H
       have A89 := am A890
       clear A890
       obtain rfl := Option.some.inj H
       have hnb90 := NB512_513.out
       have hnc90 := NB513_512.out
       have hnb91 := NB512_518.out
       have hnc91 := NB518_512.out
       have hnb92 := NB512_521.out
       have hnc92 := NB521_512.out
       have hcz93_0 : wc.cell? ⟨gb512, 0, none⟩ = some (.slice A0_0 l0_0.length c0_0) := (blk_cell BK512.out 0).trans rfl
       have hfz93_0 := blk_frozen BK512.out 0
       have hnb94 := NB513_518.out
       have hnc94 := NB518_513.out
       have hnb95 := NB513_521.out
       have hnc95 := NB521_513.out
       have hcz96_0 : wc.cell? ⟨gb513, 0, none⟩ = some (.slice A1_0 l1_0.length c1_0) := (blk_cell BK513.out 0).trans rfl
       have hfz96_0 := blk_frozen BK513.out 0
       go_wp2_with (first | (go_at_call 46; (with_reducible refine (mizmazeref05_Same.calls kj62 _ _ l0_0 _ _ l1_0 t531 _ ?side1 ?side2 ?side3 ?side4 A87.out).mono ?_); (case side1 => repeat (first | exact (Kd.C_below HR0_0.out HB.out) | (with_reducible refine Kd.C_alloc ?_ _) | (with_reducible refine Kd.C_drewN ?_ _) | (with_reducible refine Kd.C_drew ?_))); (case side2 => exact HC0_0.out); (case side3 => repeat (first | exact (Kd.C_below HR1_0.out HB.out) | (with_reducible refine Kd.C_alloc ?_ _) | (with_reducible refine Kd.C_drewN ?_ _) | (with_reducible refine Kd.C_drew ?_))); (case side4 => exact HC1_0.out); rintro e w97 ⟨rfl, hb⟩; have n0_ := am (Kd.S_below (kS HO_519000.out) hb); have n1_ := am (Kd.S_below (kS HO_522000.out) hb); have n2_ := am (blk_below (g := gb512) (o := .cells #[.slice A0_0 l0_0.length c0_0] 24 (0, 0)) (kb BK512.out) hb); have n3_ := am (blk_below (g := gb513) (o := .cells #[.slice A1_0 l1_0.length c1_0] 24 (0, 0)) (kb BK513.out) hb); have n4_ := am (blk_below (g := gb518) (o := .cells #[.slice Ao13 t514.length co13] 24 (0, 0)) (kb BK518.out) hb); have n5_ := am (blk_below (g := gb521) (o := .cells #[u522000] 24 (0, 0)) (kb BK521.out) hb); have n6_ := am (below_step (bs HB.out) hb); clear HO_519000; clear HO_522000; clear BK512; clear BK513; clear BK518; clear BK521; clear HB; have HO_519000 := n0_; have HO_522000 := n1_; have BK512 := n2_; have BK513 := n3_; have BK518 := n4_; have BK521 := n5_; have HB := n6_; clear n0_ n1_ n2_ n3_ n4_ n5_ n6_; (try clear hb); (try clear hb2); (try clear hk); (try clear hi)) | (go_at_call 45; (with_reducible refine (mizmazelaw05_awake.calls kj62  t532 _ A89.out).mono ?_); rintro e w98 ⟨rfl, hb⟩; have n0_ := am (Kd.S_below (kS HO_519000.out) hb); have n1_ := am (Kd.S_below (kS HO_522000.out) hb); have n2_ := am (blk_below (g := gb512) (o := .cells #[.slice A0_0 l0_0.length c0_0] 24 (0, 0)) (kb BK512.out) hb); have n3_ := am (blk_below (g := gb513) (o := .cells #[.slice A1_0 l1_0.length c1_0] 24 (0, 0)) (kb BK513.out) hb); have n4_ := am (blk_below (g := gb518) (o := .cells #[.slice Ao13 t514.length co13] 24 (0, 0)) (kb BK518.out) hb); have n5_ := am (blk_below (g := gb521) (o := .cells #[u522000] 24 (0, 0)) (kb BK521.out) hb); have n6_ := am (below_step (bs HB.out) hb); clear HO_519000; clear HO_522000; clear BK512; clear BK513; clear BK518; clear BK521; clear HB; have HO_519000 := n0_; have HO_522000 := n1_; have BK512 := n2_; have BK513 := n3_; have BK518 := n4_; have BK521 := n5_; have HB := n6_; clear n0_ n1_ n2_ n3_ n4_ n5_ n6_; (try clear hb); (try clear hb2); (try clear hk); (try clear hi)))
       go_ret
       exact ⟨by first | rfl | (simp [errW_none, errW_some] <;> rfl) | (simp [*, errW_none, errW_some] <;> rfl), by repeat (first | (with_reducible first | exact HB.out | apply ba | apply pb | apply bd | refine below_set ?_ GE512.out | refine below_set ?_ GE513.out | refine below_set ?_ GE518.out | refine below_set ?_ GE521.out) | exact HB.out)⟩
end Go.Proofs.Ytjgdalhdiohclaa.Q
end
/-! Part MAwake5 -/
section
namespace Go.Proofs.Ytjgdalhdiohclaa.Q
theorem awake5 : Ev (fun k => mizmazelaw05_awake.f k) true := Ev.of (k := 1700) (fun k => mizmazelaw05_awake.mono k) (by kernel_rfl)
end Go.Proofs.Ytjgdalhdiohclaa.Q
end
