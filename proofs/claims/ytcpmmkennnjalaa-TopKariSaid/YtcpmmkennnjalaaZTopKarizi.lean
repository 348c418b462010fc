/- In any Eulerian automaton that has a reset word, whatever set of states, neither empty nor all, is led into by more states with a word of at most n - 1 letters, and its shortest reset word has at most n^2 - 3n + 3 letters; in any circular one at most (n - 1)^2. (At most 9 states) (text 35 of 42) -/
import Derived.Test.YtcpmmkennnjalaaZTopKarij
import Derived.Test.YtcpmmkennnjalaaZTopKarize
import Derived.RangeFuncLeaves
import Derived.RangeFuncRecord
import Derived.RangeFuncBox
import Derived.Shelf.RegionOpen
import Derived.OwnWalkIn
import Derived.TacticsInMore
import Derived.StillTailTactics
import Derived.Deep.CutRange
section
namespace Go.Proofs.Ytcpmmkennnjalaa.Q
open Go.RowKit Go.Proofs.YtcpmmkennnjalaaW.PrintWords Go.Proofs.YtcpmmkennnjalaaW.PrintLast Go.Proofs.YtcpmmkennnjalaaW.PrintMore
set_option linter.unusedVariables false
set_option linter.unusedSimpArgs false
/-! ### the caller of a range over a function: two boxes of its own -/
structure IF (t2 t3 : TypeId) (w : World) (C2 C3 : Nat) (own : Nat → Prop) (W : World) (u2 u3 : Value) : Prop where
  below : Below w.heap.size w W
  c2 : W.heap[C2]? = some (.cells #[u2] t2 (0, 0))
  c3 : W.heap[C3]? = some (.cells #[u3] t3 (0, 0))
  n2 : ¬ own C2
  n3 : ¬ own C3
  h2 : w.heap.size ≤ C2
  h3 : w.heap.size ≤ C3
theorem blk_ltS {W : World} {g : Nat} {o : Obj} (h : W.heap[g]? = some o) : g < W.heap.size := (Array.getElem?_eq_some_iff.1 h).1
theorem KeptL.cells {base : Nat} {own : Nat → Prop} {w w' : World} (h : KeptL base own w w') {g : Nat} {cs : Array Value} {t : TypeId} {fr : Nat × Nat} (hc : w.heap[g]? = some (.cells cs t fr)) (hn : ¬ own g) : w'.heap[g]? = some (.cells cs t fr) :=
  (h.block g (blk_ltS hc) hn (Or.inr fun r e => by rw [hc] at e; cases e)).trans hc
theorem KeptL.below {w0 : World} {own : Nat → Prop} {w w' : World} (h : KeptL w0.heap.size own w w') (hb : Below w0.heap.size w0 w) (hs : ∀ b, own b → w0.heap.size ≤ b) : Below w0.heap.size w0 w' :=
  ⟨h.os.trans hb.os, h.tape.trans hb.tape, h.output.trans hb.output, Nat.le_trans hb.size h.size, fun b hlt => (h.block b (Nat.lt_of_lt_of_le hlt hb.size) (fun ho => absurd (hs b ho) (by omega)) (Or.inl hlt)).trans (hb.block b hlt)⟩
theorem IF.stable {t2 t3 : TypeId} {w : World} {C2 C3 : Nat} {own own' : Nat → Prop} {W W' : World} {u2 u3 : Value} (h : IF t2 t3 w C2 C3 own W u2 u3) (hk : KeptL w.heap.size own W W') (hs : ∀ b, own b → w.heap.size ≤ b) (hn : ∀ b, own' b → own b ∨ W.heap.size ≤ b) : IF t2 t3 w C2 C3 own' W' u2 u3 :=
  ⟨hk.below h.below hs, hk.cells h.c2 h.n2, hk.cells h.c3 h.n3, fun ho => (hn _ ho).elim h.n2 (by have := blk_ltS h.c2; omega), fun ho => (hn _ ho).elim h.n3 (by have := blk_ltS h.c3; omega), h.h2, h.h3⟩
theorem IF.next {t2 t3 : TypeId} {w : World} {C2 C3 : Nat} {own : Nat → Prop} {W W' : World} {u2 u3 : Value} (h : IF t2 t3 w C2 C3 own W u2 u3) (hb : Below W.heap.size W W') : IF t2 t3 w C2 C3 own W' u2 u3 :=
  ⟨below_step h.below hb, blk_below h.c2 hb, blk_below h.c3 hb, h.n2, h.n3, h.h2, h.h3⟩
theorem R_stableL {base b0 : Nat} {own own' : Nat → Prop} {e : Nat} {W W' : World} {v : Value} {l : List Int} (h : Kd.R (Kd.int .i64) e W base (fun b => ¬ own b) v l) (hk : KeptL b0 own W W') (hn : ∀ b, own' b → own b ∨ W.heap.size ≤ b) : Kd.R (Kd.int .i64) e W' base (fun b => ¬ own' b) v l := by
  refine Kd.R_mono (Kd.R_step (Kd.R_bound h) fun b hb hlt => ?_) fun b hb ho => (hn b ho).elim hb.1 (by have := hb.2.2.1; omega)
  obtain ⟨hb1, _, _, q, _, cells, hc⟩ := hb
  rw [hk.cells hc hb1, hc]
theorem IF.other {t2 t3 : TypeId} {w : World} {C2 C3 : Nat} {own : Nat → Prop} {W : World} {u2 u3 : Value} (h : IF t2 t3 w C2 C3 own W u2 u3) (hne : C2 ≠ C3) (v : Value) : (W.setCell ⟨C2, 0, none⟩ v).heap[C3]? = some (.cells #[u3] t3 (0, 0)) :=
  (Below.heap_setCell W ⟨C2, 0, none⟩ v C3 (Ne.symm hne)).trans h.c3
theorem IF.putD {t2 t3 : TypeId} {w : World} {C2 C3 D : Nat} {own : Nat → Prop} {W : World} {u2 u3 : Value} {x : Option (List Deferred)} (h : IF t2 t3 w C2 C3 own W u2 u3) (hk : W.heap[D]? = some (.deferred x)) (hD : w.heap.size ≤ D) (o : Obj) : IF t2 t3 w C2 C3 own (W.putObj D o) u2 u3 := by
  have n2 : C2 ≠ D := fun e => by subst e; rw [h.c2] at hk; cases hk
  have n3 : C3 ≠ D := fun e => by subst e; rw [h.c3] at hk; cases hk
  exact ⟨⟨h.below.os, h.below.tape, h.below.output, by simpa using h.below.size, fun b hb => (World.putObj_heap_other (by omega)).trans (h.below.block b hb)⟩, (World.putObj_heap_other n2).trans h.c2, (World.putObj_heap_other n3).trans h.c3, h.n2, h.n3, h.h2, h.h3⟩
theorem R_putD {base D : Nat} {ok : Nat → Prop} {e : Nat} {W : World} {v : Value} {l : List Int} {x : Option (List Deferred)} (h : Kd.R (Kd.int .i64) e W base ok v l) (hk : W.heap[D]? = some (.deferred x)) (o : Obj) : Kd.R (Kd.int .i64) e (W.putObj D o) base (fun _ => True) v l := by
  refine Kd.R_mono (Kd.R_step (Kd.R_bound h) fun b hb hlt => ?_) fun b hb => trivial
  obtain ⟨_, _, _, q, _, cells, hc⟩ := hb
  exact World.putObj_heap_other fun e => by subst e; rw [hc] at hk; cases hk
theorem D_put {W : World} {D g : Nat} {x : Option (List Deferred)} {cs : Array Value} {t : TypeId} {fr : Nat × Nat} (hk : W.heap[D]? = some (.deferred x)) (hg : W.heap[g]? = some (.cells cs t fr)) (v : Value) : (W.setCell ⟨g, 0, none⟩ v).heap[D]? = some (.deferred x) :=
  (Below.heap_setCell W ⟨g, 0, none⟩ v D (fun e => by subst e; rw [hk] at hg; cases hg)).trans hk
theorem RoundKept.set {keep : Nat → Prop} {W : World} {g : Nat} (v : Value) (h : ¬ keep g) : RoundKept keep W (W.setCell ⟨g, 0, none⟩ v) :=
  RoundKept.of_grown (row := some g) (grownBy_setCell' W g v) fun b e => by cases e; exact h
theorem zip2 (t : Array Value) (p q : Tmp) (u v : Value) : ((#[p, q] : Array Tmp).zip #[u, v]).foldl (fun t (x : Tmp × Value) => t.setIfInBounds x.1 x.2) t = (t.setIfInBounds p u).setIfInBounds q v := by simp
theorem IF.put {t2 t3 : TypeId} {w : World} {C2 C3 : Nat} {own : Nat → Prop} {W : World} {u2 u3 : Value} (h : IF t2 t3 w C2 C3 own W u2 u3) (hne : C2 ≠ C3) (v2 v3 : Value) : IF t2 t3 w C2 C3 own ((W.setCell ⟨C2, 0, none⟩ v2).setCell ⟨C3, 0, none⟩ v3) v2 v3 := by
  have a2 := blk_put (cs := #[u2]) h.c2 0 v2 rfl
  have a3 : (W.setCell ⟨C2, 0, none⟩ v2).heap[C3]? = some (.cells #[u3] t3 (0, 0)) := (Below.heap_setCell W ⟨C2, 0, none⟩ v2 C3 (Ne.symm hne)).trans h.c3
  have b3 := blk_put (cs := #[u3]) a3 0 v3 rfl
  have b2 := (Below.heap_setCell (W.setCell ⟨C2, 0, none⟩ v2) ⟨C3, 0, none⟩ v3 C2 hne).trans a2
  exact ⟨(h.below.setCell (p := ⟨C2, 0, none⟩) h.h2 _).setCell (p := ⟨C3, 0, none⟩) h.h3 _, b2, b3, h.n2, h.n3, h.h2, h.h3⟩
end Go.Proofs.Ytcpmmkennnjalaa.Q
end
