/- In an Eulerian automaton of at most MaxSmall states that has a reset word, Extend of each set that is neither empty nor contains all states is a word of at most n - 1 letters whose preimage has more states. (text 34 of 44) -/
import Derived.Test.YtcpmmkennnjalaaZEulerKaril
import Derived.Test.YtcpmmkennnjalaaZEulerKarie
import Derived.RangeFuncLeaves
import Derived.RangeFuncRecord
import Derived.RangeFuncBox
import Derived.Shelf.RegionOpen
import Derived.OwnWalkIn
import Derived.TacticsInMore
import Derived.StillTailTactics
import Derived.Deep.CutRange
section
namespace Go.Proofs.Ytcpmmkennnjalaa.Q
open Go.RowKit Go.Proofs.YtcpmmkennnjalaaW.PrintWords Go.Proofs.YtcpmmkennnjalaaW.PrintLast Go.Proofs.YtcpmmkennnjalaaW.PrintMore
set_option linter.unusedVariables false
set_option linter.unusedSimpArgs false
/-! ### the caller of a range over a function: two boxes of its own -/
structure IF (t2 t3 : TypeId) (w : World) (C2 C3 : Nat) (own : Nat → Prop) (W : World) (u2 u3 : Value) : Prop where
  below : Below w.heap.size w W
  c2 : W.heap[C2]? = some (.cells #[u2] t2 (0, 0))
  c3 : W.heap[C3]? = some (.cells #[u3] t3 (0, 0))
  n2 : ¬ own C2
  n3 : ¬ own C3
  h2 : w.heap.size ≤ C2
  h3 : w.heap.size ≤ C3
theorem blk_ltS {W : World} {g : Nat} {o : Obj} (h : W.heap[g]? = some o) : g < W.heap.size := (Array.getElem?_eq_some_iff.1 h).1
theorem KeptL.cells {base : Nat} {own : Nat → Prop} {w w' : World} (h : KeptL base own w w') {g : Nat} {cs : Array Value} {t : TypeId} {fr : Nat × Nat} (hc : w.heap[g]? = some (.cells cs t fr)) (hn : ¬ own g) : w'.heap[g]? = some (.cells cs t fr) :=
  (h.block g (blk_ltS hc) hn (Or.inr fun r e => by rw [hc] at e; cases e)).trans hc
theorem KeptL.below {w0 : World} {own : Nat → Prop} {w w' : World} (h : KeptL w0.heap.size own w w') (hb : Below w0.heap.size w0 w) (hs : ∀ b, own b → w0.heap.size ≤ b) : Below w0.heap.size w0 w' :=
  ⟨h.os.trans hb.os, h.tape.trans hb.tape, h.output.trans hb.output, Nat.le_trans hb.size h.size, fun b hlt => (h.block b (Nat.lt_of_lt_of_le hlt hb.size) (fun ho => absurd (hs b ho) (by omega)) (Or.inl hlt)).trans (hb.block b hlt)⟩
theorem IF.next {t2 t3 : TypeId} {w : World} {C2 C3 : Nat} {own : Nat → Prop} {W W' : World} {u2 u3 : Value} (h : IF t2 t3 w C2 C3 own W u2 u3) (hb : Below W.heap.size W W') : IF t2 t3 w C2 C3 own W' u2 u3 :=
  ⟨below_step h.below hb, blk_below h.c2 hb, blk_below h.c3 hb, h.n2, h.n3, h.h2, h.h3⟩
theorem RoundKept.set {keep : Nat → Prop} {W : World} {g : Nat} (v : Value) (h : ¬ keep g) : RoundKept keep W (W.setCell ⟨g, 0, none⟩ v) :=
  RoundKept.of_grown (row := some g) (grownBy_setCell' W g v) fun b e => by cases e; exact h
theorem IF.put {t2 t3 : TypeId} {w : World} {C2 C3 : Nat} {own : Nat → Prop} {W : World} {u2 u3 : Value} (h : IF t2 t3 w C2 C3 own W u2 u3) (hne : C2 ≠ C3) (v2 v3 : Value) : IF t2 t3 w C2 C3 own ((W.setCell ⟨C2, 0, none⟩ v2).setCell ⟨C3, 0, none⟩ v3) v2 v3 := by
  have a2 := blk_put (cs := #[u2]) h.c2 0 v2 rfl
  have a3 : (W.setCell ⟨C2, 0, none⟩ v2).heap[C3]? = some (.cells #[u3] t3 (0, 0)) := (Below.heap_setCell W ⟨C2, 0, none⟩ v2 C3 (Ne.symm hne)).trans h.c3
  have b3 := blk_put (cs := #[u3]) a3 0 v3 rfl
  have b2 := (Below.heap_setCell (W.setCell ⟨C2, 0, none⟩ v2) ⟨C3, 0, none⟩ v3 C2 hne).trans a2
  exact ⟨(h.below.setCell (p := ⟨C2, 0, none⟩) h.h2 _).setCell (p := ⟨C3, 0, none⟩) h.h3 _, b2, b3, h.n2, h.n3, h.h2, h.h3⟩
end Go.Proofs.Ytcpmmkennnjalaa.Q
end
