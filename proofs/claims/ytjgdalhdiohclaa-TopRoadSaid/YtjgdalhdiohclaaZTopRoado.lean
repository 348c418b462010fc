/- Part of the proof of TopRoad (text 15 of 33) -/
import Derived.Test.YtjgdalhdiohclaaZTopRoadg
import Derived.Test.YtjgdalhdiohclaaZTopRoadb
import Derived.RangeFuncLeaves
import Derived.RangeFuncRecord
import Derived.RangeFuncBox
import Derived.Shelf.RegionOpen
import Derived.OwnWalkIn
import Derived.TacticsInMore
import Derived.StillTailTactics
import Derived.Deep.CutRange
set_option linter.unusedVariables false
set_option linter.unusedSimpArgs false
set_option linter.unusedSectionVars false
open Go.RowKit Go.Proofs.YtjgdalhdiohclaaW.PrintWords Go.Proofs.YtjgdalhdiohclaaW.PrintLast Go.Proofs.YtjgdalhdiohclaaW.PrintMore
section
namespace Go.Proofs.Ytjgdalhdiohclaa.Q
structure IF (t2 t3 : TypeId) (w : World) (C2 C3 : Nat) (own : Nat → Prop) (W : World) (u2 u3 : Value) : Prop where
 below : Below w.heap.size w W
 c2 : W.heap[C2]? = some (.cells #[u2] t2 (0, 0))
 c3 : W.heap[C3]? = some (.cells #[u3] t3 (0, 0))
 n2 : ¬ own C2
 n3 : ¬ own C3
 h2 : w.heap.size ≤ C2
 h3 : w.heap.size ≤ C3
theorem blk_ltS {W : World} {g : Nat} {o : Obj} (h : W.heap[g]? = some o) : g < W.heap.size := (Array.getElem?_eq_some_iff.1 h).1
theorem KeptL.cells {base : Nat} {own : Nat → Prop} {w w' : World} (h : KeptL base own w w') {g : Nat} {cs : Array Value} {t : TypeId} {fr : Nat × Nat} (hc : w.heap[g]? = some (.cells cs t fr)) (hn : ¬ own g) : w'.heap[g]? = some (.cells cs t fr) :=
 (h.block g (blk_ltS hc) hn (Or.inr fun r e => by rw [hc] at e; cases e)).trans hc
theorem KeptL.below {w0 : World} {own : Nat → Prop} {w w' : World} (h : KeptL w0.heap.size own w w') (hb : Below w0.heap.size w0 w) (hs : ∀ b, own b → w0.heap.size ≤ b) : Below w0.heap.size w0 w' :=
 ⟨h.os.trans hb.os, h.tape.trans hb.tape, h.output.trans hb.output, Nat.le_trans hb.size h.size, fun b hlt => (h.block b (Nat.lt_of_lt_of_le hlt hb.size) (fun ho => absurd (hs b ho) (by omega)) (Or.inl hlt)).trans (hb.block b hlt)⟩
theorem R_stableL {base b0 : Nat} {own own' : Nat → Prop} {e : Nat} {W W' : World} {v : Value} {l : List Int} (h : Kd.R (Kd.int .i64) e W base (fun b => ¬ own b) v l) (hk : KeptL b0 own W W') (hn : ∀ b, own' b → own b ∨ W.heap.size ≤ b) : Kd.R (Kd.int .i64) e W' base (fun b => ¬ own' b) v l := by
 refine Kd.R_mono (Kd.R_step (Kd.R_bound h) fun b hb hlt => ?_) fun b hb ho => (hn b ho).elim hb.1 (by have := hb.2.2.1; omega)
 obtain ⟨hb1, _, _, q, _, cells, hc⟩ := hb
 rw [hk.cells hc hb1, hc]
theorem R_putD {base D : Nat} {ok : Nat → Prop} {e : Nat} {W : World} {v : Value} {l : List Int} {x : Option (List Deferred)} (h : Kd.R (Kd.int .i64) e W base ok v l) (hk : W.heap[D]? = some (.deferred x)) (o : Obj) : Kd.R (Kd.int .i64) e (W.putObj D o) base (fun _ => True) v l := by
 refine Kd.R_mono (Kd.R_step (Kd.R_bound h) fun b hb hlt => ?_) fun b hb => trivial
 obtain ⟨_, _, _, q, _, cells, hc⟩ := hb
 exact World.putObj_heap_other fun e => by subst e; rw [hc] at hk; cases hk
theorem D_put {W : World} {D g : Nat} {x : Option (List Deferred)} {cs : Array Value} {t : TypeId} {fr : Nat × Nat} (hk : W.heap[D]? = some (.deferred x)) (hg : W.heap[g]? = some (.cells cs t fr)) (v : Value) : (W.setCell ⟨g, 0, none⟩ v).heap[D]? = some (.deferred x) :=
 (Below.heap_setCell W ⟨g, 0, none⟩ v D (fun e => by subst e; rw [hk] at hg; cases hg)).trans hk
theorem RoundKept.set {keep : Nat → Prop} {W : World} {g : Nat} (v : Value) (h : ¬ keep g) : RoundKept keep W (W.setCell ⟨g, 0, none⟩ v) :=
 RoundKept.of_grown (row := some g) (grownBy_setCell' W g v) fun b e => by cases e; exact h
theorem zip1 (t : Array Value) (p : Tmp) (u : Value) : ((#[p] : Array Tmp).zip #[u]).foldl (fun t (x : Tmp × Value) => t.setIfInBounds x.1 x.2) t = t.setIfInBounds p u := by simp
end Go.Proofs.Ytjgdalhdiohclaa.Q
end
