/- In an Eulerian automaton of at most MaxSmall states that has a reset word, Extend of each set that is neither empty nor contains all states is a word of at most n - 1 letters whose preimage has more states. (text 26 of 44) -/
import Derived.Test.YtcpmmkennnjalaaZEulerKariq
import Derived.Test.YtcpmmkennnjalaaZEulerKarie
import Derived.Test.YtcpmmkennnjalaaZEulerKarir
import Derived.Test.YtcpmmkennnjalaaZEulerKaril
section
namespace Go.Proofs.Ytcpmmkennnjalaa.Q
open Go.RowKit Go.Proofs.YtcpmmkennnjalaaW.PrintWords Go.Proofs.YtcpmmkennnjalaaW.PrintLast Go.Proofs.YtcpmmkennnjalaaW.PrintMore
set_option linter.unusedVariables false
set_option linter.unusedSimpArgs false
/-! ### the sets, as a list -/
/-! ### one thing appended, as a run -/
/-! ### the iterator's memory -/
def esM (l : List Int) : List (Int × Value) := l.map fun t => (t, .bool true)
def ownS (Bx X bm : Nat) (v vs : Value) : Nat → Prop := fun b => b = Bx ∨ b = X ∨ b = bm ∨ v.ownBlock = some b ∨ vs.ownBlock = some b
structure SS (w0 : World) (A0 : Option Addr) (n c0 Bx X bm : Nat) (own : Nat → Prop) (Wa W : World) (met : List Int) (v : Value) (list : List Int) (vx vs : Value) (steps : List (Int × Int)) : Prop where
  below : Below w0.heap.size w0 W
  bB : W.heap[Bx]? = some (.cells #[.slice A0 n c0] 24 (0, 0))
  bX : W.heap[X]? = some (.cells #[vx] 110 (0, 0))
  mp : MapIs (IntKey .u16) (Value.int .u16) W bm (esM met)
  lst : Kd.R (Kd.int .u16) 86 W w0.heap.size (fun _ => True) v list
  stp : Kd.R kSt 109 W w0.heap.size (fun _ => True) vs steps
  hB : w0.heap.size ≤ Bx
  hX : w0.heap.size ≤ X
  hbm : w0.heap.size ≤ bm
  kb : KeptBut own Wa W
  oB : own Bx ∨ Wa.heap.size ≤ Bx
  oX : own X ∨ Wa.heap.size ≤ X
  om : own bm ∨ Wa.heap.size ≤ bm
  ol : ∀ b, v.ownBlock = some b → own b ∨ Wa.heap.size ≤ b
  os : ∀ b, vs.ownBlock = some b → own b ∨ Wa.heap.size ≤ b
theorem KeptBut.next {own : Nat → Prop} {w W W1 : World} (h : KeptBut own w W) {row : Option Nat} (hg : W.grownBy W1 row) (hr : ∀ b, row = some b → own b ∨ w.heap.size ≤ b) : KeptBut own w W1 :=
  ⟨hg.os.trans h.os, hg.tape.trans h.tape, hg.output.trans h.output, Nat.le_trans h.size hg.size, fun b hb hn => (hg.block b (Nat.lt_of_lt_of_le hb h.size) fun e => (hr b e.symm).elim hn (by omega)).trans (h.block b hb hn)⟩
theorem kSt_E : kSt.E = [] := rfl
theorem u16_E : (Kd.int .u16).E = [] := rfl
theorem not_map_of {α β : Type} {d : Kd α} {e base b : Nat} {ok : Nat → Prop} {W : World} {v : Value} {l : List α} (h : d.R e W base ok v l) {G : Value → Prop} {enc : β → Value} {es : List (β × Value)} (hm : MapIs G enc W b es) : some b ≠ v.ownBlock := by
  intro e
  obtain ⟨cells, hc⟩ := Kd.R_typed h b e.symm
  obtain ⟨arr, ck, h2, _⟩ := hm
  rw [hc] at h2; cases h2
theorem blk_not_map {β : Type} [DecidableEq β] {b g : Nat} {W : World} {cs : Array Value} {t : TypeId} {fr : Nat × Nat} (h : W.heap[g]? = some (.cells cs t fr)) {G : Value → Prop} {enc : β → Value} {es : List (β × Value)} (hm : MapIs G enc W b es) : some g ≠ some b := by
  intro e
  injection e with e
  exact hm.ne h e.symm
/-- Rows of different types. -/
theorem rows_apart {α β : Type} {d : Kd α} {d' : Kd β} {e e' base base' : Nat} {ok ok' : Nat → Prop} {W : World} {v v' : Value} {l : List α} {l' : List β} (h : d.R e W base ok v l) (h' : d'.R e' W base' ok' v' l') (ht : e ≠ e') : ∀ k, v.ownBlock = some k → some k ≠ v'.ownBlock := by
  intro k hk hk'
  obtain ⟨c, hc⟩ := Kd.R_typed h k hk
  obtain ⟨c', hc'⟩ := Kd.R_typed h' k hk'.symm
  rw [hc] at hc'
  injection hc' with hc'
  injection hc' with _ h2
  exact ht h2
section
variable {w0 Wa W W1 : World} {A0 : Option Addr} {n c0 Bx X bm : Nat} {own : Nat → Prop} {met list list1 : List Int} {v v1 vx vs vs1 : Value} {steps steps1 : List (Int × Int)}
theorem SS.next (h : SS w0 A0 n c0 Bx X bm own Wa W met v list vx vs steps) (hb : Below W.heap.size W W1) : SS w0 A0 n c0 Bx X bm own Wa W1 met v list vx vs steps :=
  ⟨below_step h.below hb, blk_below h.bB hb, blk_below h.bX hb, h.mp.below hb, Kd.R_below h.lst hb, Kd.R_below h.stp hb, h.hB, h.hX, h.hbm, h.kb.next (grown_of_below hb none) (fun b e => by cases e), h.oB, h.oX, h.om, h.ol, h.os⟩
theorem SS.listTo (h : SS w0 A0 n c0 Bx X bm own Wa W met v list vx vs steps) (hg : W.grownBy W1 v.ownBlock) (hR : Kd.R (Kd.int .u16) 86 W1 w0.heap.size (fun _ => True) v1 list1) (hat : v1.ownBlock = v.ownBlock ∨ ∃ k, v1.ownBlock = some k ∧ W.heap.size ≤ k) : SS w0 A0 n c0 Bx X bm own Wa W1 met v1 list1 vx vs steps :=
  ⟨pw_below_grown h.below _ h.below.size hg (fun k e => Kd.R_base h.lst k e), blk_grown h.bB hg (Kd.R_ne h.lst h.bB (by decide)), blk_grown h.bX hg (Kd.R_ne h.lst h.bX (by decide)), h.mp.kept hg (not_map_of h.lst h.mp), hR, Kd.R_grown2 h.stp kSt_E hg (fun k hk => rows_apart h.lst h.stp (by decide) k hk), h.hB, h.hX, h.hbm, h.kb.next hg h.ol, h.oB, h.oX, h.om,
    fun b hb => by
      rcases hat with e | ⟨k, e, hk⟩
      · exact h.ol b (e ▸ hb)
      · rw [e] at hb; injection hb with hb; subst hb; exact Or.inr (Nat.le_trans h.kb.size hk), h.os⟩
theorem SS.metTo (h : SS w0 A0 n c0 Bx X bm own Wa W met v list vx vs steps) (hg : W.grownBy W1 (some bm)) {met1 : List Int} (hm : MapIs (IntKey .u16) (Value.int .u16) W1 bm (esM met1)) : SS w0 A0 n c0 Bx X bm own Wa W1 met1 v list vx vs steps :=
  ⟨pw_below_grown h.below _ h.below.size hg (fun k e => by cases e; exact h.hbm), blk_grown h.bB hg (blk_not_map h.bB h.mp), blk_grown h.bX hg (blk_not_map h.bX h.mp), hm, Kd.R_grown1 h.lst u16_E hg (not_map_of h.lst h.mp), Kd.R_grown1 h.stp kSt_E hg (not_map_of h.stp h.mp), h.hB, h.hX, h.hbm, h.kb.next hg (fun b e => by cases e; exact h.om), h.oB, h.oX, h.om, h.ol, h.os⟩
theorem SS.lt (h : SS w0 A0 n c0 Bx X bm own Wa W met v list vx vs steps) : ∀ b, ownS Bx X bm v vs b → b < W.heap.size := by
  rintro b (rfl | rfl | rfl | hb | hb)
  · exact blk_lt h.bB
  · exact blk_lt h.bX
  · obtain ⟨arr, ck, h1, _⟩ := h.mp
    exact (Array.getElem?_eq_some_iff.1 h1).1
  · exact Kd.R_lt h.lst b hb
  · exact Kd.R_lt h.stp b hb
end
end Go.Proofs.Ytcpmmkennnjalaa.Q
end
