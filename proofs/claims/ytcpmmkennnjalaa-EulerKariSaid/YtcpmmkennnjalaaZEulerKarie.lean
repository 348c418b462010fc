/- In an Eulerian automaton of at most MaxSmall states that has a reset word, Extend of each set that is neither empty nor contains all states is a word of at most n - 1 letters whose preimage has more states. (text 5 of 44) -/
import Derived.RangeFuncNested
import Derived.RangeFuncSeq
import Derived.Below
section
namespace Go.Proofs.Ytcpmmkennnjalaa.Q
open Go.RowKit
set_option linter.unusedVariables false
set_option linter.unusedSectionVars false
/-! ### a range over a function whose iterator keeps memory of its own -/
/-- Only the blocks of own may have turned. -/
structure KeptBut (own : Nat → Prop) (w w' : World) : Prop where
  os : w'.os = w.os
  tape : w'.tape = w.tape
  output : w'.output = w.output
  size : w.heap.size ≤ w'.heap.size
  block : ∀ b, b < w.heap.size → ¬ own b → w'.heap[b]? = w.heap[b]?
theorem KeptBut.refl (own : Nat → Prop) (w : World) : KeptBut own w w := ⟨rfl, rfl, rfl, Nat.le_refl _, fun _ _ _ => rfl⟩
theorem KeptBut.trans {own : Nat → Prop} {w w1 w2 : World} (h : KeptBut own w w1) (k : KeptBut own w1 w2) : KeptBut own w w2 :=
  ⟨k.os.trans h.os, k.tape.trans h.tape, k.output.trans h.output, Nat.le_trans h.size k.size, fun b hb hn => (k.block b (Nat.lt_of_lt_of_le hb h.size) hn).trans (h.block b hb hn)⟩
theorem KeptBut.mono {own own' : Nat → Prop} {w w1 : World} (h : KeptBut own w w1) (e : ∀ b, own b → own' b) : KeptBut own' w w1 := ⟨h.os, h.tape, h.output, h.size, fun b hb hn => h.block b hb fun ho => hn (e b ho)⟩
theorem KeptBut.of_below {own : Nat → Prop} {w w1 : World} (h : Below w.heap.size w w1) : KeptBut own w w1 := ⟨h.os, h.tape, h.output, h.size, fun b hb _ => h.block b hb⟩
/-- .. and loops' records, from base on. -/
structure KeptL (base : Nat) (own : Nat → Prop) (w w' : World) : Prop where
  os : w'.os = w.os
  tape : w'.tape = w.tape
  output : w'.output = w.output
  size : w.heap.size ≤ w'.heap.size
  block : ∀ b, b < w.heap.size → ¬ own b → (b < base ∨ ∀ r, w.heap[b]? ≠ some (.loop r)) → w'.heap[b]? = w.heap[b]?
section
variable {α : Type}
/-- What a round must leave as it was. -/
structure RoundKept (keep : Nat → Prop) (w w' : World) : Prop where
  os : w'.os = w.os
  tape : w'.tape = w.tape
  output : w'.output = w.output
  size : w.heap.size ≤ w'.heap.size
  block : ∀ b, b < w.heap.size → keep b → w'.heap[b]? = w.heap[b]?
theorem RoundKept.refl (keep : Nat → Prop) (w : World) : RoundKept keep w w := ⟨rfl, rfl, rfl, Nat.le_refl _, fun _ _ _ => rfl⟩
theorem RoundKept.trans {keep : Nat → Prop} {w w1 w2 : World} (h : RoundKept keep w w1) (k : RoundKept keep w1 w2) : RoundKept keep w w2 :=
  ⟨k.os.trans h.os, k.tape.trans h.tape, k.output.trans h.output, Nat.le_trans h.size k.size, fun b hb hk => (k.block b (Nat.lt_of_lt_of_le hb h.size) hk).trans (h.block b hb hk)⟩
theorem RoundKept.mono {keep keep' : Nat → Prop} {w w1 : World} (h : RoundKept keep w w1) (e : ∀ b, keep' b → keep b) : RoundKept keep' w w1 := ⟨h.os, h.tape, h.output, h.size, fun b hb hk => h.block b hb (e b hk)⟩
theorem RoundKept.of_grown {keep : Nat → Prop} {w w1 : World} {row : Option Nat} (h : w.grownBy w1 row) (e : ∀ b, row = some b → ¬ keep b) : RoundKept keep w w1 := ⟨h.os, h.tape, h.output, h.size, fun b hb hk => h.block b hb fun he => e b he.symm hk⟩
variable {P : Program}
end
end Go.Proofs.Ytcpmmkennnjalaa.Q
end
