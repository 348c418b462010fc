/- In an Eulerian automaton of at most MaxSmall states that has a reset word, Extend of each set that is neither empty nor contains all states is a word of at most n - 1 letters whose preimage has more states. (text 36 of 44) -/
import Derived.Test.YtcpmmkennnjalaaZEulerKarizg
import Derived.Test.YtcpmmkennnjalaaZEulerKarizc
import Derived.Test.YtcpmmkennnjalaaZEulerKarizi
import Derived.Test.YtcpmmkennnjalaaZEulerKarin
section
namespace Go.Proofs.Ytcpmmkennnjalaa.Q
open Go.RowKit Go.Proofs.YtcpmmkennnjalaaW.PrintWords Go.Proofs.YtcpmmkennnjalaaW.PrintLast Go.Proofs.YtcpmmkennnjalaaW.PrintMore
set_option linter.unusedVariables false
set_option linter.unusedSectionVars false
/-! ### how many states a set has -/
theorem popAux_zero : ∀ f, Lib.popAux f 0 = 0
  | 0 => rfl
  | f + 1 => by unfold Lib.popAux; rw [popAux_zero f]
def card (n s : Nat) : Nat := ((List.range n).filter fun t => s.testBit t).length
theorem card_pop : ∀ n s, card n s = Lib.popAux n s
  | 0, s => rfl
  | n + 1, s => by
    have ih := card_pop n (s / 2)
    unfold card at ih ⊢
    unfold Lib.popAux
    rw [← ih, List.range_succ_eq_map, List.filter_cons]
    have h0 : s.testBit 0 = decide (s % 2 = 1) := Nat.testBit_zero s
    have h1 : ((List.map Nat.succ (List.range n)).filter fun t => s.testBit t).length = ((List.range n).filter fun t => (s / 2).testBit t).length := by
      rw [List.filter_map, List.length_map]
      congr 1
      apply List.filter_congr
      intro t _
      show s.testBit (t + 1) = _
      rw [Nat.testBit_succ]
    rw [h0]
    rcases Nat.mod_two_eq_zero_or_one s with h | h
    · rw [h]; simp [h1]
    · rw [h]; simp [h1]; omega
/-! ### how many states a word leaves -/
section
variable {rows : List (List Int)} {n m : Nat} (V : VA rows n m)
include V
end
/-- The words come in their order. -/
theorem Bfs.sorted {f : Nat → Nat → Nat} {m n s t i x : Nat} {q : List (Nat × List Nat)} (B : Bfs f m n s t q i x) : q.Pairwise fun a b => code m a.2 < code m b.2 := by
  rw [List.pairwise_iff_getElem]
  intro i j hi hj hij
  exact B.mono i j _ _ hij (List.getElem?_eq_getElem hi) (List.getElem?_eq_getElem hj)
section
variable {f : Nat → Nat → Nat} {n m s t : Nat} (hn : n ≤ 12)
include hn
end
section
variable {rows : List (List Int)} {n m : Nat} (V : VA rows n m) (hn : n ≤ 12)
include V
include hn
omit hn in
end
end Go.Proofs.Ytcpmmkennnjalaa.Q
end
