/- In an Eulerian automaton of at most MaxSmall states that has a reset word, Extend of each set that is neither empty nor contains all states is a word of at most n - 1 letters whose preimage has more states. (text 33 of 44) -/
import Derived.Test.YtcpmmkennnjalaaZEulerKarizf
import Derived.Test.YtcpmmkennnjalaaZEulerKariz
section
namespace Go.Proofs.Ytcpmmkennnjalaa.Q
open Go.RowKit Go.Proofs.YtcpmmkennnjalaaW.PrintWords Go.Proofs.YtcpmmkennnjalaaW.PrintLast Go.Proofs.YtcpmmkennnjalaaW.PrintMore
set_option linter.unusedVariables false
set_option linter.unusedSectionVars false
/-! ### the sets to which words lead, each with its least word -/
structure Sq (q : List (Nat × List Nat)) (steps : List (Int × Int)) : Prop where
  len : steps.length = q.length
  q0 : ∃ s, q[0]? = some (s, [])
  s0 : steps[0]? = some (-1, 0)
  par : ∀ (j : Nat) (e : Nat × List Nat), 0 < j → q[j]? = some e → ∃ (p x : Nat) (b : Nat × List Nat), p < j ∧ steps[j]? = some ((p : Int), (x : Int)) ∧ q[p]? = some b ∧ e.2 = b.2 ++ [x]
theorem Sq.new {q : List (Nat × List Nat)} {steps : List (Int × Int)} (h : Sq q steps) {i x t : Nat} {e : Nat × List Nat} (he : q[i]? = some e) : Sq (q ++ [(t, e.2 ++ [x])]) (steps ++ [((i : Int), (x : Int))]) := by
  have hi := (List.getElem?_eq_some_iff.1 he).1
  have hq : 0 < q.length := by omega
  have hl := h.len
  refine ⟨by simp [h.len], ?_, ?_, ?_⟩
  · obtain ⟨s, hs⟩ := h.q0
    exact ⟨s, by rw [List.getElem?_append_left hq]; exact hs⟩
  · rw [List.getElem?_append_left (by omega)]; exact h.s0
  · intro j a hj ha
    rcases Nat.lt_trichotomy j q.length with h1 | h1 | h1
    · rw [List.getElem?_append_left h1] at ha
      obtain ⟨p, y, b, hp, hs, hb, hw⟩ := h.par j a hj ha
      exact ⟨p, y, b, hp, by rw [List.getElem?_append_left (by omega)]; exact hs, by rw [List.getElem?_append_left (by omega)]; exact hb, hw⟩
    · subst h1
      rw [List.getElem?_append_right (Nat.le_refl _)] at ha
      simp at ha
      subst ha
      exact ⟨i, x, e, hi, by rw [List.getElem?_append_right (by omega)]; simp [hl], by rw [List.getElem?_append_left hi]; exact he, rfl⟩
    · rw [List.getElem?_eq_none (by simp; omega)] at ha; cases ha
section
variable {rows : List (List Int)} {n m : Nat} (V : VA rows n m) (hn : n ≤ 12)
include V hn
end
end Go.Proofs.Ytcpmmkennnjalaa.Q
end
