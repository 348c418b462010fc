/- The law ShortRanks holds: Rank returns the least number of states to which a word leads, and the first shortest word that leads to no more, or the documented error, for any automaton; no bound on the argument beyond its type's. (text 18 of 30) -/
import Derived.Test.YtogoppejcmaocaaZShortRanksh
import Derived.Test.YtogoppejcmaocaaZShortRanksq
/-! Part MTidy -/
section
namespace Go.Proofs.Ytogoppejcmaocaa.Q
set_option linter.unusedVariables false
set_option linter.unusedSectionVars false
set_option linter.unusedSimpArgs false
/-! ### a list in order, each number once -/
theorem nodup_sub {S T : List Nat} (h : S.Nodup) (hs : ∀ x ∈ S, x ∈ T) : S.length ≤ T.length := by
  induction S generalizing T with
  | nil => exact Nat.zero_le _
  | cons x S ih =>
    rw [List.nodup_cons] at h
    have hx := hs x List.mem_cons_self
    have h2 := ih (T := T.erase x) h.2 fun y hy => by
      have hne : y ≠ x := fun e => h.1 (e ▸ hy)
      exact (List.mem_erase_of_ne hne).2 (hs y (List.mem_cons_of_mem _ hy))
    have := List.length_pos_of_mem hx
    rw [List.length_erase_of_mem hx] at h2
    simp; omega
end Go.Proofs.Ytogoppejcmaocaa.Q
end
