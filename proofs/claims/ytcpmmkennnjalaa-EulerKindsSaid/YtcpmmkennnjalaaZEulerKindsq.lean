/- Eulerian, Circular and Bound return the documented results, or the documented errors, for any automaton. (text 17 of 23) -/
import Derived.Test.YtcpmmkennnjalaaZEulerKindsi
import Derived.Test.YtcpmmkennnjalaaZEulerKindsp
section
namespace Go.Proofs.Ytcpmmkennnjalaa.Q
set_option linter.unusedVariables false
set_option linter.unusedSectionVars false
set_option linter.unusedSimpArgs false
/-! ### a list in order, each number once -/
theorem nodup_sub {S T : List Nat} (h : S.Nodup) (hs : ∀ x ∈ S, x ∈ T) : S.length ≤ T.length := by
  induction S generalizing T with
  | nil => exact Nat.zero_le _
  | cons x S ih =>
    rw [List.nodup_cons] at h
    have hx := hs x List.mem_cons_self
    have h2 := ih (T := T.erase x) h.2 fun y hy => by
      have hne : y ≠ x := fun e => h.1 (e ▸ hy)
      exact (List.mem_erase_of_ne hne).2 (hs y (List.mem_cons_of_mem _ hy))
    have := List.length_pos_of_mem hx
    rw [List.length_erase_of_mem hx] at h2
    simp; omega
theorem tidy_nat (l : List Nat) : ∃ Q : List Nat, tidy (toI l) = toI Q ∧ Q.Pairwise (· < ·) ∧ ∀ x, x ∈ Q ↔ x ∈ l := by
  have hpos : ∀ z ∈ tidy (toI l), ∃ x : Nat, x ∈ l ∧ z = (x : Int) := fun z hz => by
    obtain ⟨x, hx, rfl⟩ := List.mem_map.1 (tidy_iff.1 hz)
    exact ⟨x, hx, rfl⟩
  have e : tidy (toI l) = toI ((tidy (toI l)).map Int.toNat) := by
    unfold toI
    rw [List.map_map]
    conv => lhs; rw [← List.map_id (tidy _)]
    refine List.map_congr_left fun z hz => ?_
    obtain ⟨x, _, rfl⟩ := hpos z hz
    simp
  refine ⟨(tidy (toI l)).map Int.toNat, e, ?_, fun x => ?_⟩
  · rw [List.pairwise_map]
    refine List.Pairwise.imp_of_mem ?_ (tidy_srt _)
    intro a b ha hb hab
    obtain ⟨x, _, rfl⟩ := hpos a ha
    obtain ⟨y, _, rfl⟩ := hpos b hb
    simp; omega
  · rw [List.mem_map]
    constructor
    · rintro ⟨z, hz, rfl⟩
      obtain ⟨x, hx, rfl⟩ := hpos z hz
      simpa using hx
    · intro hx
      exact ⟨(x : Int), tidy_iff.2 (List.mem_map.2 ⟨x, hx, rfl⟩), by simp⟩
end Go.Proofs.Ytcpmmkennnjalaa.Q
end
