/- In an Eulerian automaton of at most MaxSmall states that has a reset word, Extend of each set that is neither empty nor contains all states is a word of at most n - 1 letters whose preimage has more states. (text 22 of 44) -/
import Derived.Test.YtcpmmkennnjalaaZEulerKarim
import Derived.Test.YtcpmmkennnjalaaZEulerKariu
section
namespace Go.Proofs.Ytcpmmkennnjalaa.Q
set_option linter.unusedVariables false
set_option linter.unusedSectionVars false
set_option linter.unusedSimpArgs false
/-! ### a list in order, each number once -/
theorem nodup_sub {S T : List Nat} (h : S.Nodup) (hs : ∀ x ∈ S, x ∈ T) : S.length ≤ T.length := by
  induction S generalizing T with
  | nil => exact Nat.zero_le _
  | cons x S ih =>
    rw [List.nodup_cons] at h
    have hx := hs x List.mem_cons_self
    have h2 := ih (T := T.erase x) h.2 fun y hy => by
      have hne : y ≠ x := fun e => h.1 (e ▸ hy)
      exact (List.mem_erase_of_ne hne).2 (hs y (List.mem_cons_of_mem _ hy))
    have := List.length_pos_of_mem hx
    rw [List.length_erase_of_mem hx] at h2
    simp; omega
theorem tidy_nat (l : List Nat) : ∃ Q : List Nat, tidy (toI l) = toI Q ∧ Q.Pairwise (· < ·) ∧ ∀ x, x ∈ Q ↔ x ∈ l := by
  have hpos : ∀ z ∈ tidy (toI l), ∃ x : Nat, x ∈ l ∧ z = (x : Int) := fun z hz => by
    obtain ⟨x, hx, rfl⟩ := List.mem_map.1 (tidy_iff.1 hz)
    exact ⟨x, hx, rfl⟩
  have e : tidy (toI l) = toI ((tidy (toI l)).map Int.toNat) := by
    unfold toI
    rw [List.map_map]
    conv => lhs; rw [← List.map_id (tidy _)]
    refine List.map_congr_left fun z hz => ?_
    obtain ⟨x, _, rfl⟩ := hpos z hz
    simp
  refine ⟨(tidy (toI l)).map Int.toNat, e, ?_, fun x => ?_⟩
  · rw [List.pairwise_map]
    refine List.Pairwise.imp_of_mem ?_ (tidy_srt _)
    intro a b ha hb hab
    obtain ⟨x, _, rfl⟩ := hpos a ha
    obtain ⟨y, _, rfl⟩ := hpos b hb
    simp; omega
  · rw [List.mem_map]
    constructor
    · rintro ⟨z, hz, rfl⟩
      obtain ⟨x, hx, rfl⟩ := hpos z hz
      simpa using hx
    · intro hx
      exact ⟨(x : Int), tidy_iff.2 (List.mem_map.2 ⟨x, hx, rfl⟩), by simp⟩
end Go.Proofs.Ytcpmmkennnjalaa.Q
end
section
namespace Go.Proofs.Ytcpmmkennnjalaa.Q
set_option linter.unusedVariables false
set_option linter.unusedSectionVars false
set_option linter.unusedSimpArgs false
theorem sumL_ite {α : Type} (q : α → Bool) (a k : Int) : ∀ A : List α, sumL A (fun x => (if q x = true then a else 0) - k) = a * ((A.countP q : Nat) : Int) - ((A.length : Nat) : Int) * k
  | [] => by simp [sumL]
  | x :: A => by
    rw [sumL_cons, sumL_ite q a k A, List.countP_cons, List.length_cons]
    by_cases h : q x = true
    · rw [if_pos h, if_pos h, Int.natCast_add, Int.natCast_add, Int.mul_add, Int.add_mul]; simp; omega
    · rw [if_neg h, if_neg h, Nat.add_zero, Int.natCast_add, Int.add_mul]; simp; omega
/-- how many states a word leads into a set -/
def cntS (f : Nat → Nat → Nat) (n : Nat) (p : Nat → Bool) (w : List Nat) : Nat := (List.range n).countP fun s => p (run f s w)
theorem evS_cnt (f : Nat → Nat → Nat) (n k : Nat) (p : Nat → Bool) (w : List Nat) : evS f n (fun t => (if p t = true then (n : Int) else 0) - (k : Int)) w = (n : Int) * ((cntS f n p w : Nat) : Int) - (n : Int) * (k : Int) := by
  unfold evS cntS
  rw [sumL_ite (fun s => p (run f s w)) (n : Int) (k : Int) (List.range n), List.length_range]
section
variable {f : Nat → Nat → Nat} {n m : Nat} (hm : 0 < m) (hf : ∀ s x, s < n → x < m → f s x < n)
variable (hE : ∀ g : Nat → Int, sumL (List.range n) (fun s => sumL (List.range m) fun x => g (f s x)) = (m : Int) * sumL (List.range n) g)
variable {r : List Nat} (hr : Wd m r) (hall : ∀ s t, s < n → t < n → run f s r = run f t r)
include hm hf hE hr hall
/-- Kari's theorem: each set that is neither empty nor all is led into by more states, with a word of at most n - 1 letters. -/
theorem kari_ext {p : Nat → Bool} (h0 : 0 < cntS f n p []) (h1 : cntS f n p [] < n) : ∃ z, Wd m z ∧ z.length + 1 ≤ n ∧ cntS f n p [] < cntS f n p z := by
  generalize hk : cntS f n p [] = k at h0 h1
  have e := evS_cnt f n k p
  have hc : cntS f n p r = 0 ∨ cntS f n p r = n := by
    cases hb : p (run f 0 r) with
    | true =>
      refine .inr ?_
      unfold cntS
      rw [List.countP_eq_length.2 fun s hs => ?_, List.length_range]
      rw [hall s 0 (List.mem_range.1 hs) (by omega)]; exact hb
    | false =>
      refine .inl ?_
      unfold cntS
      rw [List.countP_eq_zero]
      intro s hs
      rw [hall s 0 (List.mem_range.1 hs) (by omega), hb]; exact Bool.false_ne_true
  have hne : evS f n (fun t => (if p t = true then (n : Int) else 0) - (k : Int)) r ≠ 0 := by
    rw [e r, ← Int.mul_sub]
    intro h2
    rcases Int.mul_eq_zero.1 h2 with h3 | h3
    · omega
    · rcases hc with h4 | h4 <;> omega
  obtain ⟨z, z1, z2, z3⟩ := kari hm hE hf (by rw [e [], hk]; omega) hr hne
  refine ⟨z, z1, z2, ?_⟩
  rw [e z, ← Int.mul_sub] at z3
  apply Classical.byContradiction
  intro h2
  have h3 : (n : Int) * (((cntS f n p z : Nat) : Int) - (k : Int)) ≤ 0 := Int.mul_nonpos_of_nonneg_of_nonpos (by omega) (by omega)
  omega
omit hE hm in
end
end Go.Proofs.Ytcpmmkennnjalaa.Q
end
