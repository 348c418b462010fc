/- The law TopCerny holds: the shortest reset word that is found for Cerny's automaton of n states has (n - 1)^2 letters, for n from 2 to 11; the law has no arguments. (text 23 of 30) -/
import Derived.Test.YtogoppejcmaocaaZTopCernyu
import Derived.Test.YtogoppejcmaocaaZTopCernyj
import Derived.Test.YtogoppejcmaocaaZTopCernyv
import Derived.Test.YtogoppejcmaocaaZTopCernyl
import Derived.Test.YtogoppejcmaocaaZTopCernym
/-! Part MReset -/
section
namespace Go.Proofs.Ytogoppejcmaocaa.Q
open Go.RowKit Go.Proofs.YtogoppejcmaocaaW.PrintWords Go.Proofs.YtogoppejcmaocaaW.PrintLast Go.Proofs.YtogoppejcmaocaaW.PrintMore
set_option linter.unusedVariables false
set_option linter.unusedSectionVars false
set_option linter.unusedSimpArgs false
/-! ### the nearest pair of a set -/
def seen (i j a b : Nat) : Prop := a < b ∧ (a < i ∨ a = i ∧ b < i + 1 + j)
structure Best (f : Nat → Nat → Nat) (m : Nat) (Q : List Nat) (i j : Nat) (b1 b2 : Nat) (fd : Bool) : Prop where
  none : fd = false → ∀ a b (hb : b < Q.length), ¬ seen i j a b
  some : fd = true → ∃ d, b1 ∈ Q ∧ b2 ∈ Q ∧ b1 < b2 ∧ MDist f m b1 b2 d ∧ ∀ a b (ha : a < Q.length) (hb : b < Q.length), seen i j a b → ∃ e, MDist f m Q[a] Q[b] e ∧ d ≤ e
theorem Best.ext {f : Nat → Nat → Nat} {m : Nat} {Q : List Nat} {i j i' j' b1 b2 : Nat} {fd : Bool} (h : Best f m Q i j b1 b2 fd) (e : ∀ a b, b < Q.length → (seen i' j' a b ↔ seen i j a b)) : Best f m Q i' j' b1 b2 fd :=
  ⟨fun hf a b hb hs => h.none hf a b hb ((e a b hb).1 hs), fun hf => by
    obtain ⟨d, h1, h2, h3, h4, h5⟩ := h.some hf
    exact ⟨d, h1, h2, h3, h4, fun a b ha hb hs => h5 a b ha hb ((e a b hb).1 hs)⟩⟩
section
variable {rows : List (List Int)} {n m : Nat} (V : VA rows n m)
include V
/-! ### Reset -/
/-- The way from all states to a set. -/
structure Way (f : Nat → Nat → Nat) (m n : Nat) (w Q : List Nat) : Prop where
  wd : Wd m w
  srt : Q.Pairwise (· < ·)
  into : ∀ s, s < n → run f s w ∈ Q
  onto : ∀ t ∈ Q, ∃ s, s < n ∧ run f s w = t
omit V in
theorem nodup_of_lt {Q : List Nat} (h : Q.Pairwise (· < ·)) : Q.Nodup := by
  rw [List.nodup_iff_pairwise_ne]
  exact h.imp fun h => by omega
omit V in
theorem Way.lt {f : Nat → Nat → Nat} {m n : Nat} {w Q : List Nat} (h : Way f m n w Q) (hf : ∀ s x, s < n → x < m → f s x < n) : ∀ t ∈ Q, t < n := fun t ht => by
  obtain ⟨s, hs, rfl⟩ := h.onto t ht
  exact runLt hf w s hs h.wd
omit V in
theorem Way.len {f : Nat → Nat → Nat} {m n : Nat} {w Q : List Nat} (h : Way f m n w Q) (hf : ∀ s x, s < n → x < m → f s x < n) : Q.length ≤ n := nodup_le n Q (nodup_of_lt h.srt) (h.lt hf)
omit V in
omit V in
omit V in
end
end Go.Proofs.Ytogoppejcmaocaa.Q
end
/-! Part MApart -/
section
namespace Go.Proofs.Ytogoppejcmaocaa.Q
open Go.RowKit Go.Proofs.YtogoppejcmaocaaW.PrintWords Go.Proofs.YtogoppejcmaocaaW.PrintLast Go.Proofs.YtogoppejcmaocaaW.PrintMore
set_option linter.unusedVariables false
set_option linter.unusedSectionVars false
set_option linter.unusedSimpArgs false
/-! ### the pairs that no word merges -/
section
variable {rows : List (List Int)} {n m : Nat} (V : VA rows n m)
include V
end
section
variable {rows : List (List Int)} {n m : Nat} (V : VA rows n m)
include V
end
end Go.Proofs.Ytogoppejcmaocaa.Q
end
