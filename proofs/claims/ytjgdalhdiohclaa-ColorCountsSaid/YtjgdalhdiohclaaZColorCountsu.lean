/- Colorings returns the number of different colourings, or the documented error, for any automaton. (text 21 of 28) -/
import Derived.Test.YtjgdalhdiohclaaZColorCountsi
import Derived.Test.YtjgdalhdiohclaaZColorCountst
open Go.RowKit Go.Proofs.YtjgdalhdiohclaaW.PrintWords Go.Proofs.YtjgdalhdiohclaaW.PrintLast Go.Proofs.YtjgdalhdiohclaaW.PrintMore
/-! Part MRowsA -/
section
namespace Go.Proofs.Ytjgdalhdiohclaa.Q
set_option linter.unusedVariables false
set_option linter.unusedSimpArgs false
def pG (S : List Int → List (List Int)) (left : List Int) (i : Nat) : List (List Int) := if i = 0 ∨ rd left ((i - 1 : Nat) : Int) ≠ rd left (i : Int) then (S (left.eraseIdx i)).map (rd left (i : Int) :: ·) else []
def pS : Nat → List Int → List (List Int)
 | 0, _ => [[]]
 | n + 1, left => (List.range left.length).flatMap (pG (pS n) left)
theorem range_drop {n i : Nat} (h : i < n) : (List.range n).drop i = i :: (List.range n).drop (i + 1) := by
 rw [List.drop_eq_getElem_cons (by simpa using h)]; simp
theorem eraseIdx_len {l : List Int} {i : Nat} (h : i < l.length) : (l.eraseIdx i).length + 1 = l.length := by
 rw [List.length_eraseIdx_of_lt h]; omega
theorem from_ev : ∀ (n : Nat) (left done : List Int) (out : List (List Int)), left.length = n → done.length + n ≤ 100 → out.length + (pS n left).length ≤ 1000000 → Ev (fun k => color_from.f k done left out) (out ++ (pS n left).map (done ++ ·))
 | 0, left, done, out, hl, hd, ho => by
  refine Ev.next ?_
  simp only [pS, List.length_cons, List.length_nil] at ho
  simp only [color_from.f, if_pos hl, if_pos (by omega : done.length < 1000000), if_pos (by omega : out.length < 1000000000)]
  exact Ev.ret (by simp [pS])
 | n + 1, left, done, out, hl, hd, ho => by
  have loop : ∀ (d i : Nat) (out : List (List Int)), i + d = left.length → out.length + (((List.range left.length).drop i).flatMap (pG (pS n) left)).length ≤ 1000000 → Ev (fun k => color_from.l k done left i out) (out ++ (((List.range left.length).drop i).flatMap (pG (pS n) left)).map (done ++ ·)) := by
   intro d
   induction d with
   | zero =>
    intro i out hi ho
    refine Ev.next ?_
    simp only [color_from.l, if_neg (by omega : ¬ i < left.length)]
    exact Ev.ret (by rw [List.drop_eq_nil_of_le (by simp; omega)]; simp)
   | succ d ih =>
    intro i out hi ho
    have hlt : i < left.length := by omega
    rw [range_drop hlt] at ho ⊢
    rw [List.flatMap_cons, List.length_append] at ho
    refine Ev.next ?_
    simp only [color_from.l, if_pos hlt]
    by_cases h : i = 0 ∨ rd left ((i - 1 : Nat) : Int) ≠ rd left (i : Int)
    ·have hg : pG (pS n) left i = (pS n (left.eraseIdx i)).map (rd left (i : Int) :: ·) := if_pos h
     have he := eraseIdx_len hlt
     simp only [if_pos h, if_pos (by omega : done.length < 1000000), if_pos (by omega : left.length < 1000000)]
     rw [hg, List.length_map] at ho
     refine Ev.bind (from_ev n (left.eraseIdx i) (done ++ [rd left (i : Int)]) out (by omega) (by simp; omega) (by omega)) ?_
     refine Ev.eq (ih (i + 1) _ (by omega) (by rw [List.length_append, List.length_map]; omega)) ?_
     rw [List.flatMap_cons, hg, List.map_append, List.map_map, List.append_assoc]
     congr 2
     refine List.map_congr_left fun p _ => ?_
     simp
    ·have hg : pG (pS n) left i = [] := if_neg h
     simp only [if_neg h]
     rw [hg] at ho
     refine Ev.eq (ih (i + 1) out (by omega) (by simpa using ho)) ?_
     rw [List.flatMap_cons, hg]; simp
  refine Ev.next ?_
  simp only [color_from.f, if_neg (by omega : ¬ left.length = 0)]
  have := loop left.length 0 out (by omega) (by simpa [pS] using ho)
  simpa [pS] using this
theorem first_run {l : List Int} (h : l.Pairwise (· ≤ ·)) {i : Nat} (hi : i < l.length) : (i = 0 ∨ rd l ((i - 1 : Nat) : Int) ≠ rd l (i : Int)) ↔ l[i] ∉ l.take i := by
 have hp := List.pairwise_iff_getElem.1 h
 constructor
 ·intro h0 hm
  obtain ⟨j, hj, e⟩ := List.getElem_of_mem hm
  simp only [List.length_take] at hj
  rw [List.getElem_take] at e
  rcases h0 with rfl | h0
  ·omega
  ·rw [rdE (by omega), rdE hi] at h0
   have h1 := hp (i - 1) i (by omega) hi (by omega)
   have h2 : l[j]'(by omega) ≤ l[i - 1]'(by omega) := by
    rcases Nat.lt_or_ge j (i - 1) with h3 | h3
    ·exact hp j (i - 1) (by omega) (by omega) h3
    ·obtain rfl : j = i - 1 := by omega
     exact Int.le_refl _
   rw [e] at h2
   exact h0 (Int.le_antisymm h1 h2)
 ·intro hm
  rcases Nat.eq_zero_or_pos i with rfl | h0
  ·exact Or.inl rfl
  ·refine Or.inr fun e => hm ?_
   rw [rdE (by omega), rdE hi] at e
   rw [← e]
   refine List.mem_iff_getElem.2 ⟨i - 1, by simp; omega, by simp⟩
end Go.Proofs.Ytjgdalhdiohclaa.Q
end
