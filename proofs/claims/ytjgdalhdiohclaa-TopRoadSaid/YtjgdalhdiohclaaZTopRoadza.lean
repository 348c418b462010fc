/- Part of the proof of TopRoad (text 27 of 33) -/
import Derived.Test.YtjgdalhdiohclaaZTopRoadi
import Derived.Test.YtjgdalhdiohclaaZTopRoadz
set_option linter.unusedVariables false
set_option linter.unusedSimpArgs false
set_option linter.unusedSectionVars false
open Go.RowKit Go.Proofs.YtjgdalhdiohclaaW.PrintWords Go.Proofs.YtjgdalhdiohclaaW.PrintLast Go.Proofs.YtjgdalhdiohclaaW.PrintMore
section
namespace Go.Proofs.Ytjgdalhdiohclaa.Q
def pG (S : List Int → List (List Int)) (left : List Int) (i : Nat) : List (List Int) := if i = 0 ∨ rd left ((i - 1 : Nat) : Int) ≠ rd left (i : Int) then (S (left.eraseIdx i)).map (rd left (i : Int) :: ·) else []
def pS : Nat → List Int → List (List Int)
 | 0, _ => [[]]
 | n + 1, left => (List.range left.length).flatMap (pG (pS n) left)
theorem range_drop {n i : Nat} (h : i < n) : (List.range n).drop i = i :: (List.range n).drop (i + 1) := by
 rw [List.drop_eq_getElem_cons (by simpa using h)]; simp
theorem eraseIdx_len {l : List Int} {i : Nat} (h : i < l.length) : (l.eraseIdx i).length + 1 = l.length := by
 rw [List.length_eraseIdx_of_lt h]; omega
theorem from_ev : ∀ (n : Nat) (left done : List Int) (out : List (List Int)), left.length = n → done.length + n ≤ 100 → out.length + (pS n left).length ≤ 1000000 → Ev (fun k => color_from.f k done left out) (out ++ (pS n left).map (done ++ ·))
 | 0, left, done, out, hl, hd, ho => by
  refine Ev.next ?_
  simp only [pS, List.length_cons, List.length_nil] at ho
  simp only [color_from.f, if_pos hl, if_pos (by omega : done.length < 1000000), if_pos (by omega : out.length < 1000000000)]
  exact Ev.ret (by simp [pS])
 | n + 1, left, done, out, hl, hd, ho => by
  have loop : ∀ (d i : Nat) (out : List (List Int)), i + d = left.length → out.length + (((List.range left.length).drop i).flatMap (pG (pS n) left)).length ≤ 1000000 → Ev (fun k => color_from.l k done left i out) (out ++ (((List.range left.length).drop i).flatMap (pG (pS n) left)).map (done ++ ·)) := by
   intro d
   induction d with
   | zero =>
    intro i out hi ho
    refine Ev.next ?_
    simp only [color_from.l, if_neg (by omega : ¬ i < left.length)]
    exact Ev.ret (by rw [List.drop_eq_nil_of_le (by simp; omega)]; simp)
   | succ d ih =>
    intro i out hi ho
    have hlt : i < left.length := by omega
    rw [range_drop hlt] at ho ⊢
    rw [List.flatMap_cons, List.length_append] at ho
    refine Ev.next ?_
    simp only [color_from.l, if_pos hlt]
    by_cases h : i = 0 ∨ rd left ((i - 1 : Nat) : Int) ≠ rd left (i : Int)
    ·have hg : pG (pS n) left i = (pS n (left.eraseIdx i)).map (rd left (i : Int) :: ·) := if_pos h
     have he := eraseIdx_len hlt
     simp only [if_pos h, if_pos (by omega : done.length < 1000000), if_pos (by omega : left.length < 1000000)]
     rw [hg, List.length_map] at ho
     refine Ev.bind (from_ev n (left.eraseIdx i) (done ++ [rd left (i : Int)]) out (by omega) (by simp; omega) (by omega)) ?_
     refine Ev.eq (ih (i + 1) _ (by omega) (by rw [List.length_append, List.length_map]; omega)) ?_
     rw [List.flatMap_cons, hg, List.map_append, List.map_map, List.append_assoc]
     congr 2
     refine List.map_congr_left fun p _ => ?_
     simp
    ·have hg : pG (pS n) left i = [] := if_neg h
     simp only [if_neg h]
     rw [hg] at ho
     refine Ev.eq (ih (i + 1) out (by omega) (by simpa using ho)) ?_
     rw [List.flatMap_cons, hg]; simp
  refine Ev.next ?_
  simp only [color_from.f, if_neg (by omega : ¬ left.length = 0)]
  have := loop left.length 0 out (by omega) (by simpa [pS] using ho)
  simpa [pS] using this
theorem erase_perm {l : List Int} {i : Nat} (h : i < l.length) : (l[i] :: l.eraseIdx i).Perm l := by
 have e : l = l.take i ++ l[i] :: l.drop (i + 1) := by rw [← List.drop_eq_getElem_cons h, List.take_append_drop]
 rw [List.eraseIdx_eq_take_drop_succ]
 exact List.perm_middle.symm.trans (List.Perm.of_eq e.symm)
theorem pS_perm : ∀ (n : Nat) (left p : List Int), left.length = n → p ∈ pS n left → p.Perm left
 | 0, left, p, hl, hp => by
  simp only [pS, List.mem_singleton] at hp
  rw [hp, List.length_eq_zero_iff.1 hl]
 | n + 1, left, p, hl, hp => by
  simp only [pS, List.mem_flatMap, List.mem_range] at hp
  obtain ⟨i, hi, hp⟩ := hp
  unfold pG at hp
  split at hp
  ·obtain ⟨q, hq, rfl⟩ := List.mem_map.1 hp
   have he := eraseIdx_len hi
   have := pS_perm n _ q (by omega) hq
   rw [rdE hi]
   exact (List.Perm.cons _ this).trans (erase_perm hi)
  ·cases hp
theorem sorted_erase {l : List Int} (h : l.Pairwise (· ≤ ·)) (i : Nat) : (l.eraseIdx i).Pairwise (· ≤ ·) := h.sublist (List.eraseIdx_sublist _ _)
theorem first_run {l : List Int} (h : l.Pairwise (· ≤ ·)) {i : Nat} (hi : i < l.length) : (i = 0 ∨ rd l ((i - 1 : Nat) : Int) ≠ rd l (i : Int)) ↔ l[i] ∉ l.take i := by
 have hp := List.pairwise_iff_getElem.1 h
 constructor
 ·intro h0 hm
  obtain ⟨j, hj, e⟩ := List.getElem_of_mem hm
  simp only [List.length_take] at hj
  rw [List.getElem_take] at e
  rcases h0 with rfl | h0
  ·omega
  ·rw [rdE (by omega), rdE hi] at h0
   have h1 := hp (i - 1) i (by omega) hi (by omega)
   have h2 : l[j]'(by omega) ≤ l[i - 1]'(by omega) := by
    rcases Nat.lt_or_ge j (i - 1) with h3 | h3
    ·exact hp j (i - 1) (by omega) (by omega) h3
    ·obtain rfl : j = i - 1 := by omega
     exact Int.le_refl _
   rw [e] at h2
   exact h0 (Int.le_antisymm h1 h2)
 ·intro hm
  rcases Nat.eq_zero_or_pos i with rfl | h0
  ·exact Or.inl rfl
  ·refine Or.inr fun e => hm ?_
   rw [rdE (by omega), rdE hi] at e
   rw [← e]
   refine List.mem_iff_getElem.2 ⟨i - 1, by simp; omega, by simp⟩
theorem pS_has : ∀ (n : Nat) (left p : List Int), left.Pairwise (· ≤ ·) → left.length = n → p.Perm left → p ∈ pS n left
 | 0, left, p, _, hl, hp => by
  have := hp.length_eq
  rw [hl] at this
  simp only [pS, List.mem_singleton]
  exact List.length_eq_zero_iff.1 this
 | n + 1, left, p, hs, hl, hp => by
  have hpl := hp.length_eq
  cases p with
  | nil => simp at hpl; omega
  | cons x q =>
   have hx : x ∈ left := hp.mem_iff.1 List.mem_cons_self
   have hi : left.idxOf x < left.length := List.idxOf_lt_length_iff.2 hx
   have hg : left[left.idxOf x] = x := List.getElem_idxOf hi
   simp only [pS, List.mem_flatMap, List.mem_range]
   refine ⟨left.idxOf x, hi, ?_⟩
   have hf : left.idxOf x = 0 ∨ rd left ((left.idxOf x - 1 : Nat) : Int) ≠ rd left ((left.idxOf x : Nat) : Int) := by
    rw [first_run hs hi, hg]
    intro hm
    obtain ⟨j, hj, e⟩ := List.getElem_of_mem hm
    simp only [List.length_take] at hj
    rw [List.getElem_take] at e
    have h1 := List.idxOf_lt_length_iff.2 hx
    have : left.idxOf x ≤ j := by
     rcases Nat.lt_or_ge j (left.idxOf x) with h2 | h2
     ·have := List.not_of_lt_findIdx (p := (· == x)) (xs := left) h2
      simp [e] at this
     ·exact h2
    omega
   unfold pG
   rw [if_pos hf]
   refine List.mem_map.2 ⟨q, ?_, by rw [rdE hi, hg]⟩
   have he := eraseIdx_len hi
   refine pS_has n _ q (sorted_erase hs _) (by omega) ?_
   refine List.Perm.cons_inv (a := x) (hp.trans ?_)
   have := erase_perm hi
   rw [hg] at this
   exact this.symm
end Go.Proofs.Ytjgdalhdiohclaa.Q
end
