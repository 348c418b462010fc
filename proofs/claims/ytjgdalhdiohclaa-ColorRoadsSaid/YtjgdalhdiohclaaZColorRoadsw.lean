/- Part of the proof of ColorRoads (text 23 of 31) -/
import Derived.Test.YtjgdalhdiohclaaZColorRoadsj
import Derived.Test.YtjgdalhdiohclaaZColorRoadsv
import Derived.Test.YtjgdalhdiohclaaZColorRoadsi
set_option linter.unusedVariables false
set_option linter.unusedSimpArgs false
set_option linter.unusedSectionVars false
open Go.RowKit Go.Proofs.YtjgdalhdiohclaaW.PrintWords Go.Proofs.YtjgdalhdiohclaaW.PrintLast Go.Proofs.YtjgdalhdiohclaaW.PrintMore
section
namespace Go.Proofs.Ytjgdalhdiohclaa.Q
theorem isort_iff {x y : List Int} : isort x = isort y ↔ ∀ z, x.count z = y.count z := by
 rw [← List.perm_iff_count]
 constructor
 ·intro h
  exact (isort_perm x).symm.trans ((List.Perm.of_eq h).trans (isort_perm y))
 ·intro h
  exact List.Perm.eq_of_pairwise (le := (· ≤ ·)) (fun a b _ _ h1 h2 => Int.le_antisymm h1 h2) (isort_sorted x) (isort_sorted y) ((isort_perm x).trans (h.trans (isort_perm y).symm))
theorem isort_len (x : List Int) : (isort x).length = x.length := (isort_perm x).length_eq
def SameP (a b : List (List Int)) : Prop := a.length = b.length ∧ ∀ i, i < a.length → isort (rd_L1 a (i : Int)) = isort (rd_L1 b (i : Int))
instance (a b : List (List Int)) : Decidable (SameP a b) := by unfold SameP; infer_instance
theorem ref_times (l : List Int) (z : Int) (hl : l.length ≤ 1000) : Ev (fun k => mizmazeref05_Times.f k l z) ((l.count z : Nat) : Int) := by
 unfold mizmazeref05_Times.f
 have key : ∀ d i : Nat, i + d = l.length → Ev (fun k => mizmazeref05_Times.l0 k l z (((l.take i).count z : Nat) : Int) (i : Int)) ((l.count z : Nat) : Int) := by
  intro d
  induction d with
  | zero =>
   intro i hi
   refine Ev.next ?_
   simp only [mizmazeref05_Times.l0, if_neg (by omega : ¬ (i : Int) < (l.length : Int))]
   rw [List.take_of_length_le (by omega)]
   exact Ev.now _
  | succ d ih =>
   intro i hi
   have hlt : i < l.length := by omega
   have hc : (l.take i).count z ≤ 1000 := Nat.le_trans List.count_le_length (by rw [List.length_take]; omega)
   have h2 : (l.take (i + 1)).count z = (l.take i).count z + if l[i] = z then 1 else 0 := by
    rw [List.take_add_one, List.getElem?_eq_getElem hlt, List.count_append]
    simp [List.count_singleton]
   have := ih (i + 1) (by omega)
   refine Ev.next ?_
   by_cases e : l[i] = z
   ·simp only [mizmazeref05_Times.l0, if_pos (by omega : (i : Int) < (l.length : Int)), if_pos (by omega : (0 : Int) ≤ (i : Int)), rdE hlt, if_pos e, wrapS (by omega : (l.take i).count z + 1 ≤ 9223372036854775807), wrapS (by omega : i + 1 ≤ 9223372036854775807)]
    rw [if_pos e] at h2
    rwa [h2] at this
   ·simp only [mizmazeref05_Times.l0, if_pos (by omega : (i : Int) < (l.length : Int)), if_pos (by omega : (0 : Int) ≤ (i : Int)), rdE hlt, if_neg e, wrapS (by omega : i + 1 ≤ 9223372036854775807)]
    rw [if_neg e, Nat.add_zero] at h2
    rwa [h2] at this
 exact key l.length 0 (by omega)
section
variable {a b : List (List Int)} {n m m' : Nat} (V : VA a n m) (V' : VA b n m') {s : Nat} (hs : s < n)
include V V' hs
theorem same_step {R : Bool} {j : Nat} (hj : j < n) (h : Ev (fun k => if ((rd_L1 a (s : Int)).count (j : Int) : Int) = ((rd_L1 b (s : Int)).count (j : Int) : Int) then mizmazeref05_Same.l1 k (s : Int) ((j + 1 : Nat) : Int) a b else some false) R) : Ev (fun k => mizmazeref05_Same.l1 k (s : Int) (j : Int) a b) R := by
 have hm := V.m6
 have hn := V.n60
 have hlen := V.len
 have hm' := V'.m6
 have hlen' := V'.len
 have r1 := V.row s hs
 have r2 := V'.row s hs
 refine Ev.next ?_
 simp only [mizmazeref05_Same.l1, if_pos (by omega : (j : Int) < (a.length : Int)), if_pos (by omega : (0 : Int) ≤ (s : Int)), if_pos (by omega : (s : Int) < (a.length : Int)), if_pos (by omega : (s : Int) < (b.length : Int)), wrapS (by omega : j + 1 ≤ 9223372036854775807)]
 exact Ev.bind (ref_times _ _ (by omega)) (Ev.bind (ref_times _ _ (by omega)) h)
theorem same_in {R : Bool} (heq : ∀ i : Nat, i < n → (rd_L1 a (s : Int)).count (i : Int) = (rd_L1 b (s : Int)).count (i : Int)) (hnext : Ev (fun k => mizmazeref05_Same.l0 k ((s + 1 : Nat) : Int) a b) R) : ∀ d j : Nat, j + d = n → Ev (fun k => mizmazeref05_Same.l1 k (s : Int) (j : Int) a b) R
 | 0, j, hj => by
  have hn := V.n60
  have hlen := V.len
  refine Ev.next ?_
  simp only [mizmazeref05_Same.l1, if_neg (by omega : ¬ (j : Int) < (a.length : Int)), wrapS (by omega : s + 1 ≤ 9223372036854775807)]
  exact hnext
 | d + 1, j, hj => by
  refine same_step V V' hs (by omega) ?_
  simp only [heq j (by omega), if_true]
  exact same_in heq hnext d (j + 1) (by omega)
theorem same_out : ∀ d j : Nat, j + d = n → (∃ i : Nat, j ≤ i ∧ i < n ∧ (rd_L1 a (s : Int)).count (i : Int) ≠ (rd_L1 b (s : Int)).count (i : Int)) → Ev (fun k => mizmazeref05_Same.l1 k (s : Int) (j : Int) a b) false
 | 0, j, hj, ⟨i, h1, h2, _⟩ => by omega
 | d + 1, j, hj, ⟨i, h1, h2, h3⟩ => by
  refine same_step V V' hs (by omega) ?_
  by_cases e : (rd_L1 a (s : Int)).count (j : Int) = (rd_L1 b (s : Int)).count (j : Int)
  ·simp only [e, if_true]
   refine same_out d (j + 1) (by omega) ⟨i, ?_, h2, h3⟩
   rcases Nat.lt_or_ge j i with h | h
   ·omega
   ·obtain rfl : i = j := by omega
    exact absurd e h3
  ·simp only [if_neg (fun h => e (Int.ofNat.inj h) : ¬ ((rd_L1 a (s : Int)).count (j : Int) : Int) = ((rd_L1 b (s : Int)).count (j : Int) : Int))]
   exact Ev.now _
theorem counts_iff : isort (rd_L1 a (s : Int)) = isort (rd_L1 b (s : Int)) ↔ ∀ i : Nat, i < n → (rd_L1 a (s : Int)).count (i : Int) = (rd_L1 b (s : Int)).count (i : Int) := by
 rw [isort_iff]
 refine ⟨fun h i _ => h _, fun h z => ?_⟩
 have e1 := V.ent s hs
 have e2 := V'.ent s hs
 by_cases hz : 0 ≤ z ∧ z < n
 ·have := h z.toNat (by omega)
  rwa [Int.toNat_of_nonneg hz.1] at this
 ·rw [List.count_eq_zero_of_not_mem, List.count_eq_zero_of_not_mem]
  ·exact fun hm => hz (od (List.all_eq_true.1 e2 z hm))
  ·exact fun hm => hz (od (List.all_eq_true.1 e1 z hm))
end
theorem ref_same5 {a b : List (List Int)} {n m n' m' : Nat} (V : VA a n m) (V' : VA b n' m') : Ev (fun k => mizmazeref05_Same.f k a b) (decide (SameP a b)) := by
 have hm := V.m6
 have hn := V.n60
 have hlen := V.len
 have hm' := V'.m6
 have hlen' := V'.len
 unfold mizmazeref05_Same.f
 by_cases h1 : a.length = b.length
 ·obtain rfl : n' = n := by omega
  simp only [if_pos (by omega : (a.length : Int) = (b.length : Int)), V.letters, V'.letters, Option.bind_some]
  refine Ev.next ?_
  by_cases hmm : m = m'
  ·subst hmm
   simp only [mizmazeref05_Same.j0, bne_self_eq_false, Bool.false_eq_true, if_false]
   refine @Ev.every Bool (fun k i => mizmazeref05_Same.l0 k (i : Int) a b) a.length true false _ (fun i => decide (isort (rd_L1 a (i : Int)) = isort (rd_L1 b (i : Int)))) ?_ ?_ ?_ ?_ ?_
   ·intro h
    exact decide_eq_true (show SameP a b from ⟨h1, fun v hv => od (h v hv)⟩)
   ·intro i hi hp
    exact decide_eq_false fun h : SameP a b => of_decide_eq_false hp (h.2 i hi)
   ·intro i hi hp hr
    refine Ev.next ?_
    simp only [mizmazeref05_Same.l0, if_pos (by omega : (i : Int) < (a.length : Int))]
    exact same_in V V' (by omega) ((counts_iff V V' (s := i) (by omega)).1 (od hp)) hr a.length 0 (by omega)
   ·intro i hi hp
    refine Ev.next ?_
    simp only [mizmazeref05_Same.l0, if_pos (by omega : (i : Int) < (a.length : Int))]
    refine same_out V V' (by omega) a.length 0 (by omega) ?_
    have hne := of_decide_eq_false hp
    rw [counts_iff V V' (s := i) (by omega)] at hne
    obtain ⟨j, hj⟩ := Classical.not_forall.1 hne
    obtain ⟨hj1, hj2⟩ := Classical.not_imp.1 hj
    exact ⟨j, by omega, hj1, hj2⟩
   ·refine Ev.next ?_
    simp only [mizmazeref05_Same.l0, if_neg (by omega : ¬ (a.length : Int) < (a.length : Int))]
    exact Ev.now _
  ·have hb : ((m : Int) != (m' : Int)) = true := by simp; omega
   simp only [mizmazeref05_Same.j0, hb, if_true]
   refine Ev.ret ?_
   symm
   rw [decide_eq_false_iff_not]
   intro h
   have h0 := congrArg List.length (h.2 0 (by have := V.n0; omega))
   rw [isort_len, isort_len] at h0
   have r1 := V.row 0 V.n0
   have r2 := V'.row 0 V'.n0
   exact hmm (by rw [← r1, ← r2]; exact h0)
 ·simp only [if_neg (by omega : ¬ (a.length : Int) = (b.length : Int))]
  refine Ev.next ?_
  simp only [mizmazeref05_Same.j0, if_true]
  exact Ev.ret (by symm; rw [decide_eq_false_iff_not]; exact fun h => h1 h.1)
end Go.Proofs.Ytjgdalhdiohclaa.Q
end
