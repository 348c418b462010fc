/- Part of the proof of TopColours (text 28 of 33) -/
import Derived.Test.YtjgdalhdiohclaaZTopColoursj
import Derived.Test.YtjgdalhdiohclaaZTopColoursx
import Derived.Test.YtjgdalhdiohclaaZTopColoursi
set_option linter.unusedVariables false
set_option linter.unusedSimpArgs false
set_option linter.unusedSectionVars false
open Go.RowKit Go.Proofs.YtjgdalhdiohclaaW.PrintWords Go.Proofs.YtjgdalhdiohclaaW.PrintLast Go.Proofs.YtjgdalhdiohclaaW.PrintMore
section
namespace Go.Proofs.Ytjgdalhdiohclaa.Q
theorem isort_iff {x y : List Int} : isort x = isort y ↔ ∀ z, x.count z = y.count z := by
 rw [← List.perm_iff_count]
 constructor
 ·intro h
  exact (isort_perm x).symm.trans ((List.Perm.of_eq h).trans (isort_perm y))
 ·intro h
  exact List.Perm.eq_of_pairwise (le := (· ≤ ·)) (fun a b _ _ h1 h2 => Int.le_antisymm h1 h2) (isort_sorted x) (isort_sorted y) ((isort_perm x).trans (h.trans (isort_perm y).symm))
theorem isort_len (x : List Int) : (isort x).length = x.length := (isort_perm x).length_eq
theorem equal_says (l m : List Int) (hl : l.length ≤ 9223372036854775806) : Ev (fun k => slices_Equal_int_int.f k l m) (decide (l = m)) := by
 unfold slices_Equal_int_int.f
 by_cases h1 : l.length = m.length
 ·simp only [if_pos (by omega : (l.length : Int) = (m.length : Int))]
  refine @Ev.every Bool (fun k i => slices_Equal_int_int.l0 k l m (l.length : Int) (i : Int)) l.length true false _ (fun i => decide (rd l (i : Int) = rd m (i : Int))) ?_ ?_ ?_ ?_ ?_
  ·intro h
   rw [decide_eq_true_eq]
   refine List.ext_getElem h1 fun i h2 h3 => ?_
   have := od (h i h2)
   rw [rdE h2, rdE h3] at this; exact this
  ·intro i hi hp
   rw [decide_eq_false_iff_not]; rintro rfl; simp at hp
  ·intro i hi hp hr
   refine Ev.next ?_
   simp only [slices_Equal_int_int.l0, if_pos (by omega : (i : Int) < (l.length : Int)), if_pos (by omega : (0 : Int) ≤ (i : Int)), if_pos (by omega : (i : Int) < (m.length : Int)), if_pos (od hp), wrapS (by omega : i + 1 ≤ 9223372036854775807)]
   exact hr
  ·intro i hi hp
   refine Ev.next ?_
   simp only [slices_Equal_int_int.l0, if_pos (by omega : (i : Int) < (l.length : Int)), if_pos (by omega : (0 : Int) ≤ (i : Int)), if_pos (by omega : (i : Int) < (m.length : Int)), if_neg (of_decide_eq_false hp)]
   exact Ev.now _
  ·refine Ev.next ?_
   simp only [slices_Equal_int_int.l0, if_neg (by omega : ¬ (l.length : Int) < (l.length : Int))]
   exact Ev.now _
 ·simp only [if_neg (by omega : ¬ (l.length : Int) = (m.length : Int))]
  exact Ev.ret (by symm; rw [decide_eq_false_iff_not]; rintro rfl; exact h1 rfl)
def SameP (a b : List (List Int)) : Prop := a.length = b.length ∧ ∀ i, i < a.length → isort (rd_L1 a (i : Int)) = isort (rd_L1 b (i : Int))
instance (a b : List (List Int)) : Decidable (SameP a b) := by unfold SameP; infer_instance
theorem same_says {a b : List (List Int)} {n m n' m' : Nat} (V : VA a n m) (V' : VA b n' m') : Ev (fun k => color_Same.f k a b) (decide (SameP a b), 0) := by
 have hm := V.m6
 have hn := V.n60
 have hlen := V.len
 have hm' := V'.m6
 have hlen' := V'.len
 unfold color_Same.f
 simp only [auto_Valid.f, validB_of V, validB_of V', Option.bind_some, if_true, Bool.not_true]
 refine Ev.next ?_
 by_cases h1 : a.length = b.length
 ·simp only [color_Same.j0, Bool.false_eq_true, if_false, if_pos (by omega : (a.length : Int) = (b.length : Int))]
  refine @Ev.every (Bool × Int) (fun k i => color_Same.l0 k (a.length : Int) (i : Int) a b) a.length (true, 0) (false, 0) _ (fun i => decide (isort (rd_L1 a (i : Int)) = isort (rd_L1 b (i : Int)))) ?_ ?_ ?_ ?_ ?_
  ·intro h
   rw [decide_eq_true (show SameP a b from ⟨h1, fun v hv => od (h v hv)⟩)]
  ·intro i hi hp
   rw [decide_eq_false fun h : SameP a b => of_decide_eq_false hp (h.2 i hi)]
  ·intro i hi hp hr
   have r1 := V.row i (by omega)
   have r2 := V'.row i (by omega)
   refine Ev.next ?_
   simp only [color_Same.l0, color_sorted.f, if_pos (by omega : (i : Int) < (a.length : Int)), if_pos (by omega : (i : Int) < (b.length : Int)), if_pos (by omega : (0 : Int) ≤ (i : Int)), if_pos (by omega : (rd_L1 a (i : Int)).length < 17592186044416), if_pos (by omega : (rd_L1 b (i : Int)).length < 17592186044416), Option.bind_some, wrapS (by omega : i + 1 ≤ 9223372036854775807)]
   refine Ev.bind (equal_says _ _ (by rw [isort_len]; omega)) ?_
   simp only [hp, if_true]
   exact hr
  ·intro i hi hp
   have r1 := V.row i (by omega)
   have r2 := V'.row i (by omega)
   refine Ev.next ?_
   simp only [color_Same.l0, color_sorted.f, if_pos (by omega : (i : Int) < (a.length : Int)), if_pos (by omega : (i : Int) < (b.length : Int)), if_pos (by omega : (0 : Int) ≤ (i : Int)), if_pos (by omega : (rd_L1 a (i : Int)).length < 17592186044416), if_pos (by omega : (rd_L1 b (i : Int)).length < 17592186044416), Option.bind_some]
   refine Ev.bind (equal_says _ _ (by rw [isort_len]; omega)) ?_
   simp only [hp, Bool.false_eq_true, if_false]
   exact Ev.now _
  ·refine Ev.next ?_
   simp only [color_Same.l0, if_neg (by omega : ¬ (a.length : Int) < (a.length : Int))]
   exact Ev.now _
 ·simp only [color_Same.j0, Bool.false_eq_true, if_false, if_neg (by omega : ¬ (a.length : Int) = (b.length : Int))]
  exact Ev.ret (by rw [decide_eq_false fun h : SameP a b => h1 h.1])
section
variable {a b : List (List Int)} {n m m' : Nat} (V : VA a n m) (V' : VA b n m') {s : Nat} (hs : s < n)
include V V' hs
end
end Go.Proofs.Ytjgdalhdiohclaa.Q
end
