/- Colorings returns the number of different colourings, or the documented error, for any automaton. (text 23 of 28) -/
import Derived.Test.YtjgdalhdiohclaaZColorCountsi
import Derived.Test.YtjgdalhdiohclaaZColorCountsr
import Derived.Test.YtjgdalhdiohclaaZColorCountsh
open Go.RowKit Go.Proofs.YtjgdalhdiohclaaW.PrintWords Go.Proofs.YtjgdalhdiohclaaW.PrintLast Go.Proofs.YtjgdalhdiohclaaW.PrintMore
/-! Part MColorSame -/
section
namespace Go.Proofs.Ytjgdalhdiohclaa.Q
set_option linter.unusedVariables false
set_option linter.unusedSimpArgs false
theorem isort_len (x : List Int) : (isort x).length = x.length := (isort_perm x).length_eq
def SameP (a b : List (List Int)) : Prop := a.length = b.length ∧ ∀ i, i < a.length → isort (rd_L1 a (i : Int)) = isort (rd_L1 b (i : Int))
instance (a b : List (List Int)) : Decidable (SameP a b) := by unfold SameP; infer_instance
theorem ref_times (l : List Int) (z : Int) (hl : l.length ≤ 1000) : Ev (fun k => mizmazeref05_Times.f k l z) ((l.count z : Nat) : Int) := by
 unfold mizmazeref05_Times.f
 have key : ∀ d i : Nat, i + d = l.length → Ev (fun k => mizmazeref05_Times.l0 k l z (((l.take i).count z : Nat) : Int) (i : Int)) ((l.count z : Nat) : Int) := by
  intro d
  induction d with
  | zero =>
   intro i hi
   refine Ev.next ?_
   simp only [mizmazeref05_Times.l0, if_neg (by omega : ¬ (i : Int) < (l.length : Int))]
   rw [List.take_of_length_le (by omega)]
   exact Ev.now _
  | succ d ih =>
   intro i hi
   have hlt : i < l.length := by omega
   have hc : (l.take i).count z ≤ 1000 := Nat.le_trans List.count_le_length (by rw [List.length_take]; omega)
   have h2 : (l.take (i + 1)).count z = (l.take i).count z + if l[i] = z then 1 else 0 := by
    rw [List.take_add_one, List.getElem?_eq_getElem hlt, List.count_append]
    simp [List.count_singleton]
   have := ih (i + 1) (by omega)
   refine Ev.next ?_
   by_cases e : l[i] = z
   ·simp only [mizmazeref05_Times.l0, if_pos (by omega : (i : Int) < (l.length : Int)), if_pos (by omega : (0 : Int) ≤ (i : Int)), rdE hlt, if_pos e, wrapS (by omega : (l.take i).count z + 1 ≤ 9223372036854775807), wrapS (by omega : i + 1 ≤ 9223372036854775807)]
    rw [if_pos e] at h2
    rwa [h2] at this
   ·simp only [mizmazeref05_Times.l0, if_pos (by omega : (i : Int) < (l.length : Int)), if_pos (by omega : (0 : Int) ≤ (i : Int)), rdE hlt, if_neg e, wrapS (by omega : i + 1 ≤ 9223372036854775807)]
    rw [if_neg e, Nat.add_zero] at h2
    rwa [h2] at this
 exact key l.length 0 (by omega)
section
variable {a b : List (List Int)} {n m m' : Nat} (V : VA a n m) (V' : VA b n m') {s : Nat} (hs : s < n)
include V V' hs
end
end Go.Proofs.Ytjgdalhdiohclaa.Q
end
