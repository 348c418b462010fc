/- Part of the proof of TopRoad (text 28 of 33) -/
import Derived.Test.YtjgdalhdiohclaaZTopRoadi
import Derived.Test.YtjgdalhdiohclaaZTopRoadx
import Derived.Test.YtjgdalhdiohclaaZTopRoadh
set_option linter.unusedVariables false
set_option linter.unusedSimpArgs false
set_option linter.unusedSectionVars false
open Go.RowKit Go.Proofs.YtjgdalhdiohclaaW.PrintWords Go.Proofs.YtjgdalhdiohclaaW.PrintLast Go.Proofs.YtjgdalhdiohclaaW.PrintMore
section
namespace Go.Proofs.Ytjgdalhdiohclaa.Q
theorem isort_len (x : List Int) : (isort x).length = x.length := (isort_perm x).length_eq
def SameP (a b : List (List Int)) : Prop := a.length = b.length ∧ ∀ i, i < a.length → isort (rd_L1 a (i : Int)) = isort (rd_L1 b (i : Int))
instance (a b : List (List Int)) : Decidable (SameP a b) := by unfold SameP; infer_instance
section
variable {a b : List (List Int)} {n m m' : Nat} (V : VA a n m) (V' : VA b n m') {s : Nat} (hs : s < n)
include V V' hs
end
end Go.Proofs.Ytjgdalhdiohclaa.Q
end
