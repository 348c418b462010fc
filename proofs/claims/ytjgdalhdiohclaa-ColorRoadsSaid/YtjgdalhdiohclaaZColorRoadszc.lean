/- Part of the proof of ColorRoads (text 29 of 33) -/
import Derived.Test.YtjgdalhdiohclaaZColorRoadsj
import Derived.Test.YtjgdalhdiohclaaZColorRoadsza
set_option linter.unusedVariables false
set_option linter.unusedSimpArgs false
set_option linter.unusedSectionVars false
section
namespace Go.Proofs.Ytjgdalhdiohclaa.Q
def mizmazelaw05_ColorRoads.Pure : Prop := ∀ (l0_0 : List (List Int)), RowsOk l0_0 → ∃ k, mizmazelaw05_ColorRoads.f k l0_0 = some true
end Go.Proofs.Ytjgdalhdiohclaa.Q
end
