/- Part of the proof of TopRoad (text 6 of 33) -/
import Derived.Test.YtjgdalhdiohclaaZTopRoada
import Derived.Laws.StructEq
set_option linter.unusedVariables false
set_option linter.unusedSimpArgs false
set_option linter.unusedSectionVars false
section
namespace Go.Proofs.YtjgdalhdiohclaaW.PrintWords
open Go.RowKit
section
variable {P : Program} {d : Nat} {xs ys : Array Value} {f : Field} {fs : List Field} {a b : Value} {r s : Bool} {w : World}
end
end Go.Proofs.YtjgdalhdiohclaaW.PrintWords
end
