/- In any colouring of a strongly connected automaton of period d, any word leads from all states to at least d states; if d is greater than 1 there is no reset word, and Road returns ErrNone. (text 4 of 31) -/
import Derived.Test.YtjgdalhdiohclaaZColorPeriodsa
import Derived.Laws.StructEq
/-! Part WEqStruct -/
section
namespace Go.Proofs.YtjgdalhdiohclaaW.PrintWords
open Go.RowKit
section
variable {P : Program} {d : Nat} {xs ys : Array Value} {f : Field} {fs : List Field} {a b : Value} {r s : Bool} {w : World}
end
end Go.Proofs.YtjgdalhdiohclaaW.PrintWords
end
