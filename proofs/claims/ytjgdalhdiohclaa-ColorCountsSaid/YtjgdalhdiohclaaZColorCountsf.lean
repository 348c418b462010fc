/- Colorings returns the number of different colourings, or the documented error, for any automaton. (text 6 of 28) -/
import Derived.Test.YtjgdalhdiohclaaZColorCountsa
import Derived.Laws.StructEq
/-! Part WEqStruct -/
section
namespace Go.Proofs.YtjgdalhdiohclaaW.PrintWords
open Go.RowKit
section
variable {P : Program} {d : Nat} {xs ys : Array Value} {f : Field} {fs : List Field} {a b : Value} {r s : Bool} {w : World}
end
end Go.Proofs.YtjgdalhdiohclaaW.PrintWords
end
