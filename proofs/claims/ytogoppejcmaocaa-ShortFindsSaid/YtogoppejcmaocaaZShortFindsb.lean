/- The law ShortFinds holds: Shortest returns the first shortest reset word, or the documented error, for any automaton; no bound on the argument beyond its type's. (text 2 of 31) -/
import Derived.Test.YtogoppejcmaocaaZShortFindsa
import Derived.Laws.StructEq
/-! Part WEqStruct -/
section
-- PRINTED BY print.sh 35421559b90ae4d0a3588c463048766b98c2df88dd9212a6774a882060cdf62d: not written by this session
/-! ### 53. '==' of structs as_ one Bool -/
namespace Go.Proofs.YtogoppejcmaocaaW.PrintWords
open Go.RowKit
section
variable {P : Program} {d : Nat} {xs ys : Array Value} {f : Field} {fs : List Field} {a b : Value} {r s : Bool} {w : World}
end
end Go.Proofs.YtogoppejcmaocaaW.PrintWords
end
