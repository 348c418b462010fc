/- Colored and Same return the documented results, or the documented errors, for any automata and permutations. (text 4 of 27) -/
import Derived.Test.YtjgdalhdiohclaaZColorMakesa
import Derived.Laws.StructEq
/-! Part WEqStruct -/
section
-- PRINTED BY print.sh 35421559b90ae4d0a3588c463048766b98c2df88dd9212a6774a882060cdf62d: not written by this session
/-! ### 53. '==' of structs as_ one Bool -/
namespace Go.Proofs.YtjgdalhdiohclaaW.PrintWords
open Go.RowKit
section
variable {P : Program} {d : Nat} {xs ys : Array Value} {f : Field} {fs : List Field} {a b : Value} {r s : Bool} {w : World}
end
end Go.Proofs.YtjgdalhdiohclaaW.PrintWords
end
