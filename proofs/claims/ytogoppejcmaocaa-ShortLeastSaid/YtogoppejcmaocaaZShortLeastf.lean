/- No word leads from all states to fewer states than the rank; a reset word is not shorter than the shortest one and does not come before it; the rank is 1 exactly if there is a reset word, for any automaton and word. (text 6 of 35) -/
import Derived.Test.YtogoppejcmaocaaZShortLeasta
import Derived.Laws.StructEq
/-! Part WEqStruct -/
section
-- PRINTED BY print.sh 35421559b90ae4d0a3588c463048766b98c2df88dd9212a6774a882060cdf62d: not written by this session
/-! ### 53. '==' of structs as_ one Bool -/
namespace Go.Proofs.YtogoppejcmaocaaW.PrintWords
open Go.RowKit
section
variable {P : Program} {d : Nat} {xs ys : Array Value} {f : Field} {fs : List Field} {a b : Value} {r s : Bool} {w : World}
end
end Go.Proofs.YtogoppejcmaocaaW.PrintWords
end
