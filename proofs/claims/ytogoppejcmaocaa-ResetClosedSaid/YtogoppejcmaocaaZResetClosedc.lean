/- The law ResetClosed holds: there is a reset word if and only if Apart is empty, each letter leads the states of a pair of Apart to the two states of a pair of Apart, and Merge of two different states returns ErrNone for these pairs alone; no bound on the arguments beyond their types'. (text 3 of 26) -/
import Derived.Test.YtogoppejcmaocaaZResetCloseda
import Derived.Laws.StructEq
/-! Part WEqStruct -/
section
-- PRINTED BY print.sh 35421559b90ae4d0a3588c463048766b98c2df88dd9212a6774a882060cdf62d: not written by this session
/-! ### 53. '==' of structs as_ one Bool -/
namespace Go.Proofs.YtogoppejcmaocaaW.PrintWords
open Go.RowKit
section
variable {P : Program} {d : Nat} {xs ys : Array Value} {f : Field} {fs : List Field} {a b : Value} {r s : Bool} {w : World}
end
end Go.Proofs.YtogoppejcmaocaaW.PrintWords
end
