/- The law ShortRanks holds: Rank returns the least number of states to which a word leads, and the first shortest word that leads to no more, or the documented error, for any automaton; no bound on the argument beyond its type's. (text 4 of 30) -/
import Derived.Test.YtogoppejcmaocaaZShortRanksa
import Derived.Laws.StructEq
/-! Part WEqStruct -/
section
-- PRINTED BY print.sh 35421559b90ae4d0a3588c463048766b98c2df88dd9212a6774a882060cdf62d: not written by this session
/-! ### 53. '==' of structs as_ one Bool -/
namespace Go.Proofs.YtogoppejcmaocaaW.PrintWords
open Go.RowKit
section
variable {P : Program} {d : Nat} {xs ys : Array Value} {f : Field} {fs : List Field} {a b : Value} {r s : Bool} {w : World}
end
end Go.Proofs.YtogoppejcmaocaaW.PrintWords
end
