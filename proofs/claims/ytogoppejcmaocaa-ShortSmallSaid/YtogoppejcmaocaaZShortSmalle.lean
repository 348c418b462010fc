/- The law ShortSmall holds: every automaton with at most 4 states and 2 letters that has a reset word has one of at most (n - 1)^2 letters, Reset finds one exactly if Shortest does, and none that is shorter; no bound on the arguments beyond their types'. (text 5 of 32) -/
import Derived.Test.YtogoppejcmaocaaZShortSmalla
import Derived.Laws.StructEq
/-! Part WEqStruct -/
section
-- PRINTED BY print.sh 35421559b90ae4d0a3588c463048766b98c2df88dd9212a6774a882060cdf62d: not written by this session
/-! ### 53. '==' of structs as_ one Bool -/
namespace Go.Proofs.YtogoppejcmaocaaW.PrintWords
open Go.RowKit
section
variable {P : Program} {d : Nat} {xs ys : Array Value} {f : Field} {fs : List Field} {a b : Value} {r s : Bool} {w : World}
end
end Go.Proofs.YtogoppejcmaocaaW.PrintWords
end
