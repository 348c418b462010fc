/- The law TopHome holds: any automaton has a reset word of at most (n^3 - n) / 6 letters that is found, and with whatever letters before it and after it it leads all states to one, or there are pairs of states that are found and that no word merges; no bound on the arguments beyond their types'. (text 5 of 26) -/
import Derived.Test.YtogoppejcmaocaaZTopHomea
import Derived.Laws.StructEq
/-! Part WEqStruct -/
section
-- PRINTED BY print.sh 35421559b90ae4d0a3588c463048766b98c2df88dd9212a6774a882060cdf62d: not written by this session
/-! ### 53. '==' of structs as_ one Bool -/
namespace Go.Proofs.YtogoppejcmaocaaW.PrintWords
open Go.RowKit
section
variable {P : Program} {d : Nat} {xs ys : Array Value} {f : Field} {fs : List Field} {a b : Value} {r s : Bool} {w : World}
end
end Go.Proofs.YtogoppejcmaocaaW.PrintWords
end
