/- An automaton is Eulerian exactly if the preimages of each single state by all letters have, together, one state for each letter; and then those of any set the number of letters times the number of states of the set. (text 2 of 22) -/
import Derived.Test.YtcpmmkennnjalaaZEulerMeansa
import Derived.Laws.StructEq
section
-- PRINTED BY print.sh 35421559b90ae4d0a3588c463048766b98c2df88dd9212a6774a882060cdf62d: not written by this session
/-! ### 53. '==' of structs as_ one Bool -/
namespace Go.Proofs.YtcpmmkennnjalaaW.PrintWords
open Go.RowKit
section
variable {P : Program} {d : Nat} {xs ys : Array Value} {f : Field} {fs : List Field} {a b : Value} {r s : Bool} {w : World}
end
end Go.Proofs.YtcpmmkennnjalaaW.PrintWords
end
