/- The length of the shortest reset word of an automaton of at most MaxSmall states is at most Bound; the word that Reset returns has at most (n^3 - n) / 6 letters, and Bound does not say more. (text 2 of 37) -/
import Derived.Test.YtcpmmkennnjalaaZEulerBoundsa
import Derived.Laws.StructEq
section
-- PRINTED BY print.sh 35421559b90ae4d0a3588c463048766b98c2df88dd9212a6774a882060cdf62d: not written by this session
/-! ### 53. '==' of structs as_ one Bool -/
namespace Go.Proofs.YtcpmmkennnjalaaW.PrintWords
open Go.RowKit
section
variable {P : Program} {d : Nat} {xs ys : Array Value} {f : Field} {fs : List Field} {a b : Value} {r s : Bool} {w : World}
end
end Go.Proofs.YtcpmmkennnjalaaW.PrintWords
end
