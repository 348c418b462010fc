/- The law TopCerny holds: the shortest reset word that is found for Cerny's automaton of n states has (n - 1)^2 letters, for n from 2 to 11; the law has no arguments. (text 19 of 30) -/
import Derived.Test.YtogoppejcmaocaaZTopCernyh
import Derived.Lib.SlicesCompact
/-! Part XTidy -/
section
namespace Go.Proofs.Ytogoppejcmaocaa.Q
set_option linter.unusedVariables false
set_option linter.unusedSectionVars false
set_option linter.unusedSimpArgs false
/-- A number put in its place. -/
def insD (x : Int) : List Int → List Int
  | [] => [x]
  | y :: l => if x < y then x :: y :: l else if x = y then y :: l else y :: insD x l
/-- The list in order, each number once. -/
def tidy (l : List Int) : List Int := l.foldr insD []
end Go.Proofs.Ytogoppejcmaocaa.Q
end
