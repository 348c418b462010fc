/- The law ShortCerny holds: Cerny returns the documented automaton, or the documented error, for any number, and its shortest reset word has (n - 1)^2 letters, for n up to MaxSmall; no bound on the argument beyond its type's. (text 17 of 29) -/
import Derived.Test.YtogoppejcmaocaaZShortCernyf
import Derived.Lib.SlicesCompact
/-! Part XTidy -/
section
namespace Go.Proofs.Ytogoppejcmaocaa.Q
set_option linter.unusedVariables false
set_option linter.unusedSectionVars false
set_option linter.unusedSimpArgs false
/-- A number put in its place. -/
def insD (x : Int) : List Int → List Int
  | [] => [x]
  | y :: l => if x < y then x :: y :: l else if x = y then y :: l else y :: insD x l
/-- The list in order, each number once. -/
def tidy (l : List Int) : List Int := l.foldr insD []
end Go.Proofs.Ytogoppejcmaocaa.Q
end
