/- The law TopCerny holds: the shortest reset word that is found for Cerny's automaton of n states has (n - 1)^2 letters, for n from 2 to 11; the law has no arguments. (text 22 of 30) -/
import Derived.Test.YtogoppejcmaocaaZTopCernyj
import Derived.Test.YtogoppejcmaocaaZTopCernys
/-! Part MTidy -/
section
namespace Go.Proofs.Ytogoppejcmaocaa.Q
set_option linter.unusedVariables false
set_option linter.unusedSectionVars false
set_option linter.unusedSimpArgs false
/-! ### a list in order, each number once -/
end Go.Proofs.Ytogoppejcmaocaa.Q
end
