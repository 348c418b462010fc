/- The law ShortCerny holds: Cerny returns the documented automaton, or the documented error, for any number, and its shortest reset word has (n - 1)^2 letters, for n up to MaxSmall; no bound on the argument beyond its type's. (text 23 of 29) -/
import Derived.Test.YtogoppejcmaocaaZShortCernyh
import Derived.Test.YtogoppejcmaocaaZShortCernyq
/-! Part MTidy -/
section
namespace Go.Proofs.Ytogoppejcmaocaa.Q
set_option linter.unusedVariables false
set_option linter.unusedSectionVars false
set_option linter.unusedSimpArgs false
/-! ### a list in order, each number once -/
end Go.Proofs.Ytogoppejcmaocaa.Q
end
