/- The law ShortFinds holds: Shortest returns the first shortest reset word, or the documented error, for any automaton; no bound on the argument beyond its type's. (text 17 of 31) -/
import Derived.Test.YtogoppejcmaocaaZShortFindsh
import Derived.Lib.SlicesCompact
/-! Part XTidy -/
section
namespace Go.Proofs.Ytogoppejcmaocaa.Q
set_option linter.unusedVariables false
set_option linter.unusedSectionVars false
set_option linter.unusedSimpArgs false
end Go.Proofs.Ytogoppejcmaocaa.Q
end
