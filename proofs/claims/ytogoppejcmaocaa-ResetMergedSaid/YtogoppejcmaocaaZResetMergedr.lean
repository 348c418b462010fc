/- What Merge returns merges the two states; no shorter word does, and none of the same length that comes before it, for any automaton, states and word. (text 18 of 25) -/
import Derived.Test.YtogoppejcmaocaaZResetMergedh
import Derived.Test.YtogoppejcmaocaaZResetMergedm
/-! Part MTidy -/
section
namespace Go.Proofs.Ytogoppejcmaocaa.Q
set_option linter.unusedVariables false
set_option linter.unusedSectionVars false
set_option linter.unusedSimpArgs false
/-! ### a list in order, each number once -/
end Go.Proofs.Ytogoppejcmaocaa.Q
end
