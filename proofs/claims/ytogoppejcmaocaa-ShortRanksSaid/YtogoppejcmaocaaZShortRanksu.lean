/- The law ShortRanks holds: Rank returns the least number of states to which a word leads, and the first shortest word that leads to no more, or the documented error, for any automaton; no bound on the argument beyond its type's. (text 21 of 30) -/
import Derived.Test.YtogoppejcmaocaaZShortRanksl
import Derived.Test.YtogoppejcmaocaaZShortRanksg
import Derived.Test.YtogoppejcmaocaaZShortRanksq
/-! Part XMergeF -/
section
namespace Go.Proofs.Ytogoppejcmaocaa.Q
open Go.RowKit Go.Proofs.YtogoppejcmaocaaW.PrintWords Go.Proofs.YtogoppejcmaocaaW.PrintLast Go.Proofs.YtogoppejcmaocaaW.PrintMore
set_option linter.unusedVariables false
set_option linter.unusedSectionVars false
set_option linter.unusedSimpArgs false
/-! ### Merge, Apart, Reset, as functions -/
end Go.Proofs.Ytogoppejcmaocaa.Q
end
