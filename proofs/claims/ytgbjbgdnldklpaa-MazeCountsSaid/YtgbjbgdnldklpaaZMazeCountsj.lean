/- The law MazeCounts holds: Mazes returns how many mazes there are and how many are connected, or the documented error, as the reference counts them; no bound on the arguments beyond their types'. (text 10 of 17) -/
import Derived.Test.YtgbjbgdnldklpaaZMazeCountsf
import Derived.ProofKit
import Derived.OpenShut
import Derived.ChangeOld
import Derived.ChangeSlices
import Derived.Deep.Matrix
/-! Part XOpen -/
section
namespace Go.Proofs.Ytgbjbgdnldklpaa.Q
open Go.RowKit Go.Proofs.YtgbjbgdnldklpaaW.PrintWords Go.Proofs.YtgbjbgdnldklpaaW.PrintLast Go.Proofs.YtgbjbgdnldklpaaW.PrintMore
open Go.ChangeShapes Go.WideShapes
set_option linter.unusedVariables false
set_option linter.unusedSimpArgs false

section
variable {H : Type} {enc : TypeId × Value → H} {P : Program} {w : World} {held : Bool}
end
end Go.Proofs.Ytgbjbgdnldklpaa.Q
end
