/- One word for all mazes: the word that is found for some numbers of rooms and doors visits all rooms of whatever connected maze with at most this number of rooms, also with doors before it and after it; it is proved for every input, without conditions. (text 29 of 31) -/
import Derived.Test.YtgbjbgdnldklpaaZTopMazei
import Derived.Test.YtgbjbgdnldklpaaZTopMazezb
import Derived.Test.YtgbjbgdnldklpaaZTopMazey
/-! Part StmtTopMaze -/
section
-- Written by xrow.py, a program of this session's. Lean checks it.
namespace Go.Proofs.Ytgbjbgdnldklpaa.Q
/-- What is left to prove of the law TopMaze. -/
def mizmazetop_TopMaze.Pure : Prop := ∀ (a0_0 a0_1 a0_2 : Int), ∀ (l1 : List Int), ∀ (a2_0 : Int) (l2_1 l2_2 : List Int), (-9223372036854775808 ≤ a0_0 ∧ a0_0 ≤ 9223372036854775807) → (-9223372036854775808 ≤ a0_1 ∧ a0_1 ≤ 9223372036854775807) → (-9223372036854775808 ≤ a0_2 ∧ a0_2 ≤ 9223372036854775807) → IntsOk l1 → (-9223372036854775808 ≤ a2_0 ∧ a2_0 ≤ 9223372036854775807) → IntsOk l2_1 → IntsOk l2_2 → ∃ k, mizmazetop_TopMaze.f k a0_0 a0_1 a0_2 l1 a2_0 l2_1 l2_2 = some true
end Go.Proofs.Ytgbjbgdnldklpaa.Q
end
