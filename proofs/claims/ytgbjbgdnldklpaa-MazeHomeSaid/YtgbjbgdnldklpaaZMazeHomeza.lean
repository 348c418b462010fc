/- Whatever connected maze of the size there is, and wherever one begins, what Universal returns visits all of its rooms, also with letters before it and after it; proved for every input, without conditions. (text 27 of 31) -/
import Derived.Test.YtgbjbgdnldklpaaZMazeHomew
import Derived.Test.YtgbjbgdnldklpaaZMazeHomez
import Derived.Test.YtgbjbgdnldklpaaZMazeHomev
/-! Part StmtMazeHome -/
section
-- Written by xrow.py, a program of this session's. Lean checks it.
namespace Go.Proofs.Ytgbjbgdnldklpaa.Q
/-- What is left to prove of the law MazeHome. -/
def mizmazelaw10_MazeHome.Pure : Prop := ∀ (l0_0 : List (List S44)), ∀ (a1 : Int), ∀ (a2 : Int), ∀ (l3 : List Int), ∀ (l4 : List Int), MazeOk l0_0 → (0 ≤ a1 ∧ a1 ≤ 255) → (-9223372036854775808 ≤ a2 ∧ a2 ≤ 9223372036854775807) → IntsOk l3 → IntsOk l4 → ∃ k, mizmazelaw10_MazeHome.f k l0_0 a1 a2 l3 l4 = some true
end Go.Proofs.Ytgbjbgdnldklpaa.Q
end
