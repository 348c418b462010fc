/- One word for all mazes: the word that is found for some numbers of rooms and doors visits all rooms of whatever connected maze with at most this number of rooms, also with doors before it and after it; it is proved for every input, without conditions. (text 22 of 31) -/
import Derived.Test.YtgbjbgdnldklpaaZTopMazeu
import Derived.Test.YtgbjbgdnldklpaaZTopMazej
import Derived.Test.YtgbjbgdnldklpaaZTopMazeg
/-! Part XMazes -/
section
namespace Go.Proofs.Ytgbjbgdnldklpaa.Q
open Go.RowKit Go.Proofs.YtgbjbgdnldklpaaW.PrintWords Go.Proofs.YtgbjbgdnldklpaaW.PrintLast Go.Proofs.YtgbjbgdnldklpaaW.PrintMore
attribute [local go_sem] Oper.semAt_some
set_option linter.unusedVariables false
set_option linter.unusedSimpArgs false
set_option maxHeartbeats 1000000 in
theorem maze_all.makes (n d : Int) (w : World) :
  Calls Try.prog 38 #[.int .i64 n, .int .i64 d] w fun e w' => e = .returned (.func (.func 51) #[] #[.pointer (some ⟨w.heap.size, 0, none⟩), .pointer (some ⟨w.heap.size + 1, 0, none⟩)]) ∧ w'.heap[w.heap.size]? = some (.cells #[.int .i64 n] 3 (0, 0)) ∧ w'.heap[w.heap.size + 1]? = some (.cells #[.int .i64 d] 3 (0, 0)) ∧ Below w.heap.size w w' := by
 go_enter Try.func38, Try.ntmps38
 go_wp2
 go_ret
 refine ⟨rfl, blk_alloc (blk_new _ _) _, ?_, ((Below.refl _ _).alloc (Nat.le_refl _) _).alloc (by simp) _⟩
 have := blk_new (w.alloc (.cells #[.int .i64 n] 3)) (.cells #[.int .i64 d] 3)
 rwa [World.size_alloc] at this
end Go.Proofs.Ytgbjbgdnldklpaa.Q
end
