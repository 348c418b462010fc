/- In an Eulerian automaton of at most MaxSmall states that has a reset word, Extend of each set that is neither empty nor contains all states is a word of at most n - 1 letters whose preimage has more states. (text 35 of 44) -/
import Derived.Test.YtcpmmkennnjalaaZEulerKariza
import Derived.Test.YtcpmmkennnjalaaZEulerKarizh
import Derived.Test.YtcpmmkennnjalaaZEulerKaril
import Derived.Test.YtcpmmkennnjalaaZEulerKarize
import Derived.RangeFuncLeaves
import Derived.RangeFuncRecord
section
namespace Go.Proofs.Ytcpmmkennnjalaa.Q
open Go.RowKit Go.Proofs.YtcpmmkennnjalaaW.PrintWords Go.Proofs.YtcpmmkennnjalaaW.PrintLast Go.Proofs.YtcpmmkennnjalaaW.PrintMore
attribute [local go_sem] Oper.semAt_some
set_option linter.unusedVariables false
set_option linter.unusedSimpArgs false
/-! ### short.sets, the maker -/
/-! ### short.Shortest -/
theorem IF.start {w w1 : World} (h : Below w.heap.size w w1) : IF 34 25 w w1.heap.size (w1.heap.size + 1) (fun _ => False) ((w1.alloc (.cells #[.slice none 0 0] 34)).alloc (.cells #[.int .i64 0] 25)) (.slice none 0 0) (.int .i64 0) := by
  have hs := h.size
  refine ⟨(h.alloc hs _).alloc (by simp; omega) _, blk_alloc (World.alloc_heap_new _ _) _, ?_, id, id, hs, by omega⟩
  have := World.alloc_heap_new (w1.alloc (.cells #[.slice none 0 0] 34)) (.cells #[.int .i64 0] 25)
  rwa [World.size_alloc] at this
end Go.Proofs.Ytcpmmkennnjalaa.Q
end
