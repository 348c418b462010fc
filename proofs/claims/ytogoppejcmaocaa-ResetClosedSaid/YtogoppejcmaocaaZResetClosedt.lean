/- The law ResetClosed holds: there is a reset word if and only if Apart is empty, each letter leads the states of a pair of Apart to the two states of a pair of Apart, and Merge of two different states returns ErrNone for these pairs alone; no bound on the arguments beyond their types'. (text 20 of 26) -/
import Derived.Test.YtogoppejcmaocaaZResetClosedh
import Derived.Test.YtogoppejcmaocaaZResetCloseds
import Derived.Test.YtogoppejcmaocaaZResetClosedr
/-! Part StmtResetClosed -/
section
-- Written by xrow.py, a program of this session's. Lean checks it.
namespace Go.Proofs.Ytogoppejcmaocaa.Q
/-- What is left to prove of the law ResetClosed. -/
def mizmazelaw03_ResetClosed.Pure : Prop := ∀ (l0_0 : List (List Int)), ∀ (a1 : Int), ∀ (a2 : Int), RowsOk l0_0 → (-9223372036854775808 ≤ a1 ∧ a1 ≤ 9223372036854775807) → (-9223372036854775808 ≤ a2 ∧ a2 ≤ 9223372036854775807) → ∃ k, mizmazelaw03_ResetClosed.f k l0_0 a1 a2 = some true
end Go.Proofs.Ytogoppejcmaocaa.Q
end
/-! Part MAwake3 -/
section
namespace Go.Proofs.Ytogoppejcmaocaa.Q
open Go.RowKit Go.Proofs.YtogoppejcmaocaaW.PrintWords Go.Proofs.YtogoppejcmaocaaW.PrintLast Go.Proofs.YtogoppejcmaocaaW.PrintMore
set_option maxRecDepth 100000 in
theorem awake3 : Ev (fun k => mizmazelaw03_awake.f k) true := Ev.of (k := 120) (fun k => mizmazelaw03_awake.mono k) (by kernel_rfl)
theorem awake3_end : Ev (fun k => (mizmazelaw03_awake.f k).bind fun t => some t) true := Ev.bind awake3 (Ev.now _)
end Go.Proofs.Ytogoppejcmaocaa.Q
end
