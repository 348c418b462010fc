/- Reset returns a reset word of at most (n^3 - n) / 6 letters, or the documented error, for any automaton. (text 22 of 26) -/
import Derived.Test.YtogoppejcmaocaaZResetFindsi
import Derived.Test.YtogoppejcmaocaaZResetFindsu
/-! Part StmtResetFinds -/
section
-- Written by xrow.py, a program of this session's. Lean checks it.
namespace Go.Proofs.Ytogoppejcmaocaa.Q
/-- What is left to prove of the law ResetFinds. -/
def mizmazelaw03_ResetFinds.Pure : Prop := ∀ (l0_0 : List (List Int)), RowsOk l0_0 → ∃ k, mizmazelaw03_ResetFinds.f k l0_0 = some true
end Go.Proofs.Ytogoppejcmaocaa.Q
end
/-! Part MAwake3 -/
section
namespace Go.Proofs.Ytogoppejcmaocaa.Q
open Go.RowKit Go.Proofs.YtogoppejcmaocaaW.PrintWords Go.Proofs.YtogoppejcmaocaaW.PrintLast Go.Proofs.YtogoppejcmaocaaW.PrintMore
set_option maxRecDepth 100000 in
theorem awake3 : Ev (fun k => mizmazelaw03_awake.f k) true := Ev.of (k := 120) (fun k => mizmazelaw03_awake.mono k) (by kernel_rfl)
theorem awake3_end : Ev (fun k => (mizmazelaw03_awake.f k).bind fun t => some t) true := Ev.bind awake3 (Ev.now _)
end Go.Proofs.Ytogoppejcmaocaa.Q
end
