/- The law ShortFinds holds: Shortest returns the first shortest reset word, or the documented error, for any automaton; no bound on the argument beyond its type's. (text 26 of 31) -/
import Derived.Test.YtogoppejcmaocaaZShortFindsj
import Derived.Test.YtogoppejcmaocaaZShortFindsy
/-! Part StmtShortFinds -/
section
-- Written by xrow.py, a program of this session's. Lean checks it.
namespace Go.Proofs.Ytogoppejcmaocaa.Q
/-- What is left to prove of the law ShortFinds. -/
def mizmazelaw04_ShortFinds.Pure : Prop := ∀ (l0_0 : List (List Int)), RowsOk l0_0 → ∃ k, mizmazelaw04_ShortFinds.f k l0_0 = some true
end Go.Proofs.Ytogoppejcmaocaa.Q
end
/-! Part MAwake4 -/
section
namespace Go.Proofs.Ytogoppejcmaocaa.Q
open Go.RowKit Go.Proofs.YtogoppejcmaocaaW.PrintWords Go.Proofs.YtogoppejcmaocaaW.PrintLast Go.Proofs.YtogoppejcmaocaaW.PrintMore
set_option maxRecDepth 100000 in
theorem awake4 : Ev (fun k => mizmazelaw04_awake.f k) true := Ev.of (k := 60) (fun k => mizmazelaw04_awake.mono k) (by kernel_rfl)
theorem awake4_end : Ev (fun k => (mizmazelaw04_awake.f k).bind fun t => some t) true := Ev.bind awake4 (Ev.now _)
end Go.Proofs.Ytogoppejcmaocaa.Q
end
