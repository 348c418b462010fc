/- No word leads from all states to fewer states than the rank; a reset word is not shorter than the shortest one and does not come before it; the rank is 1 exactly if there is a reset word, for any automaton and word. (text 27 of 35) -/
import Derived.Test.YtogoppejcmaocaaZShortLeasti
import Derived.Test.YtogoppejcmaocaaZShortLeastz
/-! Part MAwake4 -/
section
namespace Go.Proofs.Ytogoppejcmaocaa.Q
open Go.RowKit Go.Proofs.YtogoppejcmaocaaW.PrintWords Go.Proofs.YtogoppejcmaocaaW.PrintLast Go.Proofs.YtogoppejcmaocaaW.PrintMore
set_option maxRecDepth 100000 in
theorem awake4 : Ev (fun k => mizmazelaw04_awake.f k) true := Ev.of (k := 60) (fun k => mizmazelaw04_awake.mono k) (by kernel_rfl)
theorem awake4_end : Ev (fun k => (mizmazelaw04_awake.f k).bind fun t => some t) true := Ev.bind awake4 (Ev.now _)
end Go.Proofs.Ytogoppejcmaocaa.Q
end
