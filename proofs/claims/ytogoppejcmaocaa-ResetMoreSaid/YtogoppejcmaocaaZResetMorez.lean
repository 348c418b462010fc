/- A reset word that Reset returns, with any letters before it and after it, leads all states to one, for any automaton and words. (text 26 of 29) -/
import Derived.Test.YtogoppejcmaocaaZResetMoreh
import Derived.Test.YtogoppejcmaocaaZResetMorey
/-! Part MAwake3 -/
section
namespace Go.Proofs.Ytogoppejcmaocaa.Q
open Go.RowKit Go.Proofs.YtogoppejcmaocaaW.PrintWords Go.Proofs.YtogoppejcmaocaaW.PrintLast Go.Proofs.YtogoppejcmaocaaW.PrintMore
set_option maxRecDepth 100000 in
theorem awake3 : Ev (fun k => mizmazelaw03_awake.f k) true := Ev.of (k := 120) (fun k => mizmazelaw03_awake.mono k) (by kernel_rfl)
theorem awake3_end : Ev (fun k => (mizmazelaw03_awake.f k).bind fun t => some t) true := Ev.bind awake3 (Ev.now _)
end Go.Proofs.Ytogoppejcmaocaa.Q
end
