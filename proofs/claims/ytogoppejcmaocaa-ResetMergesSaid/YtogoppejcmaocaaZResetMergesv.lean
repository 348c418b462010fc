/- What Merge and Apart return is what the reference says: the first shortest word that merges two states, and the pairs that no word merges, in order, for any automaton and states. (text 22 of 25) -/
import Derived.Test.YtogoppejcmaocaaZResetMergesi
import Derived.Test.YtogoppejcmaocaaZResetMergesu
/-! Part MAwake3 -/
section
namespace Go.Proofs.Ytogoppejcmaocaa.Q
open Go.RowKit Go.Proofs.YtogoppejcmaocaaW.PrintWords Go.Proofs.YtogoppejcmaocaaW.PrintLast Go.Proofs.YtogoppejcmaocaaW.PrintMore
set_option maxRecDepth 100000 in
theorem awake3 : Ev (fun k => mizmazelaw03_awake.f k) true := Ev.of (k := 120) (fun k => mizmazelaw03_awake.mono k) (by kernel_rfl)
theorem awake3_end : Ev (fun k => (mizmazelaw03_awake.f k).bind fun t => some t) true := Ev.bind awake3 (Ev.now _)
end Go.Proofs.Ytogoppejcmaocaa.Q
end
