/- The law ShortRanks holds: Rank returns the least number of states to which a word leads, and the first shortest word that leads to no more, or the documented error, for any automaton; no bound on the argument beyond its type's. (text 12 of 30) -/
import Derived.Test.YtogoppejcmaocaaZShortRanksk
import Derived.DeepKeys3
import Derived.Test.YtogoppejcmaocaaZShortRanksg
/-! Part XPairs -/
section
namespace Go.Proofs.Ytogoppejcmaocaa.Q
open Go.RowKit Go.Proofs.YtogoppejcmaocaaW.PrintWords Go.Proofs.YtogoppejcmaocaaW.PrintLast Go.Proofs.YtogoppejcmaocaaW.PrintMore
set_option linter.unusedVariables false
/-! ### maps whose keys are pairs -/
end Go.Proofs.Ytogoppejcmaocaa.Q
end
/-! Part XStep -/
section
namespace Go.Proofs.Ytogoppejcmaocaa.Q
open Go.RowKit Go.Proofs.YtogoppejcmaocaaW.PrintWords Go.Proofs.YtogoppejcmaocaaW.PrintLast Go.Proofs.YtogoppejcmaocaaW.PrintMore
set_option linter.unusedVariables false
set_option linter.unusedSimpArgs false
def step.T1 : Bool × List (List Nat × List Nat) := (true, [([], []), ([0], [0]), ([1], [1]), ([2], [2]), ([3], [3]), ([], []), ([5], [5]), ([4, 6], [4, 6]), ([7], [7]), ([], []), ([8, 9], [8, 9]), ([10], [10]), ([], []), ([12], [12]), ([13], [13]), ([14], [14]), ([15], [15]), ([], []), ([17], [17]), ([16, 18], [16, 18]), ([19], [19]), ([], []), ([20, 21], [20, 21]), ([22], [22]), ([11, 23], [11, 23]), ([24, 24, 0, 1, 2, 3, 4, 5, 6, 7, 8, 9, 10, 11, 12, 13, 14, 15, 16, 17, 18, 19, 20, 21, 22, 23, 24], [24])])
theorem step.tab1 : rtab .any (opsOf Try.f86 1) = step.T1 := by kernel_rfl
end Go.Proofs.Ytogoppejcmaocaa.Q
end
/-! Part XWord -/
section
namespace Go.Proofs.Ytogoppejcmaocaa.Q
open Go.RowKit Go.Proofs.YtogoppejcmaocaaW.PrintWords Go.Proofs.YtogoppejcmaocaaW.PrintLast Go.Proofs.YtogoppejcmaocaaW.PrintMore
set_option linter.unusedVariables false
set_option linter.unusedSimpArgs false
end Go.Proofs.Ytogoppejcmaocaa.Q
end
/-! Part XNearest -/
section
namespace Go.Proofs.Ytogoppejcmaocaa.Q
open Go.RowKit Go.Proofs.YtogoppejcmaocaaW.PrintWords Go.Proofs.YtogoppejcmaocaaW.PrintLast Go.Proofs.YtogoppejcmaocaaW.PrintMore
set_option linter.unusedVariables false
set_option linter.unusedSimpArgs false
end Go.Proofs.Ytogoppejcmaocaa.Q
end
/-! Part XMergerF -/
section
namespace Go.Proofs.Ytogoppejcmaocaa.Q
open Go.RowKit Go.Proofs.YtogoppejcmaocaaW.PrintWords Go.Proofs.YtogoppejcmaocaaW.PrintLast Go.Proofs.YtogoppejcmaocaaW.PrintMore
set_option linter.unusedVariables false
/-! ### newMerger, as a function -/
/-- The pairs that a letter leads to a pair. -/
def lkB (c : Int × Int) (before : List ((Int × Int) × List (Int × Int))) : Option (List (Int × Int)) := @List.lookup (Int × Int) (List (Int × Int)) instBEqOfDecidableEq c before
/-- before[c] = append(before[c], x). -/
def addB (c x : Int × Int) (before : List ((Int × Int) × List (Int × Int))) : List ((Int × Int) × List (Int × Int)) := if (lkB c before).isSome then before.map (fun e => if e.1 = c then (c, e.2 ++ [x]) else e) else before ++ [(c, [x])]
end Go.Proofs.Ytogoppejcmaocaa.Q
end
