/- The law ShortFinds holds: Shortest returns the first shortest reset word, or the documented error, for any automaton; no bound on the argument beyond its type's. (text 14 of 31) -/
import Derived.Test.YtogoppejcmaocaaZShortFindsm
import Derived.DeepKeys3
import Derived.Test.YtogoppejcmaocaaZShortFindsi
import Derived.Test.YtogoppejcmaocaaZShortFindsh
/-! Part XPairs -/
section
namespace Go.Proofs.Ytogoppejcmaocaa.Q
open Go.RowKit Go.Proofs.YtogoppejcmaocaaW.PrintWords Go.Proofs.YtogoppejcmaocaaW.PrintLast Go.Proofs.YtogoppejcmaocaaW.PrintMore
set_option linter.unusedVariables false
/-! ### maps whose keys are pairs -/
end Go.Proofs.Ytogoppejcmaocaa.Q
end
/-! Part XStep -/
section
namespace Go.Proofs.Ytogoppejcmaocaa.Q
open Go.RowKit Go.Proofs.YtogoppejcmaocaaW.PrintWords Go.Proofs.YtogoppejcmaocaaW.PrintLast Go.Proofs.YtogoppejcmaocaaW.PrintMore
set_option linter.unusedVariables false
set_option linter.unusedSimpArgs false
def step.T1 : Bool × List (List Nat × List Nat) := (true, [([], []), ([0], [0]), ([1], [1]), ([2], [2]), ([3], [3]), ([], []), ([5], [5]), ([4, 6], [4, 6]), ([7], [7]), ([], []), ([8, 9], [8, 9]), ([10], [10]), ([], []), ([12], [12]), ([13], [13]), ([14], [14]), ([15], [15]), ([], []), ([17], [17]), ([16, 18], [16, 18]), ([19], [19]), ([], []), ([20, 21], [20, 21]), ([22], [22]), ([11, 23], [11, 23]), ([24, 24, 0, 1, 2, 3, 4, 5, 6, 7, 8, 9, 10, 11, 12, 13, 14, 15, 16, 17, 18, 19, 20, 21, 22, 23, 24], [24])])
theorem step.tab1 : rtab .any (opsOf Try.f86 1) = step.T1 := by kernel_rfl
end Go.Proofs.Ytogoppejcmaocaa.Q
end
/-! Part XWord -/
section
namespace Go.Proofs.Ytogoppejcmaocaa.Q
open Go.RowKit Go.Proofs.YtogoppejcmaocaaW.PrintWords Go.Proofs.YtogoppejcmaocaaW.PrintLast Go.Proofs.YtogoppejcmaocaaW.PrintMore
set_option linter.unusedVariables false
set_option linter.unusedSimpArgs false
/-- A pair's number. -/
def lkP (x : Int × Int) (left : List ((Int × Int) × Int)) : Option Int := @List.lookup (Int × Int) Int instBEqOfDecidableEq x left
def inP (n : Nat) (p q : Int) : Bool := decide (0 ≤ p ∧ p < n ∧ 0 ≤ q ∧ q < n)
end Go.Proofs.Ytogoppejcmaocaa.Q
end
/-! Part XNearest -/
section
namespace Go.Proofs.Ytogoppejcmaocaa.Q
open Go.RowKit Go.Proofs.YtogoppejcmaocaaW.PrintWords Go.Proofs.YtogoppejcmaocaaW.PrintLast Go.Proofs.YtogoppejcmaocaaW.PrintMore
set_option linter.unusedVariables false
set_option linter.unusedSimpArgs false
end Go.Proofs.Ytogoppejcmaocaa.Q
end
/-! Part XMergerF -/
section
namespace Go.Proofs.Ytogoppejcmaocaa.Q
open Go.RowKit Go.Proofs.YtogoppejcmaocaaW.PrintWords Go.Proofs.YtogoppejcmaocaaW.PrintLast Go.Proofs.YtogoppejcmaocaaW.PrintMore
set_option linter.unusedVariables false
/-! ### newMerger, as a function -/
/-- m.left[c] = d. -/
def putL (c : Int × Int) (d : Int) (left : List ((Int × Int) × Int)) : List ((Int × Int) × Int) := if (lkP c left).isSome then left.map (fun e => if e.1 = c then (c, d) else e) else left ++ [(c, d)]
/-- The pairs that a letter leads to a pair. -/
def lkB (c : Int × Int) (before : List ((Int × Int) × List (Int × Int))) : Option (List (Int × Int)) := @List.lookup (Int × Int) (List (Int × Int)) instBEqOfDecidableEq c before
/-- before[c] = append(before[c], x). -/
def addB (c x : Int × Int) (before : List ((Int × Int) × List (Int × Int))) : List ((Int × Int) × List (Int × Int)) := if (lkB c before).isSome then before.map (fun e => if e.1 = c then (c, e.2 ++ [x]) else e) else before ++ [(c, [x])]
def rdP (l : List (Int × Int)) (i : Int) : Int × Int := l.getD i.toNat (0, 0)
mutual
def newMerger.b0 : Nat → List ((Int × Int) × Int) → List ((Int × Int) × List (Int × Int)) → List (Int × Int) → Int → Option (List ((Int × Int) × Int))
 | 0, _, _, _, _ => none
 | k + 1, left, before, list, i => if i < (list.length : Int) then (if 0 ≤ i then newMerger.b1 k left before list i ((lkB (rdP list i) before).getD []) 0 else none) else some left
def newMerger.b1 : Nat → List ((Int × Int) × Int) → List ((Int × Int) × List (Int × Int)) → List (Int × Int) → Int → List (Int × Int) → Int → Option (List ((Int × Int) × Int))
 | 0, _, _, _, _, _, _ => none
 | k + 1, left, before, list, i, cs, j => if j < (cs.length : Int) then (if 0 ≤ j then (if (lkP (rdP cs j) left).isSome = true then newMerger.b1 k left before list i cs (wrap64 (j + 1)) else (if i < (list.length : Int) then (if list.length < 8796093022208 then newMerger.b1 k (putL (rdP cs j) (wrap64 ((lkP (rdP list i) left).getD 0 + 1)) left) before (list ++ [rdP cs j]) i cs (wrap64 (j + 1)) else none) else none)) else none) else newMerger.b0 k left before list (wrap64 (i + 1))
end
mutual
def newMerger.l0 : Nat → List (List Int) → List ((Int × Int) × Int) → List ((Int × Int) × List (Int × Int)) → List (Int × Int) → Int → Option (List ((Int × Int) × Int))
 | 0, _, _, _, _, _ => none
 | k + 1, rows, left, before, list, p => if p < (rows.length : Int) then (if inP rows.length p p = true then (if list.length < 8796093022208 then newMerger.l1 k rows (putL (p, p) 0 left) before (list ++ [(p, p)]) p (wrap64 (p + 1)) else none) else none) else newMerger.b0 k left before list 0
def newMerger.l1 : Nat → List (List Int) → List ((Int × Int) × Int) → List ((Int × Int) × List (Int × Int)) → List (Int × Int) → Int → Int → Option (List ((Int × Int) × Int))
 | 0, _, _, _, _, _, _ => none
 | k + 1, rows, left, before, list, p, q => if q < (rows.length : Int) then newMerger.l2 k rows left before list p q 0 else newMerger.l0 k rows left before list (wrap64 (p + 1))
def newMerger.l2 : Nat → List (List Int) → List ((Int × Int) × Int) → List ((Int × Int) × List (Int × Int)) → List (Int × Int) → Int → Int → Int → Option (List ((Int × Int) × Int))
 | 0, _, _, _, _, _, _, _ => none
 | k + 1, rows, left, before, list, p, q, x => if x < ((rd_L1 rows 0).length : Int) then (if 0 ≤ x then (if inP rows.length p q = true then (if x < ((rd_L1 rows p).length : Int) then (if x < ((rd_L1 rows q).length : Int) then ((reset_of.f (rd (rd_L1 rows p) x) (rd (rd_L1 rows q) x)).bind fun c2 =>
   if inP rows.length c2.1 c2.2 = true then (if ((lkB c2 before).getD []).length < 8796093022208 then newMerger.l2 k rows left (addB c2 (p, q) before) list p q (wrap64 (x + 1)) else none) else none) else none) else none) else none) else none) else newMerger.l1 k rows left before list p (wrap64 (q + 1))
end
def newMerger.f (k : Nat) (rows : List (List Int)) : Option (List ((Int × Int) × Int)) := newMerger.l0 k rows [] [] [] 0
end Go.Proofs.Ytogoppejcmaocaa.Q
end
