/- In any Eulerian automaton that has a reset word, whatever set of states, neither empty nor all, is led into by more states with a word of at most n - 1 letters, and its shortest reset word has at most n^2 - 3n + 3 letters; in any circular one at most (n - 1)^2. (At most 9 states) (text 24 of 42) -/
import Derived.Test.YtcpmmkennnjalaaZTopKariw
import Derived.Test.YtcpmmkennnjalaaZTopKarit
section
namespace Go.Proofs.Ytcpmmkennnjalaa.Pure
open Go.RowKit Go.Proofs.YtcpmmkennnjalaaW.PrintWords Go.Proofs.YtcpmmkennnjalaaW.PrintLast Go.Proofs.YtcpmmkennnjalaaW.PrintMore Go.Proofs.Ytcpmmkennnjalaa.Q
set_option linter.unusedVariables false
set_option linter.unusedSimpArgs false
theorem sumL_countP {α : Type} (p : α → Bool) : ∀ A : List α, ((A.countP p : Nat) : Int) = sumL A fun a => if p a = true then 1 else 0
  | [] => rfl
  | a :: A => by
    rw [List.countP_cons, Int.natCast_add, sumL_countP p A, sumL_cons]
    by_cases h : p a = true
    · rw [if_pos h, if_pos h]; omega
    · rw [if_neg h, if_neg h]; omega
theorem sumL_natSum {α : Type} (h : α → Nat) : ∀ A : List α, (((A.map h).sum : Nat) : Int) = sumL A fun a => ((h a : Nat) : Int)
  | [] => rfl
  | a :: A => by rw [List.map_cons, List.sum_cons, Int.natCast_add, sumL_natSum h A, sumL_cons]
section
variable {rows : List (List Int)} {n m : Nat} (V : VA rows n m)
include V
theorem inn_sumL (t : Nat) : ((inn rows t : Nat) : Int) = sumL (List.range n) fun s => sumL (List.range m) fun x => if nx rows s x = t then 1 else 0 := by
  rw [inn_count V t, sumL_natSum]
  refine sumL_congr fun s _ => ?_
  rw [sumL_countP]
  refine sumL_congr fun x _ => ?_
  by_cases h : nx rows s x = t
  · rw [if_pos h, if_pos (decide_eq_true h)]
  · rw [if_neg h, if_neg (by rw [decide_eq_false h]; exact Bool.false_ne_true)]
theorem eul_sum (h : ∀ t, t < n → inn rows t = m) (g : Nat → Int) : sumL (List.range n) (fun s => sumL (List.range m) fun x => g (nx rows s x)) = (m : Int) * sumL (List.range n) g := by
  have e1 : ∀ s ∈ List.range n, (sumL (List.range m) fun x => g (nx rows s x)) = sumL (List.range m) fun x => sumL (List.range n) fun t => g t * (if nx rows s x = t then 1 else 0) := fun s hs => sumL_congr fun x hx => by
    have hlt := V.nxLt (List.mem_range.1 hs) (List.mem_range.1 hx)
    rw [sumL_single hlt fun t _ hne => by rw [if_neg (fun e => hne e.symm), Int.mul_zero]]
    rw [if_pos rfl, Int.mul_one]
  rw [sumL_congr e1]
  have e2 : ∀ s ∈ List.range n, (sumL (List.range m) fun x => sumL (List.range n) fun t => g t * (if nx rows s x = t then 1 else 0)) = sumL (List.range n) fun t => sumL (List.range m) fun x => g t * (if nx rows s x = t then 1 else 0) := fun s _ => sumL_comm _ _ _
  rw [sumL_congr e2, sumL_comm, ← sumL_mul]
  refine sumL_congr fun t ht => ?_
  have e3 : ∀ s ∈ List.range n, (sumL (List.range m) fun x => g t * (if nx rows s x = t then 1 else 0)) = g t * sumL (List.range m) fun x => if nx rows s x = t then 1 else 0 := fun s _ => sumL_mul _ _ _
  rw [sumL_congr e3, sumL_mul, ← inn_sumL V t, h t (List.mem_range.1 ht), Int.mul_comm]
end
end Go.Proofs.Ytcpmmkennnjalaa.Pure
end
