/- Part of the proof of TopRoad (text 24 of 33) -/
import Derived.Test.YtjgdalhdiohclaaZTopRoadw
import Derived.Test.YtjgdalhdiohclaaZTopRoadl
import Derived.Test.YtjgdalhdiohclaaZTopRoadg
import Derived.Test.YtjgdalhdiohclaaZTopRoadh
set_option linter.unusedVariables false
set_option linter.unusedSimpArgs false
set_option linter.unusedSectionVars false
set_option maxRecDepth 100000
set_option maxHeartbeats 1000000
open Go.RowKit Go.Proofs.YtjgdalhdiohclaaW.PrintWords Go.Proofs.YtjgdalhdiohclaaW.PrintLast Go.Proofs.YtjgdalhdiohclaaW.PrintMore
section
namespace Go.Proofs.Ytjgdalhdiohclaa.Q
def insI (x : Int) : List Int → List Int
 | [] => [x]
 | y :: l => if x ≤ y then x :: y :: l else y :: insI x l
def isort : List Int → List Int
 | [] => []
 | x :: l => insI x (isort l)
theorem insI_perm (x : Int) : ∀ l, (insI x l).Perm (x :: l)
 | [] => List.Perm.refl _
 | y :: l => by
  unfold insI
  split
  ·exact List.Perm.refl _
  ·exact ((insI_perm x l).cons y).trans (List.Perm.swap x y l)
theorem isort_perm : ∀ l, (isort l).Perm l
 | [] => List.Perm.refl _
 | x :: l => (insI_perm x _).trans ((isort_perm l).cons x)
theorem insI_sorted (x : Int) : ∀ l, l.Pairwise (· ≤ ·) → (insI x l).Pairwise (· ≤ ·)
 | [], _ => by simp [insI]
 | y :: l, h => by
  obtain ⟨h1, h2⟩ := List.pairwise_cons.1 h
  unfold insI
  split
  ·next hxy => exact List.pairwise_cons.2 ⟨fun a ha => by rcases List.mem_cons.1 ha with rfl | ha; exact hxy; exact Int.le_trans hxy (h1 a ha), h⟩
  ·next hxy => exact List.pairwise_cons.2 ⟨fun a ha => by rcases List.mem_cons.1 ((insI_perm x l).mem_iff.1 ha) with rfl | ha; omega; exact h1 a ha, insI_sorted x l h2⟩
theorem isort_sorted : ∀ l, (isort l).Pairwise (· ≤ ·)
 | [] => List.Pairwise.nil
 | x :: l => insI_sorted x _ (isort_sorted l)
theorem isort_eq (l : List Int) : l.mergeSort (fun x y => decide (x ≤ y)) = isort l := by
 have h := List.pairwise_mergeSort (le := fun x y : Int => decide (x ≤ y)) (fun a b c h1 h2 => by simp at *; omega) (fun a b => by simp; omega) l
 refine List.Perm.eq_of_pairwise (le := (· ≤ ·)) (fun a b _ _ h1 h2 => Int.le_antisymm h1 h2) (h.imp fun h => by simpa using h) (isort_sorted l) ((List.mergeSort_perm l _).trans (isort_perm l).symm)
def color_sorted.f (l0 : List Int) : Option (List Int) := if l0.length < 17592186044416 then some (isort l0) else none
theorem color_sorted.calls (A0 : Option Addr) (c0 : Nat) (l0 : List Int) (r : List Int) (w : World) (hr0 : Kd.C (Kd.int .i64) w A0 l0.length l0) (hc0 : l0.length ≤ c0) (h : color_sorted.f l0 = some r) :
  Calls Try.prog 82 #[.slice A0 l0.length c0] w fun e w' => ∃ v0_ : Value, e = .returned v0_ ∧ Kd.R (Kd.int .i64) 3 w' w.heap.size (fun _ => True) v0_ r ∧ Below w.heap.size w w' := by
 unfold color_sorted.f at h
 by_cases d : l0.length < 17592186044416
 ·rw [if_pos d] at h
  obtain rfl := Option.some.inj h
  have D := am (show l0.length < 4611686018427387904 by omega)
  have HF := am (show slices_Clone_int_int.f l0 = some l0 by unfold slices_Clone_int_int.f; rw [if_pos d])
  have HI := isort_eq l0
  have HR := am hr0
  have HC := am hc0
  clear h d hr0 hc0
  go_enter Try.func82, Try.ntmps82
  go_wp2_with (first | (go_at_call 66; refine (slices_Clone_int_int.calls _ _ l0 l0 _ HR.out HC.out HF.out).mono ?_; rintro e w1 ⟨v1, rfl, hO, hb⟩; have HO := am hO; have HB := am hb; clear hO hb)  | (go_at_call 76; refine (sort_R HO.out D.out).mono ?_; rintro e w2 ⟨rfl, hO2, hg⟩; have HB2 := am (pw_below_grown HB.out v1.ownBlock HB.out.size hg (fun k hk => Kd.R_base HO.out k hk)); have HO2 := am hO2; clear hO2 hg))
  go_ret
  exact ⟨_, rfl, HI ▸ HO2.out, HB2.out⟩
 ·rw [if_neg d] at h; cases h
end Go.Proofs.Ytjgdalhdiohclaa.Q
end
section
namespace Go.Proofs.Ytjgdalhdiohclaa.Q
attribute [local go_sem] max2_int min2_int max_two min_two max_three min_three max_four min_four
end Go.Proofs.Ytjgdalhdiohclaa.Q
end
