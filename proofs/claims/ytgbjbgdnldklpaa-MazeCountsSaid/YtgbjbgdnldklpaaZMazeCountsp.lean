/- The law MazeCounts holds: Mazes returns how many mazes there are and how many are connected, or the documented error, as the reference counts them; no bound on the arguments beyond their types'. (text 16 of 17) -/
import Derived.Test.YtgbjbgdnldklpaaZMazeCountsj
import Derived.Test.YtgbjbgdnldklpaaZMazeCountso
/-! Part StmtMazeCounts -/
section
-- Written by xrow.py, a program of this session's. Lean checks it.
namespace Go.Proofs.Ytgbjbgdnldklpaa.Q
/-- What is left to prove of the law MazeCounts. -/
def mizmazelaw10_MazeCounts.Pure : Prop := ∀ (a0 : Int), ∀ (a1 : Int), (-9223372036854775808 ≤ a0 ∧ a0 ≤ 9223372036854775807) → (-9223372036854775808 ≤ a1 ∧ a1 ≤ 9223372036854775807) → ∃ k, mizmazelaw10_MazeCounts.f k a0 a1 = some true
end Go.Proofs.Ytgbjbgdnldklpaa.Q
end
/-! Part PureMazeCounts -/
section
namespace Go.Proofs.Ytgbjbgdnldklpaa.Pure
open Go.RowKit Go.Proofs.YtgbjbgdnldklpaaW.PrintWords Go.Proofs.YtgbjbgdnldklpaaW.PrintLast Go.Proofs.YtgbjbgdnldklpaaW.PrintMore Go.Proofs.Ytgbjbgdnldklpaa.Q
set_option linter.unusedVariables false
set_option linter.unusedSimpArgs false
theorem MazeCounts : Q.mizmazelaw10_MazeCounts.Pure := by
  intro a0 a1 ha0 ha1
  refine Ev.rounds (g := fun k => mizmazelaw10_MazeCounts.f k a0 a1) ?_
  unfold mizmazelaw10_MazeCounts.f
  by_cases hf : fitsP a0 a1
  · have hfits := fits_good hf
    obtain ⟨n, d, rfl, rfl, hn, hd, h6, hN⟩ := fits_nat hf
    have hlen := enum_many (n * d)
    have hT := manyT_le (n * d) hN
    have hN1 : 1 ≤ n * d := Nat.mul_pos hn hd
    have hgood : ∀ τ ∈ enumE (n * d) noneP 0, EnZ n d (roomsP d τ) ∧ (seenF n d false [] τ).2 = true ∧ ((seenF n d false [] τ).1 = true ↔ Cs (roomsP d τ) n d) := fun τ hτ =>
      ⟨en_of hd hN (enum_tot _ 0 noneP (by omega) (part_none _) (fun i hi => by omega) τ hτ), vB_iff.2 fun h => (by cases h), cB_iff⟩
    have h1 := count_ev hn (enumE (n * d) noneP 0) 0 0 hgood
    have h2 := each_ev hn hd h6 hN false [] (fun h => by cases h) (by simp) 0 0
    obtain ⟨h3, h4⟩ := seeL_all (F := seenF n d false []) (enumE (n * d) noneP 0) 0 0 (fun τ hτ => (hgood τ hτ).2.1) (by omega)
    rw [hlen, Nat.zero_add] at h4
    have h4' : (seeL (seenF n d false []) (enumE (n * d) noneP 0) 0 0).2.1 = ((manyT (n * d) : Nat) : Int) := h4
    generalize seeL (seenF n d false []) (enumE (n * d) noneP 0) 0 0 = R at h1 h2 h4'
    have hM : Ev (fun k => maze_Mazes.f k (n : Int) (d : Int)) (R.2.1, R.2.2, 0) := by
      unfold maze_Mazes.f
      rw [asks_ok hn hd h6 hN]
      simp only [Option.bind_some, if_true]
      exact Ev.bind (all_ev hd hN) (Ev.bind h1 (Ev.now _))
    have hR : Ev (fun k => mizmazeref10_Mazes.f k (n : Int) (d : Int)) (R.2.1, R.2.2) := Ev.bind h2 (Ev.now _)
    have e2 : wrap64 ((n : Int) * (d : Int)) = ((n * d : Nat) : Int) := by
      rw [← Int.natCast_mul, wrapI (by omega) (by omega)]
    refine Ev.bind hM ?_
    simp only [hfits, Option.bind_some, if_true]
    refine Ev.bind hR ?_
    simp only [if_true, e2]
    refine Ev.bind (many_ev hN1 hN) ?_
    simp only [if_pos h4']
    exact awake10_end
  · have hM : Ev (fun k => maze_Mazes.f k a0 a1) (0, 0, 2) := by
      unfold maze_Mazes.f
      rw [asks_bad hf]
      simp only [Option.bind_some, show ¬ (2 : Int) = 0 by decide, if_false]
      exact Ev.now _
    refine Ev.bind hM ?_
    simp only [fits_bad hf, Option.bind_some, Bool.false_eq_true, if_false, if_true]
    exact awake10_end
end Go.Proofs.Ytgbjbgdnldklpaa.Pure
end
