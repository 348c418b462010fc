/- Universal returns a word that visits all rooms of every connected maze of a size, or the documented error, for all numbers of rooms and doors; it is proved for every input, without conditions. (text 20 of 21) -/
import Derived.Test.YtgbjbgdnldklpaaZMazeUniversalj
import Derived.Test.YtgbjbgdnldklpaaZMazeUniversalr
import Derived.Test.YtgbjbgdnldklpaaZMazeUniversals
import Derived.Test.YtgbjbgdnldklpaaZMazeUniversalq
/-! Part StmtMazeUniversal -/
section
-- Written by xrow.py, a program of this session's. Lean checks it.
namespace Go.Proofs.Ytgbjbgdnldklpaa.Q
/-- What is left to prove of the law MazeUniversal. -/
def mizmazelaw10_MazeUniversal.Pure : Prop := ∀ (a0 : Int), ∀ (a1 : Int), (-9223372036854775808 ≤ a0 ∧ a0 ≤ 9223372036854775807) → (-9223372036854775808 ≤ a1 ∧ a1 ≤ 9223372036854775807) → ∃ k, mizmazelaw10_MazeUniversal.f k a0 a1 = some true
end Go.Proofs.Ytgbjbgdnldklpaa.Q
end
/-! Part PureMazeUniversal -/
section
namespace Go.Proofs.Ytgbjbgdnldklpaa.Pure
open Go.RowKit Go.Proofs.YtgbjbgdnldklpaaW.PrintWords Go.Proofs.YtgbjbgdnldklpaaW.PrintLast Go.Proofs.YtgbjbgdnldklpaaW.PrintMore Go.Proofs.Ytgbjbgdnldklpaa.Q
set_option linter.unusedVariables false
set_option linter.unusedSimpArgs false
theorem universal_bad {a0 a1 : Int} (h : ¬ fitsP a0 a1) : Ev (fun k => maze_Universal.f k a0 a1) ([], 2) := by
  refine Ev.congr (f := fun _ => some ([], 2)) (fun k => ?_) (Ev.now _)
  unfold maze_Universal.f
  rw [asks_bad h]
  simp only [Option.bind_some, show ¬ (2 : Int) = 0 by decide, if_false]
theorem MazeUniversal : Q.mizmazelaw10_MazeUniversal.Pure := by
  intro a0 a1 ha0 ha1
  refine Ev.rounds (g := fun k => mizmazelaw10_MazeUniversal.f k a0 a1) ?_
  unfold mizmazelaw10_MazeUniversal.f
  by_cases hf : fitsP a0 a1
  · obtain ⟨n, d, rfl, rfl, hn, hd, h6, hN⟩ := fits_nat hf
    obtain ⟨w, hw, hl, hU, hE⟩ := univ_word hn hd h6 hN
    refine Ev.bind hE ?_
    simp only [fits_good hf, Option.bind_some, if_true]
    refine Ev.bind (ref_word10 (d : Int) (toI w)) ?_
    rw [decide_eq_true (show (toI w).length ≤ 40000 by rw [toI_len]; omega), Bool.true_and, inB_toI.2 hw]
    simp only [if_true]
    rw [decide_eq_false (show ¬ ((toI w).length : Int) > 500 by rw [toI_len]; omega)]
    refine Ev.next ?_
    simp only [mizmazelaw10_MazeUniversal.j0, Bool.false_eq_true, if_false]
    by_cases g : wrap64 ((n : Int) * (d : Int)) > 9
    · simp only [if_pos g]; exact awake10_end
    · simp only [if_neg g]
      obtain ⟨b, h1, h2⟩ := ref_check hn hd h6 hN hw (by omega)
      refine Ev.bind h1 ?_
      rw [h2.2 hU]
      simp only [if_true]
      exact awake10_end
  · refine Ev.bind (universal_bad hf) ?_
    simp only [fits_bad hf, Option.bind_some, Bool.false_eq_true, if_false, if_true, List.length_nil, Int.natCast_zero]
    exact awake10_end
end Go.Proofs.Ytgbjbgdnldklpaa.Pure
end
