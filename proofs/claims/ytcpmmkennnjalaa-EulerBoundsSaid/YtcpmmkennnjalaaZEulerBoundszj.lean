/- The length of the shortest reset word of an automaton of at most MaxSmall states is at most Bound; the word that Reset returns has at most (n^3 - n) / 6 letters, and Bound does not say more. (text 36 of 37) -/
import Derived.Test.YtcpmmkennnjalaaZEulerBoundsh
import Derived.Test.YtcpmmkennnjalaaZEulerBoundszi
import Derived.Test.YtcpmmkennnjalaaZEulerBoundszh
import Derived.Test.YtcpmmkennnjalaaZEulerBoundsze
section
-- Written by xrow.py, a program of this session's. Lean checks it.
namespace Go.Proofs.Ytcpmmkennnjalaa.Q
/-- What is left to prove of the law EulerBounds. -/
def mizmazelaw06_EulerBounds.Pure : Prop := ∀ (l0_0 : List (List Int)), RowsOk l0_0 → ∃ k, mizmazelaw06_EulerBounds.f k l0_0 = some true
end Go.Proofs.Ytcpmmkennnjalaa.Q
end
section
namespace Go.Proofs.Ytcpmmkennnjalaa.Pure
open Go.RowKit Go.Proofs.YtcpmmkennnjalaaW.PrintWords Go.Proofs.YtcpmmkennnjalaaW.PrintLast Go.Proofs.YtcpmmkennnjalaaW.PrintMore Go.Proofs.Ytcpmmkennnjalaa.Q
set_option linter.unusedVariables false
set_option linter.unusedSimpArgs false
theorem EulerBounds : Q.mizmazelaw06_EulerBounds.Pure := by
  intro rows ho
  refine Ev.rounds (g := fun k => mizmazelaw06_EulerBounds.f k rows) ?_
  unfold mizmazelaw06_EulerBounds.f
  have aw : Ev (fun k => (mizmazelaw06_awake.f k).bind fun t => some t) true := Ev.bind awake6 (Ev.now _)
  refine Ev.bind (ref_valid rows ho) ?_
  cases hv : validB rows with
  | false => simp only [Bool.false_eq_true, if_false]; exact aw
  | true =>
    have V := VA.of' hv
    generalize hn : rows.length = n at V
    generalize hm : (rd_L1 rows 0).length = m at V
    have h60 := V.n60
    have hn0 := V.n0
    simp only [if_true, hn]
    rcases bound_val V with ⟨w, z, v, hw, hall, hR, hlw, hz, hzall, hzl, hB, hmost⟩ | ⟨hR, hB, hno⟩
    · refine Ev.bind hB (Ev.bind hR ?_)
      have hme := most_eq h60
      have hlm : w.length ≤ (n * n * n - n) / 6 := by
        obtain ⟨z, h1, h2⟩ := most_val h60 hn0 hlw
        rw [hme] at h1
        obtain rfl := Option.some.inj h1
        omega
      simp only [if_true, hme, Option.bind_some, toI_len, if_neg (show ¬ (w.length : Int) > (((n * n * n - n) / 6 : Nat) : Int) by omega)]
      have last : Ev (fun k => mizmazelaw06_EulerBounds.j0 k (n : Int) (v : Int) 0 false rows) true := by
        refine Ev.next ?_
        simp only [mizmazelaw06_EulerBounds.j0, Bool.false_eq_true, if_false]
        by_cases h12 : (n : Int) > 12
        · simp only [if_pos h12]; exact aw
        · simp only [if_neg h12]
          rcases short_val V (by omega) with ⟨u, hu, hua, hum, hS⟩ | ⟨hno, hS⟩
          · refine Ev.bind hS ?_
            have := hum z hz hzall
            simp only [if_true, toI_len, if_pos (show (u.length : Int) ≤ (v : Int) by omega)]
            exact aw
          · exact absurd hall (hno w hw)
      by_cases h1 : (n : Int) > 1
      · have hmv := hmost (by omega)
        simp only [if_pos h1, decide_eq_false (show ¬ (v : Int) > (((n * n * n - n) / 6 : Nat) : Int) by omega)]
        exact last
      · simp only [if_neg h1]
        exact last
    · refine Ev.bind hB (Ev.bind hR ?_)
      simp only [if_true, show ¬ ((4 : Int) = 0) by omega, if_false]
      refine Ev.next ?_
      simp only [mizmazelaw06_EulerBounds.j0, Bool.false_eq_true, if_false]
      by_cases h12 : (n : Int) > 12
      · simp only [if_pos h12]; exact aw
      · simp only [if_neg h12]
        rcases short_val V (by omega) with ⟨u, hu, hua, hum, hS⟩ | ⟨hno, hS⟩
        · exact absurd hua (hno u hu)
        · refine Ev.bind hS ?_
          simp only [if_true, show ¬ ((4 : Int) = 0) by omega, if_false]
          exact aw
end Go.Proofs.Ytcpmmkennnjalaa.Pure
end
