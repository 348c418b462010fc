/- Eulerian, Circular and Bound return the documented results, or the documented errors, for any automaton. (text 22 of 23) -/
import Derived.Test.YtcpmmkennnjalaaZEulerKindsi
import Derived.Test.YtcpmmkennnjalaaZEulerKindsu
import Derived.Test.YtcpmmkennnjalaaZEulerKindss
section
-- Written by xrow.py, a program of this session's. Lean checks it.
namespace Go.Proofs.Ytcpmmkennnjalaa.Q
/-- What is left to prove of the law EulerKinds. -/
def mizmazelaw06_EulerKinds.Pure : Prop := ∀ (l0_0 : List (List Int)), RowsOk l0_0 → ∃ k, mizmazelaw06_EulerKinds.f k l0_0 = some true
end Go.Proofs.Ytcpmmkennnjalaa.Q
end
section
namespace Go.Proofs.Ytcpmmkennnjalaa.Pure
open Go.RowKit Go.Proofs.YtcpmmkennnjalaaW.PrintWords Go.Proofs.YtcpmmkennnjalaaW.PrintLast Go.Proofs.YtcpmmkennnjalaaW.PrintMore Go.Proofs.Ytcpmmkennnjalaa.Q
set_option linter.unusedVariables false
set_option linter.unusedSimpArgs false
theorem EulerKinds : Q.mizmazelaw06_EulerKinds.Pure := by
  intro rows ho
  refine Ev.rounds (g := fun k => mizmazelaw06_EulerKinds.f k rows) ?_
  unfold mizmazelaw06_EulerKinds.f
  have aw : Ev (fun k => (mizmazelaw06_awake.f k).bind fun t => some t) true := Ev.bind awake6 (Ev.now _)
  cases hv : validB rows with
  | false =>
    have e1 : euler_Eulerian.f rows = some (false, 1) := by
      unfold euler_Eulerian.f; simp [auto_Valid.f, hv]
    have e2 : ∀ k, euler_Circular.f k rows = some (0, 1) := fun k => by
      unfold euler_Circular.f; simp [auto_Valid.f, hv]
    have e3 : Ev (fun k => euler_Bound.f k rows) (0, 1) := by
      unfold euler_Bound.f
      refine Ev.bind (reset_form hv) ?_
      simp only [show ¬ ((1 : Int) = 0) by omega, if_false]
      exact Ev.now _
    simp only [e1, e2, Option.bind_some]
    refine Ev.bind e3 (Ev.bind (ref_valid rows ho) ?_)
    rw [hv]
    simp only [Bool.false_eq_true, if_false, if_true]
    exact aw
  | true =>
    have V := VA.of' hv
    generalize hn : rows.length = n at V
    generalize hm : (rd_L1 rows 0).length = m at V
    obtain ⟨b, hb⟩ : ∃ b : Bool, b = true ↔ ∀ t, t < n → inn rows t = m := by
      by_cases h : ∀ t, t < n → inn rows t = m
      · exact ⟨true, fun _ => h, fun _ => rfl⟩
      · exact ⟨false, fun h2 => (by cases h2), fun h2 => absurd h2 h⟩
    have heu := eul_val V hb
    have hre := ref_eul V hb
    obtain ⟨rc, hc1, hc2, hc3⟩ := circ_ev V (p := fun x => @decide (Cyc rows n x) (Classical.propDecidable _)) (fun x _ => by simp)
    obtain ⟨x, is⟩ := rc
    have e1 : euler_Eulerian.f rows = some (b, 0) := by
      unfold euler_Eulerian.f; simp [auto_Valid.f, hv, heu]
    have e2 : Ev (fun k => euler_Circular.f k rows) (x, if is = true then 0 else 4) := by
      unfold euler_Circular.f
      simp only [auto_Valid.f, hv, Option.bind_some, if_true]
      refine Ev.bind hc1 ?_
      cases is with
      | true => simp only [if_true]; exact Ev.now _
      | false =>
        simp only [Bool.false_eq_true, if_false]
        rcases hc3 with ⟨_, h2, _⟩ | ⟨h1, _⟩
        · have h2 : x = 0 := h2
          rw [h2]; exact Ev.now _
        · cases h1
    -- the bound of both
    have e3 : ∃ (v : Int) (home : Bool), Ev (fun k => euler_Bound.f k rows) (v, if home = true then 0 else 4) ∧ Ev (fun k => mizmazeref06_Bound.f k rows) (v, home) := by
      obtain ⟨r, hr, hev⟩ := reset_ev V
      rcases hr with ⟨w, hw, rfl, hall, hlw⟩ | ⟨rfl, a, b', ha, hb', hab⟩
      · have hh := ref_home V (b := true) ⟨fun _ p q hp hq => ⟨w, hw, hall p q hp hq⟩, fun _ => rfl⟩
        cases b with
        | true =>
          refine ⟨wrap64 (wrap64 (wrap64 ((rows.length : Int) * (rows.length : Int)) - wrap64 (3 * (rows.length : Int))) + 3), true, ?_, ?_⟩
          · unfold euler_Bound.f
            refine Ev.bind hev ?_
            simp only [if_true, heu, Option.bind_some]
            exact Ev.now _
          · unfold mizmazeref06_Bound.f
            refine Ev.bind hh ?_
            simp only [if_true]
            refine Ev.bind hre ?_
            simp only [if_true]
            exact Ev.now _
        | false =>
          cases is with
          | true =>
            refine ⟨wrap64 (wrap64 ((rows.length : Int) - 1) * wrap64 ((rows.length : Int) - 1)), true, ?_, ?_⟩
            · unfold euler_Bound.f
              refine Ev.bind hev ?_
              simp only [if_true, heu, Option.bind_some, Bool.false_eq_true, if_false]
              refine Ev.bind hc1 ?_
              simp only [if_true]
              exact Ev.now _
            · unfold mizmazeref06_Bound.f
              refine Ev.bind hh ?_
              simp only [if_true]
              refine Ev.bind hre ?_
              simp only [Bool.false_eq_true, if_false]
              refine Ev.bind hc2 ?_
              simp only [if_true]
              exact Ev.now _
          | false =>
            refine ⟨wrap64 (Int.tdiv (wrap64 (wrap64 (wrap64 ((rows.length : Int) * (rows.length : Int)) * (rows.length : Int)) - (rows.length : Int))) 6), true, ?_, ?_⟩
            · unfold euler_Bound.f
              refine Ev.bind hev ?_
              simp only [if_true, heu, Option.bind_some, Bool.false_eq_true, if_false]
              refine Ev.bind hc1 ?_
              simp only [Bool.false_eq_true, if_false]
              exact Ev.now _
            · unfold mizmazeref06_Bound.f
              refine Ev.bind hh ?_
              simp only [if_true]
              refine Ev.bind hre ?_
              simp only [Bool.false_eq_true, if_false]
              refine Ev.bind hc2 ?_
              simp only [Bool.false_eq_true, if_false, mizmazeref03_Most.f, Option.bind_some]
              exact Ev.now _
      · have hh := ref_home V (b := false) ⟨fun h => (by cases h), fun h => absurd (h a b' ha hb') hab⟩
        refine ⟨0, false, ?_, ?_⟩
        · unfold euler_Bound.f
          refine Ev.bind hev ?_
          simp only [show ¬ ((4 : Int) = 0) by omega, if_false, Bool.false_eq_true]
          exact Ev.now _
        · unfold mizmazeref06_Bound.f
          refine Ev.bind hh ?_
          simp only [Bool.false_eq_true, if_false]
          exact Ev.now _
    obtain ⟨v, home, h3, h4⟩ := e3
    simp only [e1, Option.bind_some]
    refine Ev.bind e2 (Ev.bind h3 (Ev.bind (ref_valid rows ho) ?_))
    rw [hv]
    simp only [if_true]
    refine Ev.bind hre ?_
    rw [show (b != b) = false by cases b <;> rfl]
    refine Ev.next ?_
    simp only [mizmazelaw06_EulerKinds.j0, Bool.false_eq_true, if_false]
    refine Ev.bind hc2 (Ev.bind h4 ?_)
    cases is <;> cases home <;> simp only [Bool.false_eq_true, if_false, if_true] <;> exact aw
end Go.Proofs.Ytcpmmkennnjalaa.Pure
end
