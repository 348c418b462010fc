/- In an Eulerian automaton of at most MaxSmall states that has a reset word, Extend of each set that is neither empty nor contains all states is a word of at most n - 1 letters whose preimage has more states. (text 43 of 44) -/
import Derived.Test.YtcpmmkennnjalaaZEulerKarizp
import Derived.Test.YtcpmmkennnjalaaZEulerKarizm
import Derived.Test.YtcpmmkennnjalaaZEulerKarizd
section
namespace Go.Proofs.Ytcpmmkennnjalaa.Pure
open Go.RowKit Go.Proofs.YtcpmmkennnjalaaW.PrintWords Go.Proofs.YtcpmmkennnjalaaW.PrintLast Go.Proofs.YtcpmmkennnjalaaW.PrintMore Go.Proofs.Ytcpmmkennnjalaa.Q
set_option linter.unusedVariables false
set_option linter.unusedSectionVars false
set_option linter.unusedSimpArgs false
theorem cnt_nil {f : Nat → Nat → Nat} {n : Nat} {q : List Nat} (hq : ∀ x ∈ q, x < n) (hs : q.Pairwise (· < ·)) : cntS f n (fun t => decide (t ∈ q)) [] = q.length := by
  unfold cntS
  rw [List.countP_eq_length_filter]
  have h1 : ((List.range n).filter fun s => decide (run f s [] ∈ q)).Nodup := List.Pairwise.filter _ List.nodup_range
  refine Nat.le_antisymm (nodup_sub h1 fun t ht => ?_) (nodup_sub (hs.imp fun h => Nat.ne_of_lt h) fun t ht => ?_)
  · rw [List.mem_filter] at ht; exact of_decide_eq_true ht.2
  · rw [List.mem_filter]; exact ⟨List.mem_range.2 (hq t ht), decide_eq_true ht⟩
theorem EulerKari : Q.mizmazelaw06_EulerKari.Pure := by
  intro rows l ho hl
  refine Ev.rounds (g := fun k => mizmazelaw06_EulerKari.f k rows l) ?_
  unfold mizmazelaw06_EulerKari.f
  have aw : Ev (fun k => (mizmazelaw06_awake.f k).bind fun t => some t) true := Ev.bind awake6 (Ev.now _)
  have out : ∀ x5, Ev (fun k => mizmazelaw06_EulerKari.j0 k l x5 true rows) true := fun x5 => by
    refine Ev.next ?_
    simp only [mizmazelaw06_EulerKari.j0, if_true]
    exact aw
  refine Ev.bind (ref_valid rows ho) ?_
  cases hv : validB rows with
  | false =>
    simp only [Bool.false_eq_true, if_false]
    exact out _
  | true =>
    have V : VA rows rows.length (rd_L1 rows 0).length := validB_iff.1 hv
    generalize hn : rows.length = n at V
    generalize hm : (rd_L1 rows 0).length = m at V
    have h60 := V.n60
    have hn0 := V.n0
    simp only [if_true]
    obtain ⟨b1, hb1, hb2⟩ := ref_set V (l := l)
    refine Ev.bind hb1 ?_
    cases b1 with
    | false => simp only [Bool.false_eq_true, if_false]; exact out _
    | true =>
      obtain ⟨q, hq, hs, hql, rfl⟩ := hb2 rfl
      simp only [if_true, hn, toI_len]
      by_cases h12 : (n : Int) > 12
      · simp only [if_pos h12]; exact out _
      simp only [if_neg h12]
      by_cases hz : (q.length : Int) = 0
      · simp only [if_pos hz]; exact out _
      simp only [if_neg hz]
      by_cases hf : (q.length : Int) = (n : Int)
      · rw [show ((q.length : Int) == (n : Int)) = true from beq_iff_eq.2 hf]; exact out _
      rw [show ((q.length : Int) == (n : Int)) = false from beq_false_of_ne hf]
      have hle : n ≤ 12 := by omega
      obtain ⟨b, hb⟩ : ∃ b : Bool, b = true ↔ ∀ t, t < n → inn rows t = m := by
        by_cases h : ∀ t, t < n → inn rows t = m
        · exact ⟨true, fun _ => h, fun _ => rfl⟩
        · exact ⟨false, fun h2 => (by cases h2), fun h2 => absurd h2 h⟩
      have e1 : euler_Eulerian.f rows = some (b, 0) := by
        unfold euler_Eulerian.f; simp [auto_Valid.f, hv, eul_val V hb]
      -- Extend is asked
      have j1 : ∀ x9 : Int, (b = true → x9 = 0 → ∃ z, Wd m z ∧ z.length + 1 ≤ n ∧ q.length < cntS (nx rows) n (fun t => decide (t ∈ q)) z) → Ev (fun k => mizmazelaw06_EulerKari.j1 k (toI q) (n : Int) b x9 false rows) true := by
        intro x9 hk
        refine Ev.next ?_
        simp only [mizmazelaw06_EulerKari.j1, Bool.false_eq_true, if_false]
        rcases ext_ev V hq hle hs hql with ⟨w, hw, h1, h2, h3, hev⟩ | ⟨h1, hev⟩
        · refine Ev.bind hev ?_
          simp only [if_true]
          refine Ev.bind (auto_pre V hq hs (by omega) hw (by omega)) ?_
          have hpl : (preL rows n q w).length = cntS (nx rows) n (fun t => decide (t ∈ q)) w := by
            unfold preL cntS
            rw [List.countP_eq_length_filter]
          simp only [if_true, toI_len, hpl, if_neg (show ¬ ((cntS (nx rows) n (fun t => decide (t ∈ q)) w : Nat) : Int) ≤ (q.length : Int) by omega)]
          cases hbb : b with
          | false => simp only [Bool.false_eq_true, if_false]; exact aw
          | true =>
            simp only [if_true]
            by_cases h9 : x9 = 0
            · obtain ⟨z, z1, z2, z3⟩ := hk hbb h9
              have := h2 z z1 z3
              simp only [if_pos h9]
              rw [wrapI (z := (n : Int) - 1) (by omega) (by omega)]
              simp only [if_pos (show (w.length : Int) ≤ (n : Int) - 1 by omega)]
              exact aw
            · simp only [if_neg h9]; exact aw
        · refine Ev.bind hev ?_
          simp only [show ¬ ((4 : Int) = 0) by omega, if_false]
          cases hbb : b with
          | false => simp only [Bool.false_eq_true, if_false]; exact aw
          | true =>
            simp only [if_true]
            by_cases h9 : x9 = 0
            · obtain ⟨z, z1, z2, z3⟩ := hk hbb h9
              have := h1 z z1
              omega
            · simp only [if_neg h9]; exact aw
      refine Ev.next ?_
      simp only [mizmazelaw06_EulerKari.j0, Bool.false_eq_true, if_false, e1, Option.bind_some]
      obtain ⟨r, hr, hev⟩ := reset_ev V
      refine Ev.bind hev ?_
      rcases hr with ⟨w, hw, rfl, hall, hlw⟩ | ⟨rfl, _⟩
      · simp only [if_true]
        refine j1 0 fun hbt _ => ?_
        have h0 := cnt_nil (f := nx rows) hq hs
        obtain ⟨z, z1, z2, z3⟩ := kari_ext V.m0 (fun s x hs hx => V.nxLt hs hx) (eul_sum V (hb.1 hbt)) hw hall (p := fun t => decide (t ∈ q)) (by rw [h0]; omega) (by rw [h0]; omega)
        rw [h0] at z3
        exact ⟨z, z1, z2, z3⟩
      · simp only [show ¬ ((4 : Int) = 0) by omega, if_false, if_true, bne_self_eq_false]
        exact j1 4 fun _ h => absurd h (by decide)
end Go.Proofs.Ytcpmmkennnjalaa.Pure
end
