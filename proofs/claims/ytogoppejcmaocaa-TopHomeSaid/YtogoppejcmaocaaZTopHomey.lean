/- The law TopHome holds: any automaton has a reset word of at most (n^3 - n) / 6 letters that is found, and with whatever letters before it and after it it leads all states to one, or there are pairs of states that are found and that no word merges; no bound on the arguments beyond their types'. (text 25 of 26) -/
import Derived.Test.YtogoppejcmaocaaZTopHomeg
import Derived.Test.YtogoppejcmaocaaZTopHomex
import Derived.Test.YtogoppejcmaocaaZTopHomev
/-! Part StmtTopHome -/
section
-- Written by xrow.py, a program of this session's. Lean checks it.
namespace Go.Proofs.Ytogoppejcmaocaa.Q
/-- What is left to prove of the law TopHome. -/
def mizmazetop_TopHome.Pure : Prop := ∀ (l0_0 : List (List Int)), ∀ (l1 : List Int), ∀ (l2 : List Int), RowsOk l0_0 → IntsOk l1 → IntsOk l2 → ∃ k, mizmazetop_TopHome.f k l0_0 l1 l2 = some true
end Go.Proofs.Ytogoppejcmaocaa.Q
end
/-! Part PureTopHome -/
section
namespace Go.Proofs.Ytogoppejcmaocaa.Pure
open Go.RowKit Go.Proofs.YtogoppejcmaocaaW.PrintWords Go.Proofs.YtogoppejcmaocaaW.PrintLast Go.Proofs.YtogoppejcmaocaaW.PrintMore Go.Proofs.Ytogoppejcmaocaa.Q
set_option linter.unusedVariables false
set_option linter.unusedSectionVars false
set_option linter.unusedSimpArgs false
theorem toS_at {L : List (Nat × Nat)} {i : Nat} (h : i < L.length) : (rd_T49 (toS L) (i : Int)).f0 = ((L[i].1 : Nat) : Int) ∧ (rd_T49 (toS L) (i : Int)).f1 = ((L[i].2 : Nat) : Int) := by
  have e : rd_T49 (toS L) (i : Int) = (toS L)[i]'(by rw [toS_len]; exact h) := by
    show (toS L).getD i _ = _
    rw [List.getD_eq_getElem?_getD, List.getElem?_eq_getElem (by rw [toS_len]; exact h)]; rfl
  rw [e]
  simp [toS]
theorem HH_cube {n : Nat} (h0 : 0 < n) : HH (n - 1) + n = n * n * n := by
  obtain ⟨r, rfl⟩ : ∃ r, n = r + 1 := ⟨n - 1, by omega⟩
  unfold HH
  have e1 : (r + 1) * (r + 1) * (r + 1) = (r + 1) * ((r + 1) * (r + 1)) := Nat.mul_assoc _ _ _
  have e2 : (r + 1) * (r + 1) = r * (r + 2) + 1 := by
    rw [Nat.mul_add, Nat.add_mul, Nat.add_mul]; simp only [Nat.mul_one, Nat.one_mul, Nat.mul_add]; omega
  rw [e1, e2, Nat.add_sub_cancel, Nat.mul_comm r (r + 1), Nat.mul_assoc, Nat.mul_add (r + 1) (r * (r + 2)) 1, Nat.mul_one]
theorem cube_wrap {n : Nat} (hn : n ≤ 60) (h0 : 0 < n) : wrap64 ((wrap64 ((wrap64 ((n : Int) * (n : Int))) * (n : Int))) - (n : Int)) = ((HH (n - 1) : Nat) : Int) := by
  have e := HH_cube h0
  have h1 : n * n ≤ 3600 := Nat.mul_le_mul hn hn
  have h2 : n * n * n ≤ 3600 * 60 := Nat.mul_le_mul h1 hn
  have e1 : wrap64 ((n : Int) * (n : Int)) = ((n * n : Nat) : Int) := by rw [← Int.natCast_mul, wrapI (by omega) (by omega)]
  have e2 : wrap64 (((n * n : Nat) : Int) * (n : Int)) = ((n * n * n : Nat) : Int) := by rw [← Int.natCast_mul, wrapI (by omega) (by omega)]
  rw [e1, e2, wrapI (by omega) (by omega)]
  omega
theorem TopHome : Q.mizmazetop_TopHome.Pure := by
  intro rows l1 l2 ho h1 h2
  refine Ev.rounds (g := fun k => mizmazetop_TopHome.f k rows l1 l2) ?_
  unfold mizmazetop_TopHome.f
  have hend : Ev (fun k => (mizmazetop_homes.f k).bind fun t => some t) true := Ev.bind topHomes_ev (Ev.now _)
  cases hv : validB rows with
  | false =>
    refine Ev.bind (reset_form hv) (Ev.bind (apart_form hv) (Ev.bind (topValid_ev rows) ?_))
    rw [hv]
    simp only [Bool.false_eq_true, if_false, if_true]
    exact hend
  | true =>
    have V := VA.of' hv
    generalize hn : rows.length = n at V
    generalize hm : (rd_L1 rows 0).length = m at V
    have h60 := V.n60
    have hn0 := V.n0
    have hlen := V.len
    obtain ⟨b, hb1, hb2, hb3⟩ := topProper_ev V l1
    obtain ⟨a, ha1, ha2, ha3⟩ := topProper_ev V l2
    have hL : ∀ p q, (p, q) ∈ aAll (nx rows) m n n 0 ↔ p < q ∧ q < n ∧ ¬ Mg (nx rows) m p q := fun p q => by
      rw [aAll_mem (Nat.zero_add n)]; simp
    have hnil := aAll_nil (f := nx rows) (m := m) (n := n)
    have hsm := aAll_small V
    have hap := apart_ev V
    generalize aAll (nx rows) m n n 0 = L at hL hnil hsm hap
    obtain ⟨r, hr, hre⟩ := reset_ev V
    refine Ev.bind hre (Ev.bind hap (Ev.bind (topValid_ev rows) ?_))
    rw [hv]
    simp only [if_true]
    refine Ev.bind hb3 (Ev.bind ha3 ?_)
    rcases hr with ⟨w, hw1, rfl, hw2, hw3⟩ | ⟨rfl, p, q, hp, hq, hpq⟩
    · have e : L = [] := hnil.2 fun p q hp hq => ⟨w, hw1, hw2 p q hp hq⟩
      subst e
      have hH := HH60 (show n - 1 ≤ 60 by omega)
      have hall : ∀ s, s < n → run (nx rows) s w = run (nx rows) 0 w := fun s hs => hw2 s 0 hs hn0
      have hrl := V.runLt hn0 hw1
      have hlw : w.length ≤ 40000 := by omega
      have hall2 : ∀ s, s < n → run (nx rows) s (b ++ (w ++ a)) = run (nx rows) (run (nx rows) 0 w) a := fun s hs => by
        rw [run_app, run_app, hall _ (V.runLt hs hb1)]
      have go : Ev (fun k => mizmazetop_TopHome.j0 k (toI b) (toI a) (toI w) 0 (toS []) (n : Int) false rows) true := by
        refine Ev.next ?_
        simp only [mizmazetop_TopHome.j0, Bool.false_eq_true, if_false, if_true]
        refine Ev.bind (topRight_ev V hw1 hlw) ?_
        simp only [if_true, cube_wrap h60 hn0]
        have e6 : wrap64 (6 * ((toI w).length : Int)) = ((6 * w.length : Nat) : Int) := by
          rw [toI_len, wrapI (by omega) (by omega)]; omega
        simp only [e6, if_pos (show ((6 * w.length : Nat) : Int) ≤ ((HH (n - 1) : Nat) : Int) by omega)]
        refine Ev.bind (topSpread_one V hw1 (by omega) hrl hall) ?_
        simp only [if_true]
        have hj := topJoined_ev [b, w, a] (fun x hx => by simp at hx; rcases hx with rfl | rfl | rfl <;> omega) (by simp)
        simp only [List.map_cons, List.map_nil, List.flatten_cons, List.flatten_nil, List.append_nil] at hj
        refine Ev.bind hj ?_
        refine Ev.bind (topSpread_one V (hb1.app (hw1.app ha1)) (by rw [List.length_append, List.length_append]; omega) (V.runLt hrl ha1) hall2) ?_
        simp only [if_true]
        exact hend
      simp only [hn, if_true]
      exact go
    · have e : L.length ≠ 0 := fun e => hpq (hnil.1 (List.length_eq_zero_iff.1 e) p q hp hq)
      have e2 : (((toS L).length : Int) == 0) = false := by rw [toS_len, beq_eq_false_iff_ne]; omega
      have loop : ∀ (e i : Nat), i + e = L.length → Ev (fun k => mizmazetop_TopHome.l0 k (toI b) (toI a) (toS L) (n : Int) (i : Int) rows) true := by
        intro e
        induction e with
        | zero =>
          intro i hi
          exact Ev.step (f := fun k => (mizmazetop_homes.f k).bind fun t => some t) (fun k => by rw [mizmazetop_TopHome.l0, if_neg (by rw [toS_len]; omega)]) hend
        | succ e ih =>
          intro i hi
          have hil : i < L.length := by omega
          obtain ⟨h3, h4⟩ := toS_at hil
          have hmem : (L[i].1, L[i].2) ∈ L := List.getElem_mem hil
          obtain ⟨hp1, hp2, hp3⟩ := (hL _ _).1 hmem
          generalize L[i].1 = p at h3 hp1 hp2 hp3
          generalize L[i].2 = q at h4 hp1 hp2 hp3
          have hpn : p < n := by omega
          have hj := topJoined_ev [b, a] (fun x hx => by simp at hx; rcases hx with rfl | rfl <;> omega) (by simp)
          simp only [List.map_cons, List.map_nil, List.flatten_cons, List.flatten_nil, List.append_nil] at hj
          have hba := hb1.app ha1
          have hbl : (b ++ a).length ≤ 1000000 := by rw [List.length_append]; omega
          have hne : ∀ w, Wd m w → ¬ ((run (nx rows) p w : Nat) : Int) = ((run (nx rows) q w : Nat) : Int) := fun w hw h => hp3 ⟨w, hw, by omega⟩
          refine Ev.next ?_
          simp only [mizmazetop_TopHome.l0, if_pos (show (i : Int) < ((toS L).length : Int) by rw [toS_len]; omega), if_pos (show (0 : Int) ≤ (i : Int) by omega), h3, h4, if_neg (show ¬ ((p : Nat) : Int) < 0 by omega), if_neg (show ¬ ((q : Nat) : Int) ≥ (n : Int) by omega), if_neg (show ¬ ((p : Nat) : Int) ≥ ((q : Nat) : Int) by omega)]
          refine Ev.bind (topLead_ev V hb1 (by omega) hpn) (Ev.bind (topLead_ev V hb1 (by omega) hp2) ?_)
          simp only [if_neg (hne b hb1)]
          refine Ev.bind hj (Ev.bind (topLead_ev V hba hbl hpn) (Ev.bind hj (Ev.bind (topLead_ev V hba hbl hp2) ?_)))
          simp only [if_neg (hne _ hba), wrapS (show i + 1 ≤ 9223372036854775807 by omega)]
          exact ih (i + 1) (by omega)
      have go : Ev (fun k => mizmazetop_TopHome.j0 k (toI b) (toI a) [] 4 (toS L) (n : Int) false rows) true := by
        refine Ev.next ?_
        simp only [mizmazetop_TopHome.j0, Bool.false_eq_true, if_false, show ¬ (4 : Int) = 0 by decide]
        exact loop L.length 0 (by omega)
      simp only [hn, e2, show ¬ (4 : Int) = 0 by decide, if_false]
      exact go
end Go.Proofs.Ytogoppejcmaocaa.Pure
end
