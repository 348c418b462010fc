/- The law MazeLonger holds: if Check of a word is true, it is for fewer rooms, and with letters before and after; no bound on the arguments beyond their types'. (text 14 of 15) -/
import Derived.Test.YtgbjbgdnldklpaaZMazeLongerg
import Derived.Test.YtgbjbgdnldklpaaZMazeLongerm
/-! Part StmtMazeLonger -/
section
-- Written by xrow.py, a program of this session's. Lean checks it.
namespace Go.Proofs.Ytgbjbgdnldklpaa.Q
/-- What is left to prove of the law MazeLonger. -/
def mizmazelaw10_MazeLonger.Pure : Prop := ∀ (a0 : Int), ∀ (a1 : Int), ∀ (l2 : List Int), ∀ (l3 : List Int), ∀ (l4 : List Int), (0 ≤ a0 ∧ a0 ≤ 255) → (0 ≤ a1 ∧ a1 ≤ 255) → IntsOk l2 → IntsOk l3 → IntsOk l4 → ∃ k, mizmazelaw10_MazeLonger.f k a0 a1 l2 l3 l4 = some true
end Go.Proofs.Ytgbjbgdnldklpaa.Q
end
/-! Part PureMazeLonger -/
section
namespace Go.Proofs.Ytgbjbgdnldklpaa.Pure
open Go.RowKit Go.Proofs.YtgbjbgdnldklpaaW.PrintWords Go.Proofs.YtgbjbgdnldklpaaW.PrintLast Go.Proofs.YtgbjbgdnldklpaaW.PrintMore Go.Proofs.Ytgbjbgdnldklpaa.Q
set_option linter.unusedVariables false
set_option linter.unusedSectionVars false
set_option linter.unusedSimpArgs false
theorem check_arg {n d : Nat} (hn : 1 ≤ n) (hd : 1 ≤ d) (h6 : d ≤ 6) (hN : n * d ≤ 12) {l : List Int} (h : ¬ (inB (d : Int) l = true ∧ l.length ≤ 500)) : Ev (fun k => maze_Check.f k (n : Int) (d : Int) l) (false, 2) := by
  refine Ev.congr (f := fun _ => some (false, 2)) (fun k => ?_) (Ev.now _)
  unfold maze_Check.f maze_fits.f
  rw [asks_ok hn hd h6 hN, Option.bind_some, if_pos rfl, Option.bind_some]
  by_cases h1 : (decide (l.length ≤ 40000) && inB (d : Int) l) = true
  · rw [if_pos h1, if_pos]
    rw [Bool.and_eq_true] at h1
    have : ¬ l.length ≤ 500 := fun h2 => h ⟨h1.2, h2⟩
    omega
  · rw [if_neg h1]
theorem uni_more {n d : Nat} (hd : 1 ≤ d) (hN : n * d ≤ 12) {u w v : List Nat} (hu : Wd d u) (h : UniS n d w) : UniS n d (u ++ w ++ v) := fun t h2 ht x hx hc s hs r hr => by
  have H := all_en hd (Nat.le_trans (Nat.mul_le_mul_right d ht) hN) x hx
  exact path_mid (h t h2 ht x hx hc _ (H.endLt hs hu) r hr)
theorem MazeLonger : Q.mizmazelaw10_MazeLonger.Pure := by
  intro a0 a1 l2 l3 l4 ha0 ha1 _ _ _
  refine Ev.rounds (g := fun k => mizmazelaw10_MazeLonger.f k a0 a1 l2 l3 l4) ?_
  unfold mizmazelaw10_MazeLonger.f
  obtain ⟨a, rfl⟩ := Int.eq_ofNat_of_zero_le ha0.1
  obtain ⟨b, rfl⟩ := Int.eq_ofNat_of_zero_le ha1.1
  have e0 : wrap64 (1 + (Int.tmod (wrap64 (a : Int)) 8)) = ((1 + a % 8 : Nat) : Int) := by
    rw [wrapI (z := (a : Int)) (by omega) (by omega), Int.tmod_eq_emod_of_nonneg (by omega), wrapI (by omega) (by omega)]; omega
  have e1 : wrap64 (1 + (Int.tmod (wrap64 (b : Int)) 6)) = ((1 + b % 6 : Nat) : Int) := by
    rw [wrapI (z := (b : Int)) (by omega) (by omega), Int.tmod_eq_emod_of_nonneg (by omega), wrapI (by omega) (by omega)]; omega
  have hn8 : 1 + a % 8 ≤ 8 := by omega
  have hd6 : 1 + b % 6 ≤ 6 := by omega
  have hn1 : 1 ≤ 1 + a % 8 := by omega
  have hd1 : 1 ≤ 1 + b % 6 := by omega
  simp only [e0, e1]
  generalize 1 + a % 8 = n at *
  generalize 1 + b % 6 = d at *
  have hb48 : n * d ≤ 8 * 6 := Nat.mul_le_mul hn8 hd6
  have e2 : wrap64 ((n : Int) * (d : Int)) = ((n * d : Nat) : Int) := by
    rw [← Int.natCast_mul, wrapI (by omega) (by omega)]
  rw [e2]
  have out : Ev (fun k => mizmazelaw10_MazeLonger.j0 k l2 l3 l4 (d : Int) (n : Int) true) true := by
    refine Ev.next ?_
    simp only [mizmazelaw10_MazeLonger.j0, if_true]
    exact awake10_end
  have out1 : Ev (fun k => mizmazelaw10_MazeLonger.j1 k l2 l3 l4 (d : Int) (n : Int) true) true := by
    refine Ev.next ?_
    simp only [mizmazelaw10_MazeLonger.j1, if_true]
    exact awake10_end
  by_cases g0 : ((n * d : Nat) : Int) > 8
  · simp only [if_pos g0]; exact out
  simp only [if_neg g0]
  by_cases g1 : (l2.length : Int) > 200
  · simp only [if_pos g1]; exact out
  simp only [if_neg g1]
  by_cases g2 : (l3.length : Int) > 200
  · simp only [if_pos g2]; exact out
  simp only [if_neg g2]
  by_cases g3 : (l4.length : Int) > 200
  · rw [decide_eq_true g3]; exact out
  rw [decide_eq_false g3]
  have hN : n * d ≤ 12 := by omega
  refine Ev.next ?_
  simp only [mizmazelaw10_MazeLonger.j0, Bool.false_eq_true, if_false]
  by_cases hw2 : inB (d : Int) l2 = true
  · obtain ⟨w, hw, rfl⟩ := toI_of hw2
    rw [toI_len] at g1
    obtain ⟨c, hc1, hc2⟩ := check_ev hn1 hd1 hd6 hN hw (by omega)
    refine Ev.bind hc1 ?_
    simp only [if_true]
    cases c with
    | false => exact out1
    | true =>
      have hU := hc2.1 rfl
      refine Ev.next ?_
      simp only [mizmazelaw10_MazeLonger.j1, Bool.not_true, Bool.false_eq_true, if_false]
      have rounds : ∀ (e r : Nat), r + e = n → 1 ≤ r → Ev (fun k => mizmazelaw10_MazeLonger.l0 k (toI w) l3 l4 (d : Int) (n : Int) (r : Int)) true := by
        intro e
        induction e with
        | zero =>
          intro r hr hr1
          have hz : (toI w).length = w.length := toI_len w
          refine Ev.next ?_
          simp only [mizmazelaw10_MazeLonger.l0, if_neg (show ¬ (r : Int) < (n : Int) by omega), Option.bind_some, List.nil_append, List.length_nil, List.length_append, if_pos (show 0 + l3.length < 17592186044416 by omega), if_pos (show 0 + l3.length + (toI w).length < 17592186044416 by omega), if_pos (show 0 + l3.length + (toI w).length + l4.length < 17592186044416 by omega)]
          have happ : inB (d : Int) (l3 ++ toI w ++ l4) = (inB (d : Int) l3 && inB (d : Int) (toI w) && inB (d : Int) l4) := by
            unfold inB; rw [List.all_append, List.all_append]
          have hlen : (l3 ++ toI w ++ l4).length = l3.length + (toI w).length + l4.length := by rw [List.length_append, List.length_append]
          have fail : ¬ (inB (d : Int) (l3 ++ toI w ++ l4) = true ∧ (l3 ++ toI w ++ l4).length ≤ 500) → Ev (fun k => mizmazelaw10_MazeLonger.j3 k false 2 true) true := fun h => by
            refine Ev.next ?_
            simp only [mizmazelaw10_MazeLonger.j3, if_true]
            exact awake10_end
          by_cases hok : inB (d : Int) (l3 ++ toI w ++ l4) = true ∧ (l3 ++ toI w ++ l4).length ≤ 500
          · have h3 := hok.1
            rw [happ, Bool.and_eq_true, Bool.and_eq_true] at h3
            obtain ⟨u, hu, rfl⟩ := toI_of h3.1.1
            obtain ⟨v, hv, rfl⟩ := toI_of h3.2
            have eapp : toI u ++ toI w ++ toI v = toI (u ++ w ++ v) := by simp [toI]
            have hl5 := hok.2
            rw [eapp, toI_len] at hl5
            obtain ⟨c2, hc3, hc4⟩ := check_ev hn1 hd1 hd6 hN ((hu.app hw).app hv) hl5
            rw [eapp]
            refine Ev.bind hc3 ?_
            rw [toI_len] at g2 g3
            refine Ev.bind (ref_word10 (d : Int) (toI u)) ?_
            rw [h3.1.1, decide_eq_true (by rw [toI_len]; omega)]
            simp only [Bool.and_self, if_true]
            refine Ev.bind (ref_word10 (d : Int) (toI v)) ?_
            rw [h3.2, decide_eq_true (by rw [toI_len]; omega)]
            simp only [Bool.and_self, if_true]
            rw [decide_eq_false (by simp only [toI_len]; simp at hl5; omega)]
            refine Ev.next ?_
            rw [hc4.2 (uni_more hd1 hN hu hU)]
            simp only [mizmazelaw10_MazeLonger.j3, Bool.false_eq_true, if_false, if_true]
            exact awake10_end
          · refine Ev.bind (check_arg hn1 hd1 hd6 hN hok) ?_
            refine Ev.bind (ref_word10 (d : Int) l3) ?_
            by_cases c3 : (decide (l3.length ≤ 40000) && inB (d : Int) l3) = true
            · simp only [c3, if_true]
              refine Ev.bind (ref_word10 (d : Int) l4) ?_
              by_cases c4 : (decide (l4.length ≤ 40000) && inB (d : Int) l4) = true
              · simp only [c4, if_true]
                rw [decide_eq_true]
                · exact fail hok
                · rw [Bool.and_eq_true] at c3 c4
                  have : ¬ (l3 ++ toI w ++ l4).length ≤ 500 := fun h => hok ⟨by rw [happ, c3.2, c4.2, hw2]; rfl, h⟩
                  rw [hlen] at this
                  omega
              · simp only [c4, if_false]; exact fail hok
            · simp only [c3, if_false]; exact fail hok
        | succ e ih =>
          intro r hr hr1
          have hNr : r * d ≤ 12 := Nat.le_trans (Nat.mul_le_mul_right d (by omega : r ≤ n)) hN
          obtain ⟨c2, hc3, hc4⟩ := check_ev hr1 hd1 hd6 hNr hw (by omega)
          have ht := hc4.2 fun t h2 ht => hU t h2 (by omega)
          subst ht
          refine Ev.next ?_
          simp only [mizmazelaw10_MazeLonger.l0, if_pos (show (r : Int) < (n : Int) by omega)]
          refine Ev.bind hc3 ?_
          simp only [if_true, wrapS (show r + 1 ≤ 9223372036854775807 by omega)]
          exact ih (r + 1) (by omega) (by omega)
      exact rounds (n - 1) 1 (by omega) (Nat.le_refl 1)
  · refine Ev.bind (check_arg hn1 hd1 hd6 hN fun h => hw2 h.1) ?_
    simp only [show ¬ (2 : Int) = 0 by decide, if_false]
    exact out1
end Go.Proofs.Ytgbjbgdnldklpaa.Pure
end
