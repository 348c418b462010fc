/- The law MazeChecks holds: Check reports whether a word visits all rooms of every connected maze of a size, or returns the documented error, as the reference does; no bound on the arguments beyond their types'. (text 16 of 17) -/
import Derived.Test.YtgbjbgdnldklpaaZMazeChecksk
import Derived.Test.YtgbjbgdnldklpaaZMazeCheckso
/-! Part StmtMazeChecks -/
section
-- Written by xrow.py, a program of this session's. Lean checks it.
namespace Go.Proofs.Ytgbjbgdnldklpaa.Q
/-- What is left to prove of the law MazeChecks. -/
def mizmazelaw10_MazeChecks.Pure : Prop := ∀ (a0 : Int), ∀ (a1 : Int), ∀ (l2 : List Int), (-9223372036854775808 ≤ a0 ∧ a0 ≤ 9223372036854775807) → (-9223372036854775808 ≤ a1 ∧ a1 ≤ 9223372036854775807) → IntsOk l2 → ∃ k, mizmazelaw10_MazeChecks.f k a0 a1 l2 = some true
end Go.Proofs.Ytgbjbgdnldklpaa.Q
end
/-! Part PureMazeChecks -/
section
namespace Go.Proofs.Ytgbjbgdnldklpaa.Pure
open Go.RowKit Go.Proofs.YtgbjbgdnldklpaaW.PrintWords Go.Proofs.YtgbjbgdnldklpaaW.PrintLast Go.Proofs.YtgbjbgdnldklpaaW.PrintMore Go.Proofs.Ytgbjbgdnldklpaa.Q
set_option linter.unusedVariables false
set_option linter.unusedSimpArgs false
theorem check_bad {a0 a1 : Int} {l : List Int} (h : ¬ (fitsP a0 a1 ∧ inB a1 l = true ∧ l.length ≤ 500)) : Ev (fun k => maze_Check.f k a0 a1 l) (false, 2) := by
  refine Ev.congr (f := fun _ => some (false, 2)) (fun k => ?_) (Ev.now _)
  unfold maze_Check.f maze_fits.f
  by_cases h1 : fitsP a0 a1
  · obtain ⟨n, d, rfl, rfl, hn, hd, h6, hN⟩ := fits_nat h1
    rw [asks_ok hn hd h6 hN]
    simp only [Option.bind_some, if_true]
    by_cases h2 : (decide (l.length ≤ 40000) && inB (d : Int) l) = true
    · rw [h2, if_pos rfl, if_pos]
      rw [Bool.and_eq_true] at h2
      have : ¬ l.length ≤ 500 := fun h3 => h ⟨h1, h2.2, h3⟩
      omega
    · rw [if_neg h2]
  · rw [asks_bad h1]
    simp only [Option.bind_some, show ¬ (2 : Int) = 0 by decide, if_false]
theorem ref_check {n d : Nat} (hn : 1 ≤ n) (hd : 1 ≤ d) (h6 : d ≤ 6) (hN : n * d ≤ 12) {w : List Nat} (hw : Wd d w) (hl : w.length ≤ 1000000) : ∃ b, Ev (fun k => mizmazeref10_Check.f k (n : Int) (d : Int) (toI w)) b ∧ (b = true ↔ UniS n d w) := by
  have h12 : n ≤ 12 := Nat.le_trans (Nat.le_mul_of_pos_right n hd) hN
  have key : ∀ (e t : Nat) (all con : Int), t + e = n + 1 → 1 ≤ t → ∃ b, Ev (fun k => mizmazeref10_Check.l0 k (n : Int) (d : Int) (toI w) (t : Int) all con) b ∧ (b = true ↔ ∀ r, t ≤ r → r ≤ n → ∀ τ ∈ enumE (r * d) noneP 0, vB true r d w τ = true) := by
    intro e
    induction e with
    | zero =>
      intro t all con ht ht2
      exact ⟨true, Ev.step (f := fun _ => some true) (fun k => by rw [mizmazeref10_Check.l0, if_neg (by omega)]) (Ev.now _), fun _ r h1 h2 => by omega, fun _ => rfl⟩
    | succ e ih =>
      intro t all con ht ht2
      have hNt : t * d ≤ 12 := Nat.le_trans (Nat.mul_le_mul_right d (by omega : t ≤ n)) hN
      have h1 := each_ev ht2 hd h6 hNt true w (fun _ => hw) hl all con
      have h2 := seeL_fst (F := seenF t d true w) (enumE (t * d) noneP 0) all con
      generalize seeL (seenF t d true w) (enumE (t * d) noneP 0) all con = R at h1 h2
      obtain ⟨b, x1, x2⟩ := R
      cases b with
      | true =>
        obtain ⟨c, h3, h4⟩ := ih (t + 1) x1 x2 (by omega) (by omega)
        refine ⟨c, Ev.step (f := fun k => (eachG k (t : Int) (d : Int) true (toI w) all con).bind fun p => (if p.1 = true then mizmazeref10_Check.l0 k (n : Int) (d : Int) (toI w) ((t + 1 : Nat) : Int) p.2.1 p.2.2 else some false)) (fun k => by rw [mizmazeref10_Check.l0, if_pos (by omega), wrapS (by omega)]) (Ev.bind h1 ?_), h4.trans ⟨fun h r hr1 hr2 => ?_, fun h r hr1 hr2 => h r (by omega) hr2⟩⟩
        · simp only [if_true]; exact h3
        · rcases Nat.eq_or_lt_of_le hr1 with h7 | h7
          · rw [← h7]; exact h2.1 rfl
          · exact h r h7 hr2
      | false =>
        refine ⟨false, Ev.step (f := fun k => (eachG k (t : Int) (d : Int) true (toI w) all con).bind fun p => (if p.1 = true then mizmazeref10_Check.l0 k (n : Int) (d : Int) (toI w) ((t + 1 : Nat) : Int) p.2.1 p.2.2 else some false)) (fun k => by rw [mizmazeref10_Check.l0, if_pos (by omega), wrapS (by omega)]) (Ev.bind h1 ?_), ?_⟩
        · simp only [Bool.false_eq_true, if_false]; exact Ev.now _
        · simp only [Bool.false_eq_true, false_iff]
          intro h
          have := h2.2 (h t (Nat.le_refl t) (by omega))
          cases this
  obtain ⟨b, h1, h2⟩ := key n 1 0 0 (by omega) (Nat.le_refl 1)
  refine ⟨b, h1, h2.trans ⟨fun h t ht1 ht2 x hx hc s hs => ?_, fun h r hr1 hr2 τ hτ => ?_⟩⟩
  · obtain ⟨τ, hτ, rfl⟩ := List.mem_map.1 hx
    exact vB_iff.1 (h t (by omega) ht2 τ hτ) rfl hc s hs
  · refine vB_iff.2 fun _ hc s hs => ?_
    rcases Nat.eq_or_lt_of_le hr1 with h7 | h7
    · subst h7
      intro t ht
      obtain rfl : s = 0 := by omega
      obtain rfl : t = 0 := by omega
      exact List.mem_cons_self
    · exact h r (by omega) hr2 _ (List.mem_map.2 ⟨τ, hτ, rfl⟩) hc s hs
theorem MazeChecks : Q.mizmazelaw10_MazeChecks.Pure := by
  intro a0 a1 l2 ha0 ha1 _
  refine Ev.rounds (g := fun k => mizmazelaw10_MazeChecks.f k a0 a1 l2) ?_
  unfold mizmazelaw10_MazeChecks.f
  have out : ∀ x, Ev (fun k => mizmazelaw10_MazeChecks.j1 k a0 a1 l2 x true) true := fun x => by
    refine Ev.next ?_
    simp only [mizmazelaw10_MazeChecks.j1, if_true]
    exact awake10_end
  by_cases g0 : (l2.length : Int) > 50000
  · simp only [if_pos g0]; exact awake10_end
  simp only [if_neg g0]
  have bad : ¬ (fitsP a0 a1 ∧ inB a1 l2 = true ∧ l2.length ≤ 500) → Ev (fun k => mizmazelaw10_MazeChecks.j0 k a0 a1 l2 false) true := fun h => by
    refine Ev.next ?_
    simp only [mizmazelaw10_MazeChecks.j0, Bool.false_eq_true, if_false]
    refine Ev.next ?_
    simp only [mizmazelaw10_MazeChecks.j1, Bool.false_eq_true, if_false]
    refine Ev.bind (check_bad h) ?_
    simp only [Bool.false_eq_true, if_false, if_true]
    exact awake10_end
  by_cases hf : fitsP a0 a1
  · simp only [fits_good hf, Option.bind_some, if_true]
    refine Ev.bind (ref_word10 a1 l2) ?_
    by_cases hw : (decide (l2.length ≤ 40000) && inB a1 l2) = true
    · simp only [hw, if_true]
      rw [Bool.and_eq_true] at hw
      by_cases hl : l2.length ≤ 500
      · rw [decide_eq_true (show (l2.length : Int) ≤ 500 by omega)]
        obtain ⟨n, d, rfl, rfl, hn, hd, h6, hN⟩ := fits_nat hf
        obtain ⟨w, hwd, rfl⟩ := toI_of hw.2
        have go : Ev (fun k => mizmazelaw10_MazeChecks.j1 k (n : Int) (d : Int) (toI w) true false) true := by
          refine Ev.next ?_
          simp only [mizmazelaw10_MazeChecks.j1, Bool.false_eq_true, if_false, if_true]
          rw [toI_len] at hl
          obtain ⟨b, h1, h2⟩ := check_ev hn hd h6 hN hwd hl
          obtain ⟨c, h3, h4⟩ := ref_check hn hd h6 hN hwd (by omega)
          refine Ev.bind h1 ?_
          simp only [if_true]
          refine Ev.bind h3 ?_
          have e : b = c := Bool.eq_iff_iff.2 (h2.trans h4.symm)
          rw [e]
          simp only [beq_self_eq_true, if_true]
          exact awake10_end
        refine Ev.next ?_
        simp only [mizmazelaw10_MazeChecks.j0, if_true]
        by_cases g1 : wrap64 ((n : Int) * (d : Int)) > 8
        · simp only [if_pos g1]
          by_cases g2 : ((toI w).length : Int) > 30
          · rw [decide_eq_true g2]; exact out true
          · rw [decide_eq_false g2]; exact go
        · simp only [if_neg g1]; exact go
      · rw [decide_eq_false (show ¬ (l2.length : Int) ≤ 500 by omega)]
        exact bad fun h => hl h.2.2
    · simp only [hw]
      refine bad fun h => hw ?_
      rw [Bool.and_eq_true]
      exact ⟨decide_eq_true (by have := h.2.2; omega), h.2.1⟩
  · simp only [fits_bad hf, Option.bind_some, Bool.false_eq_true, if_false]
    exact bad fun h => hf h.1
end Go.Proofs.Ytgbjbgdnldklpaa.Pure
end
