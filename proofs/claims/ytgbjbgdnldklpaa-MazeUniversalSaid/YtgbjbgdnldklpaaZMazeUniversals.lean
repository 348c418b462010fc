/- Universal returns a word that visits all rooms of every connected maze of a size, or the documented error, for all numbers of rooms and doors; it is proved for every input, without conditions. (text 19 of 21) -/
import Derived.Test.YtgbjbgdnldklpaaZMazeUniversalj
import Derived.Test.YtgbjbgdnldklpaaZMazeUniversalq
/-! Part StmtMazeChecks -/
section
-- Written by xrow.py, a program of this session's. Lean checks it.
namespace Go.Proofs.Ytgbjbgdnldklpaa.Q
end Go.Proofs.Ytgbjbgdnldklpaa.Q
end
/-! Part PureMazeChecks -/
section
namespace Go.Proofs.Ytgbjbgdnldklpaa.Pure
open Go.RowKit Go.Proofs.YtgbjbgdnldklpaaW.PrintWords Go.Proofs.YtgbjbgdnldklpaaW.PrintLast Go.Proofs.YtgbjbgdnldklpaaW.PrintMore Go.Proofs.Ytgbjbgdnldklpaa.Q
set_option linter.unusedVariables false
set_option linter.unusedSimpArgs false
theorem ref_check {n d : Nat} (hn : 1 ≤ n) (hd : 1 ≤ d) (h6 : d ≤ 6) (hN : n * d ≤ 12) {w : List Nat} (hw : Wd d w) (hl : w.length ≤ 1000000) : ∃ b, Ev (fun k => mizmazeref10_Check.f k (n : Int) (d : Int) (toI w)) b ∧ (b = true ↔ UniS n d w) := by
  have h12 : n ≤ 12 := Nat.le_trans (Nat.le_mul_of_pos_right n hd) hN
  have key : ∀ (e t : Nat) (all con : Int), t + e = n + 1 → 1 ≤ t → ∃ b, Ev (fun k => mizmazeref10_Check.l0 k (n : Int) (d : Int) (toI w) (t : Int) all con) b ∧ (b = true ↔ ∀ r, t ≤ r → r ≤ n → ∀ τ ∈ enumE (r * d) noneP 0, vB true r d w τ = true) := by
    intro e
    induction e with
    | zero =>
      intro t all con ht ht2
      exact ⟨true, Ev.step (f := fun _ => some true) (fun k => by rw [mizmazeref10_Check.l0, if_neg (by omega)]) (Ev.now _), fun _ r h1 h2 => by omega, fun _ => rfl⟩
    | succ e ih =>
      intro t all con ht ht2
      have hNt : t * d ≤ 12 := Nat.le_trans (Nat.mul_le_mul_right d (by omega : t ≤ n)) hN
      have h1 := each_ev ht2 hd h6 hNt true w (fun _ => hw) hl all con
      have h2 := seeL_fst (F := seenF t d true w) (enumE (t * d) noneP 0) all con
      generalize seeL (seenF t d true w) (enumE (t * d) noneP 0) all con = R at h1 h2
      obtain ⟨b, x1, x2⟩ := R
      cases b with
      | true =>
        obtain ⟨c, h3, h4⟩ := ih (t + 1) x1 x2 (by omega) (by omega)
        refine ⟨c, Ev.step (f := fun k => (eachG k (t : Int) (d : Int) true (toI w) all con).bind fun p => (if p.1 = true then mizmazeref10_Check.l0 k (n : Int) (d : Int) (toI w) ((t + 1 : Nat) : Int) p.2.1 p.2.2 else some false)) (fun k => by rw [mizmazeref10_Check.l0, if_pos (by omega), wrapS (by omega)]) (Ev.bind h1 ?_), h4.trans ⟨fun h r hr1 hr2 => ?_, fun h r hr1 hr2 => h r (by omega) hr2⟩⟩
        · simp only [if_true]; exact h3
        · rcases Nat.eq_or_lt_of_le hr1 with h7 | h7
          · rw [← h7]; exact h2.1 rfl
          · exact h r h7 hr2
      | false =>
        refine ⟨false, Ev.step (f := fun k => (eachG k (t : Int) (d : Int) true (toI w) all con).bind fun p => (if p.1 = true then mizmazeref10_Check.l0 k (n : Int) (d : Int) (toI w) ((t + 1 : Nat) : Int) p.2.1 p.2.2 else some false)) (fun k => by rw [mizmazeref10_Check.l0, if_pos (by omega), wrapS (by omega)]) (Ev.bind h1 ?_), ?_⟩
        · simp only [Bool.false_eq_true, if_false]; exact Ev.now _
        · simp only [Bool.false_eq_true, false_iff]
          intro h
          have := h2.2 (h t (Nat.le_refl t) (by omega))
          cases this
  obtain ⟨b, h1, h2⟩ := key n 1 0 0 (by omega) (Nat.le_refl 1)
  refine ⟨b, h1, h2.trans ⟨fun h t ht1 ht2 x hx hc s hs => ?_, fun h r hr1 hr2 τ hτ => ?_⟩⟩
  · obtain ⟨τ, hτ, rfl⟩ := List.mem_map.1 hx
    exact vB_iff.1 (h t (by omega) ht2 τ hτ) rfl hc s hs
  · refine vB_iff.2 fun _ hc s hs => ?_
    rcases Nat.eq_or_lt_of_le hr1 with h7 | h7
    · subst h7
      intro t ht
      obtain rfl : s = 0 := by omega
      obtain rfl : t = 0 := by omega
      exact List.mem_cons_self
    · exact h r (by omega) hr2 _ (List.mem_map.2 ⟨τ, hτ, rfl⟩) hc s hs
end Go.Proofs.Ytgbjbgdnldklpaa.Pure
end
