/- NetLengths returns true for every input of its row; no further conditions. (text 14 of 15) -/
import Derived.Test.YtjgdalhdiohclaaZNetLengthsh
import Derived.Test.YtjgdalhdiohclaaZNetLengthsm
import Derived.Test.YtjgdalhdiohclaaZNetLengthsi
/-! Part StmtNetLengths -/
section
-- Written by xrow.py, a program of this session's. Lean checks it.
namespace Go.Proofs.Ytjgdalhdiohclaa.Q
/-- What is left to prove of the law NetLengths. -/
def mizmazelaw02_NetLengths.Pure : Prop := ∀ (l0_0 : List (List Int)), ∀ (a1 : Int), RowsOk l0_0 → (0 ≤ a1 ∧ a1 ≤ 255) → ∃ k, mizmazelaw02_NetLengths.f k l0_0 a1 = some true
end Go.Proofs.Ytjgdalhdiohclaa.Q
end
/-! Part PureNetLengths -/
section
namespace Go.Proofs.Ytjgdalhdiohclaa.Pure
open Go.RowKit Go.Proofs.YtjgdalhdiohclaaW.PrintWords Go.Proofs.YtjgdalhdiohclaaW.PrintLast Go.Proofs.YtjgdalhdiohclaaW.PrintMore Go.Proofs.Ytjgdalhdiohclaa.Q
theorem k_len {n a : Nat} (hn0 : 0 < n) (hn : n ≤ 30) (ha : a ≤ 255) : wrap64 ((wrap64 ((wrap64 ((wrap64 ((n : Int) - 1)) * (wrap64 ((n : Int) - 1)))) + 1)) + (Int.tmod (wrap64 (a : Int)) 8)) = (((n - 1) * (n - 1) + 1 + a % 8 : Nat) : Int) := by
  have h0 : wrap64 (a : Int) = (a : Int) := wrapI (by omega) (by omega)
  have h1 : wrap64 ((n : Int) - 1) = ((n - 1 : Nat) : Int) := by rw [wrapI (by omega) (by omega)]; omega
  have h2 : ((n - 1) * (n - 1) : Nat) ≤ 29 * 29 := Nat.mul_le_mul (by omega) (by omega)
  rw [h0, h1, show (8 : Int) = ((8 : Nat) : Int) from rfl, tmod_nat, ← Int.natCast_mul]
  generalize (n - 1) * (n - 1) = z at h2
  rw [wrapI (by omega : -9223372036854775808 ≤ (z : Int)) (by omega), wrapI (by omega : -9223372036854775808 ≤ (z : Int) + 1) (by omega), wrapI (by omega) (by omega)]
  omega
theorem NetLengths : Q.mizmazelaw02_NetLengths.Pure := by
  intro rows more ho hmore
  refine Ev.rounds (g := fun k => mizmazelaw02_NetLengths.f k rows more) ?_
  unfold mizmazelaw02_NetLengths.f
  refine Ev.bind (ref_valid rows ho) ?_
  have out : Ev (fun k => mizmazelaw02_NetLengths.j0 k more true rows) true := by
    refine Ev.next ?_
    simp only [mizmazelaw02_NetLengths.j0, if_true]
    exact Ev.bind awake2 (Ev.now _)
  cases hv : validB rows with
  | false => simp only [Bool.false_eq_true, if_false]; exact out
  | true =>
    have V := VA.of hv
    generalize hn : rows.length = n at V
    generalize hm : (rd_L1 rows 0).length = m at V
    have h60 := V.n60; have h6 := V.m6; have hn0 := V.n0
    simp only [if_true]
    by_cases h30 : n ≤ 30
    · simp only [decide_eq_false (by omega : ¬ (n : Int) > 30)]
      refine Ev.next ?_
      simp only [mizmazelaw02_NetLengths.j0, Bool.false_eq_true, if_false]
      by_cases hc : SC (nx rows) n m
      · obtain ⟨d, l, c, p1, p2, p3, p4, p5, p6, p7, p8⟩ := period_yes V hc
        refine Ev.bind p1 ?_
        simp only [if_true]
        obtain ⟨a, rfl⟩ := Int.eq_ofNat_of_zero_le hmore.1
        have hK := k_len hn0 h30 (a := a) (by omega)
        generalize hKK : (n - 1) * (n - 1) + 1 + a % 8 = K at hK
        have hKsmall : K ≤ 1000 := by
          have : (n - 1) * (n - 1) ≤ 29 * 29 := Nat.mul_le_mul (by omega) (by omega)
          omega
        have cls : ∀ s k t, s < n → Walk (nx rows) m k s t → (l s + k) % d = l t % d := fun s k t hs ⟨w, a, b, c⟩ => by
          have h := Off.walk (fun s x => V.nxLt) p7.dvd w s hs a
          rw [b, c] at h
          have h3 := (Int.emod_eq_emod_iff_emod_sub_eq_zero).2 (Int.emod_eq_zero_of_dvd h)
          have h4 : ((l s + k : Nat) : Int) % (d : Int) = ((l t : Nat) : Int) % (d : Int) := by rw [← h3]; simp
          omega
        have full : ∀ s, s < n → ((∀ t, t < n → Walk (nx rows) m K s t) ↔ d = 1) := by
          intro s hs
          constructor
          · intro h
            have a0 := cls s K 0 hs (h 0 hn0)
            have a1 := cls s K _ hs (h _ (V.nxLt hn0 V.m0))
            have a2 := cls 0 1 _ hn0 (Walk.one (f := nx rows) (s := 0) V.m0)
            rw [p6.zero] at a0 a2
            rw [a0] at a1
            rw [← a1] at a2
            rcases Nat.lt_or_ge 1 d with h1 | h1
            · rw [Nat.zero_mod, Nat.zero_add, Nat.mod_eq_of_lt h1] at a2; omega
            · omega
          · intro h t ht
            subst h
            exact primitive V hc p8 K (by omega) s t hs ht
        have states : ∀ (g s : Nat), s + g = n → Ev (fun k => mizmazelaw02_NetLengths.l0 k (a : Int) (d : Int) (n : Int) (s : Int) rows) true := by
          intro g
          induction g with
          | zero =>
            intro s hs
            refine Ev.next ?_
            simp only [mizmazelaw02_NetLengths.l0, if_neg (by omega : ¬ (s : Int) < (n : Int))]
            exact Ev.bind awake2 (Ev.now _)
          | succ g ih =>
            intro s hs
            have hsn : s < n := by omega
            obtain ⟨o, ho1, ho2⟩ := ref_walk0 V hsn
            have steps : ∀ (e j : Nat) (at_ : List Bool), j + e = K → Is n at_ (Walk (nx rows) m j s) → Ev (fun k => mizmazelaw02_NetLengths.l1 k (a : Int) (d : Int) (n : Int) (s : Int) at_ (e : Int) rows) true := by
              intro e
              induction e with
              | zero =>
                intro j at_ hj hat
                obtain rfl : j = K := by omega
                obtain ⟨b, b1, b2⟩ := ref_full hat (by omega)
                refine Ev.next ?_
                simp only [mizmazelaw02_NetLengths.l1, if_neg (by omega : ¬ ((0 : Nat) : Int) > 0)]
                refine Ev.bind b1 ?_
                have hbd : (b != ((d : Int) == 1)) = false := by
                  have h1 : b = true ↔ d = 1 := b2.trans (full s hsn)
                  by_cases h : d = 1
                  · rw [h1.2 h, h]; rfl
                  · have h2 : b = false := by
                      cases hb : b with
                      | false => rfl
                      | true => exact absurd (h1.1 hb) h
                    have h3 : ((d : Int) == 1) = false := by rw [beq_eq_false_iff_ne]; omega
                    rw [h2, h3]; rfl
                simp only [hbd, Bool.false_eq_true, if_false, wrapS (by omega : s + 1 ≤ 9223372036854775807)]
                exact ih (s + 1) (by omega)
              | succ e ih2 =>
                intro j at_ hj hat
                obtain ⟨l', h1, h2⟩ := ref_walk V hsn hat
                have hw : wrap64 (((e + 1 : Nat) : Int) - 1) = (e : Int) := by rw [wrapI (by omega) (by omega)]; omega
                refine Ev.next ?_
                simp only [mizmazelaw02_NetLengths.l1, if_pos (by omega : ((e + 1 : Nat) : Int) > 0), hw]
                exact Ev.bind h1 (ih2 (j + 1) l' (by omega) h2)
            refine Ev.next ?_
            simp only [mizmazelaw02_NetLengths.l0, if_pos (by omega : (s : Int) < (n : Int)), ho1, Option.bind_some, hK]
            exact steps K 0 o (by omega) ho2
        have hst := states n 0 (by omega)
        rw [hn]; exact hst
      · refine Ev.bind (period_no V hc) ?_
        simp only [if_neg (by decide : ¬ (2 : Int) = 0)]
        exact Ev.bind awake2 (Ev.now _)
    · simp only [decide_eq_true (by omega : (n : Int) > 30)]; exact out
end Go.Proofs.Ytjgdalhdiohclaa.Pure
end
