/- NetEnds returns true for every input of its row; no further conditions. (text 16 of 17) -/
import Derived.Test.YtjgdalhdiohclaaZNetEndsh
import Derived.Test.YtjgdalhdiohclaaZNetEndso
import Derived.Test.YtjgdalhdiohclaaZNetEndsi
import Derived.Test.YtjgdalhdiohclaaZNetEndsn
import Derived.Test.YtjgdalhdiohclaaZNetEndsm
/-! Part StmtNetEnds -/
section
-- Written by xrow.py, a program of this session's. Lean checks it.
namespace Go.Proofs.Ytjgdalhdiohclaa.Q
/-- What is left to prove of the law NetEnds. -/
def mizmazelaw02_NetEnds.Pure : Prop := ∀ (l0_0 : List (List Int)), ∀ (a1 : Int), RowsOk l0_0 → (-9223372036854775808 ≤ a1 ∧ a1 ≤ 9223372036854775807) → ∃ k, mizmazelaw02_NetEnds.f k l0_0 a1 = some true
end Go.Proofs.Ytjgdalhdiohclaa.Q
end
/-! Part PureNetEnds -/
section
namespace Go.Proofs.Ytjgdalhdiohclaa.Pure
open Go.RowKit Go.Proofs.YtjgdalhdiohclaaW.PrintWords Go.Proofs.YtjgdalhdiohclaaW.PrintLast Go.Proofs.YtjgdalhdiohclaaW.PrintMore Go.Proofs.Ytjgdalhdiohclaa.Q
theorem NetEnds : Q.mizmazelaw02_NetEnds.Pure := by
  intro rows s ho hs
  refine Ev.rounds (g := fun k => mizmazelaw02_NetEnds.f k rows s) ?_
  unfold mizmazelaw02_NetEnds.f
  refine Ev.bind (ref_valid rows ho) ?_
  have out : Ev (fun k => mizmazelaw02_NetEnds.j0 k s true rows) true := by
    refine Ev.next ?_
    simp only [mizmazelaw02_NetEnds.j0, if_true]
    exact Ev.bind awake2 (Ev.now _)
  cases hv : validB rows with
  | false => simp only [Bool.false_eq_true, if_false]; exact out
  | true =>
    have V := VA.of hv
    generalize hn : rows.length = n at V
    generalize hm : (rd_L1 rows 0).length = m at V
    have h60 := V.n60; have h6 := V.m6
    simp only [if_true, ref_state, Option.bind_some, hn]
    by_cases hsn : 0 ≤ s ∧ s < (n : Int)
    · rw [decide_eq_true hsn]
      obtain ⟨s', rfl⟩ := Int.eq_ofNat_of_zero_le hsn.1
      have hsl : s' < n := by omega
      have nxLt := fun s x => V.nxLt (s := s) (x := x)
      obtain ⟨e, he, hes, hce⟩ := some_sink nxLt hsl
      have hLlen := sinksTo_len (nx rows) n m n
      generalize hL : sinksTo (nx rows) n m n = L at hLlen
      have hget : ∀ i, i < L.length → ∃ e, e < n ∧ IsSink (nx rows) n m e ∧ rd_L1 L (i : Int) = toI (reachTo (nx rows) n m e) := by
        intro i hi
        rw [rdLE hi]
        exact sinksTo_mem (hL ▸ List.getElem_mem hi)
      have hasE : ∀ (e t : Nat), Ev (fun k => mizmazeref01_Has.f k (toI (reachTo (nx rows) n m e)) (t : Int)) (@decide (t < n ∧ Conn (nx rows) m e t) (Classical.propDecidable _)) := by
        intro e t
        refine Ev.eq (ref_has _ _ (by rw [toI_len]; have := reachTo_len (nx rows) n m e; omega)) ?_
        rw [Bool.eq_iff_iff, decide_eq_true_iff, @decide_eq_true_iff _ (Classical.propDecidable _), ← reachTo_mem]
        unfold toI
        rw [List.mem_map]
        exact ⟨fun ⟨a, h1, h2⟩ => by obtain rfl : a = t := by omega
                                     exact h1, fun h => ⟨t, h, rfl⟩⟩
      have loop : ∀ (d i : Nat) (found : Bool), i + d = L.length → (found = true ∨ ∃ i', i ≤ i' ∧ i' < L.length ∧ ∃ t, t < n ∧ Conn (nx rows) m s' t ∧ (t : Int) ∈ rd_L1 L (i' : Int)) → Ev (fun k => mizmazelaw02_NetEnds.l0 k (s' : Int) L found (i : Int) rows) true := by
        intro d
        induction d with
        | zero =>
          intro i found hi hf
          have : found = true := by
            rcases hf with h | ⟨i', h1, h2, _⟩
            · exact h
            · omega
          subst this
          refine Ev.next ?_
          simp only [mizmazelaw02_NetEnds.l0, if_neg (by omega : ¬ (i : Int) < (L.length : Int)), if_true]
          exact Ev.bind awake2 (Ev.now _)
        | succ d ih =>
          intro i found hi hf
          have hil : i < L.length := by omega
          obtain ⟨e, hen, hes, hl⟩ := hget i hil
          have hRlen := reachTo_len (nx rows) n m e
          generalize hR : reachTo (nx rows) n m e = R at hRlen
          have hRm : ∀ t, t ∈ R ↔ t < n ∧ Conn (nx rows) m e t := fun t => by rw [← hR]; exact reachTo_mem
          rw [hR] at hl
          have inner : ∀ (g k' : Nat) (found : Bool), k' + g = R.length → (found = true ∨ (∃ p, k' ≤ p ∧ p < R.length ∧ ∃ t, Conn (nx rows) m s' t ∧ R[p]? = some t) ∨ ∃ i', i + 1 ≤ i' ∧ i' < L.length ∧ ∃ t, t < n ∧ Conn (nx rows) m s' t ∧ (t : Int) ∈ rd_L1 L (i' : Int)) → Ev (fun k => mizmazelaw02_NetEnds.l1 k (s' : Int) L found (i : Int) (k' : Int) rows) true := by
            intro g
            induction g with
            | zero =>
              intro k' found hk hf
              refine Ev.next ?_
              simp only [mizmazelaw02_NetEnds.l1, if_pos (by omega : (0 : Int) ≤ (i : Int)), if_pos (by omega : (i : Int) < (L.length : Int)), hl, toI_len, if_neg (by omega : ¬ (k' : Int) < (R.length : Int)), wrapS (by omega : i + 1 ≤ 9223372036854775807)]
              refine ih (i + 1) found (by omega) ?_
              rcases hf with h | ⟨p, h1, h2, _⟩ | h
              · exact Or.inl h
              · omega
              · exact Or.inr h
            | succ g ih2 =>
              intro k' found hk hf
              have hkl : k' < R.length := by omega
              have hrd : rd (toI R) (k' : Int) = ((R[k'] : Nat) : Int) := by
                rw [rdE (by rw [toI_len]; exact hkl)]; simp [toI]
              have hmem := (hRm R[k']).1 (List.getElem_mem hkl)
              have hgetk : R[k']? = some R[k'] := List.getElem?_eq_getElem hkl
              generalize R[k'] = t at hrd hmem hgetk
              obtain ⟨htn, het⟩ := hmem
              have hte := (hes t htn het).2
              -- the letters
              have back : ∀ found' : Bool, (found' = true ∨ (∃ p, k' + 1 ≤ p ∧ p < R.length ∧ ∃ t, Conn (nx rows) m s' t ∧ R[p]? = some t) ∨ ∃ i', i + 1 ≤ i' ∧ i' < L.length ∧ ∃ t, t < n ∧ Conn (nx rows) m s' t ∧ (t : Int) ∈ rd_L1 L (i' : Int)) → Ev (fun k => mizmazelaw02_NetEnds.j7 k (s' : Int) L found' (i : Int) (k' : Int) (t : Int) rows) true := by
                intro found' hf'
                refine Ev.next ?_
                simp only [mizmazelaw02_NetEnds.j7]
                obtain ⟨r, hr1, hr2⟩ := net_path V htn hsl
                refine Ev.bind hr1 ?_
                simp only [if_pos (by omega : (0 : Int) ≤ (i : Int)), if_pos (by omega : (i : Int) < (L.length : Int)), hl]
                have := hasE e s'
                rw [hR] at this
                refine Ev.bind this ?_
                have heq : (r.2 == 0) = @decide (s' < n ∧ Conn (nx rows) m e s') (Classical.propDecidable _) := by
                  rw [Bool.eq_iff_iff, beq_iff_eq, @decide_eq_true_iff _ (Classical.propDecidable _)]
                  rcases hr2 with ⟨w, hw, rfl⟩ | ⟨hw, rfl⟩
                  · exact ⟨fun _ => ⟨hsl, het.trans ⟨w, hw.wd, hw.ends⟩⟩, fun _ => rfl⟩
                  · exact ⟨fun h => absurd h (by decide), fun h => absurd (hte.trans h.2) hw⟩
                rw [heq]
                simp only [bne_self_eq_false, Bool.false_eq_true, if_false, wrapS (by omega : k' + 1 ≤ 9223372036854775807)]
                exact ih2 (k' + 1) found' (by omega) hf'
              have letters : ∀ (p x : Nat), x + p = m → Ev (fun k => mizmazelaw02_NetEnds.l2 k (s' : Int) L found (i : Int) (k' : Int) (t : Int) (x : Int) rows) true := by
                intro p
                induction p with
                | zero =>
                  intro x hx
                  refine Ev.next ?_
                  simp only [mizmazelaw02_NetEnds.l2, V.letters, Option.bind_some, if_neg (by omega : ¬ (x : Int) < (m : Int))]
                  obtain ⟨r, hr1, hr2⟩ := net_path V hsl htn
                  refine Ev.bind hr1 ?_
                  rcases hr2 with ⟨w, hw, rfl⟩ | ⟨hw, rfl⟩
                  · simp only [if_true]
                    refine Ev.bind (auto_run V hsl hw.wd (by have := hw.short V hsl; omega)) ?_
                    simp only [if_true, hw.ends]
                    refine Ev.next ?_
                    simp only [mizmazelaw02_NetEnds.j6, BEq.rfl, ite_self]
                    exact back true (Or.inl rfl)
                  · simp only [if_neg (by decide : ¬ (4 : Int) = 0)]
                    refine Ev.next ?_
                    have hb : found = true ∨ (∃ p, k' + 1 ≤ p ∧ p < R.length ∧ ∃ t, Conn (nx rows) m s' t ∧ R[p]? = some t) ∨ ∃ i', i + 1 ≤ i' ∧ i' < L.length ∧ ∃ t, t < n ∧ Conn (nx rows) m s' t ∧ (t : Int) ∈ rd_L1 L (i' : Int) := by
                      rcases hf with h | ⟨p, h1, h2, u, h3, h4⟩ | h
                      · exact Or.inl h
                      · by_cases hp : p = k'
                        · subst hp; rw [hgetk] at h4; obtain rfl := Option.some.inj h4; exact absurd h3 hw
                        · exact Or.inr (Or.inl ⟨p, by omega, h2, u, h3, h4⟩)
                      · exact Or.inr (Or.inr h)
                    cases hfd : found with
                    | true =>
                      simp only [mizmazelaw02_NetEnds.j6, if_true]
                      exact back true (Or.inl rfl)
                    | false =>
                      simp only [mizmazelaw02_NetEnds.j6, Bool.false_eq_true, if_false]
                      exact back _ (by rw [hfd] at hb; rcases hb with h | h
                                       · exact absurd h (by decide)
                                       · exact Or.inr h)
                | succ p ih3 =>
                  intro x hx
                  have hxm : x < m := by omega
                  have hrow := V.row t htn
                  refine Ev.next ?_
                  simp only [mizmazelaw02_NetEnds.l2, V.letters, Option.bind_some, if_pos (by omega : (x : Int) < (m : Int)), if_pos (by omega : (0 : Int) ≤ (i : Int)), if_pos (by omega : (i : Int) < (L.length : Int)), if_pos (by omega : (0 : Int) ≤ (t : Int)), if_pos (by omega : (t : Int) < (rows.length : Int)), if_pos (by omega : (0 : Int) ≤ (x : Int)), if_pos (by omega : (x : Int) < ((rd_L1 rows (t : Int)).length : Int)), hl, V.nxE htn hxm]
                  have := hasE e (nx rows t x)
                  rw [hR] at this
                  refine Ev.bind this ?_
                  simp only [@decide_eq_true _ (Classical.propDecidable _) (⟨V.nxLt htn hxm, het.trans (Conn.step hxm)⟩ : nx rows t x < n ∧ Conn (nx rows) m e (nx rows t x)), if_true, wrapS (by omega : x + 1 ≤ 9223372036854775807)]
                  exact ih3 (x + 1) (by omega)
              refine Ev.next ?_
              simp only [mizmazelaw02_NetEnds.l1, if_pos (by omega : (0 : Int) ≤ (i : Int)), if_pos (by omega : (i : Int) < (L.length : Int)), hl, toI_len, if_pos (by omega : (k' : Int) < (R.length : Int)), if_pos (by omega : (0 : Int) ≤ (k' : Int)), hrd, ref_state, Option.bind_some, hn, decide_eq_true (by omega : (0 : Int) ≤ (t : Int) ∧ (t : Int) < (n : Int)), if_true, if_pos (by omega : (0 : Int) ≤ (t : Int)), if_pos (by omega : (t : Int) < (n : Int))]
              refine Ev.bind (ref_below _ _ (by have := V.row t htn; omega)) ?_
              rw [V.ent t htn]
              refine Ev.next ?_
              simp only [mizmazelaw02_NetEnds.j4, Bool.not_true, Bool.false_eq_true, if_false]
              exact letters m 0 (by omega)
          refine Ev.next ?_
          simp only [mizmazelaw02_NetEnds.l0, if_pos (by omega : (i : Int) < (L.length : Int))]
          refine inner R.length 0 found (by omega) ?_
          rcases hf with h | ⟨i', h1, h2, t, h3, h4, h5⟩
          · exact Or.inl h
          · by_cases hii : i' = i
            · subst hii
              rw [hl] at h5
              unfold toI at h5
              obtain ⟨a, ha, hat⟩ := List.mem_map.1 h5
              obtain rfl : a = t := by omega
              obtain ⟨p, hp⟩ := List.mem_iff_getElem?.1 ha
              exact Or.inr (Or.inl ⟨p, Nat.zero_le p, (List.getElem?_eq_some_iff.1 hp).1, a, h4, hp⟩)
            · exact Or.inr (Or.inr ⟨i', by omega, h2, t, h3, h4, h5⟩)
      have hmemL := sinksTo_has hes (j := n) he
      rw [hL] at hmemL
      obtain ⟨i0, hi0, hi1⟩ := List.getElem_of_mem hmemL
      simp only [Bool.not_true]
      refine Ev.next ?_
      simp only [mizmazelaw02_NetEnds.j0, Bool.false_eq_true, if_false]
      have hns := net_sinks V
      rw [hL] at hns
      refine Ev.bind hns ?_
      simp only [if_true]
      refine Ev.next ?_
      have hne : ((L.length : Int) == 0) = false := by rw [beq_eq_false_iff_ne]; omega
      simp only [mizmazelaw02_NetEnds.j1, hne, Bool.false_eq_true, if_false]
      refine loop L.length 0 false (by omega) (Or.inr ⟨i0, Nat.zero_le _, hi0, e, he, hce, ?_⟩)
      rw [rdLE hi0, hi1]
      unfold toI
      exact List.mem_map.2 ⟨e, reachTo_mem.2 ⟨he, Conn.refl _ _ _⟩, rfl⟩
    · rw [decide_eq_false hsn]; exact out
end Go.Proofs.Ytjgdalhdiohclaa.Pure
end
