/- NetClasses returns true for every input of its row; no further conditions. (text 14 of 15) -/
import Derived.Test.YtjgdalhdiohclaaZNetClassesh
import Derived.Test.YtjgdalhdiohclaaZNetClassesm
import Derived.Test.YtjgdalhdiohclaaZNetClassesi
/-! Part StmtNetClasses -/
section
-- Written by xrow.py, a program of this session's. Lean checks it.
namespace Go.Proofs.Ytjgdalhdiohclaa.Q
/-- What is left to prove of the law NetClasses. -/
def mizmazelaw02_NetClasses.Pure : Prop := ∀ (l0_0 : List (List Int)), ∀ (a1 : Int), ∀ (l2 : List Int), RowsOk l0_0 → (-9223372036854775808 ≤ a1 ∧ a1 ≤ 9223372036854775807) → IntsOk l2 → ∃ k, mizmazelaw02_NetClasses.f k l0_0 a1 l2 = some true
end Go.Proofs.Ytjgdalhdiohclaa.Q
end
/-! Part PureNetClasses -/
section
namespace Go.Proofs.Ytjgdalhdiohclaa.Pure
open Go.RowKit Go.Proofs.YtjgdalhdiohclaaW.PrintWords Go.Proofs.YtjgdalhdiohclaaW.PrintLast Go.Proofs.YtjgdalhdiohclaaW.PrintMore Go.Proofs.Ytjgdalhdiohclaa.Q
theorem walk_first {rows : List (List Int)} {n m : Nat} (V : VA rows n m) : ∀ k, ∃ t, t < n ∧ Walk (nx rows) m k 0 t
  | 0 => ⟨0, V.n0, Walk.refl _ _ _⟩
  | k + 1 => by
    obtain ⟨t, h1, h2⟩ := walk_first V k
    exact ⟨_, V.nxLt h1 V.m0, h2.trans (Walk.one V.m0)⟩
theorem ref_word {rows : List (List Int)} {n m : Nat} (V : VA rows n m) (l : List Int) : Ev (fun k => mizmazeref01_Word.f k rows l) (decide (l.length ≤ 40000) && inB (m : Int) l) := by
  unfold mizmazeref01_Word.f
  by_cases h : l.length ≤ 40000
  · simp only [if_pos (by omega : (l.length : Int) ≤ 40000), V.letters, Option.bind_some]
    rw [decide_eq_true h, Bool.true_and]
    exact Ev.bind (ref_below _ _ (by omega)) (Ev.now _)
  · simp only [if_neg (by omega : ¬ (l.length : Int) ≤ 40000)]
    rw [decide_eq_false h, Bool.false_and]; exact Ev.now _
theorem NetClasses : Q.mizmazelaw02_NetClasses.Pure := by
  intro rows s word ho hs hw
  refine Ev.rounds (g := fun k => mizmazelaw02_NetClasses.f k rows s word) ?_
  unfold mizmazelaw02_NetClasses.f
  refine Ev.bind (ref_valid rows ho) ?_
  have out : Ev (fun k => mizmazelaw02_NetClasses.j0 k s word true rows) true := by
    refine Ev.next ?_
    simp only [mizmazelaw02_NetClasses.j0, if_true]
    exact Ev.bind awake2 (Ev.now _)
  cases hv : validB rows with
  | false => simp only [Bool.false_eq_true, if_false]; exact out
  | true =>
    have V := VA.of hv
    generalize hn : rows.length = n at V
    generalize hm : (rd_L1 rows 0).length = m at V
    have h60 := V.n60; have h6 := V.m6
    simp only [if_true, ref_state, Option.bind_some, hn]
    by_cases hsn : 0 ≤ s ∧ s < (n : Int)
    · simp only [decide_eq_true hsn, if_true]
      refine Ev.bind (ref_word V word) ?_
      by_cases hwl : word.length ≤ 40000
      · rw [decide_eq_true hwl, Bool.true_and]
        cases hib : inB (m : Int) word with
        | false => exact out
        | true =>
          obtain ⟨w, hwd, rfl⟩ := toI_of hib
          rw [toI_len] at hwl
          obtain ⟨s', rfl⟩ := Int.eq_ofNat_of_zero_le hsn.1
          have hsl : s' < n := by omega
          refine Ev.next ?_
          simp only [mizmazelaw02_NetClasses.j0, Bool.not_true, Bool.false_eq_true, if_false]
          by_cases hc : SC (nx rows) n m
          · obtain ⟨d, l, c, p1, p2, p3, p4, p5, p6, p7, p8⟩ := period_yes V hc
            refine Ev.bind p1 (Ev.bind p2 (Ev.bind (connected_says V (b := true) (by simp [hc])) ?_))
            simp only [if_true, (by decide : ((true != ((0 : Int) == 0)) = true) = False), if_false]
            refine Ev.next ?_
            simp only [mizmazelaw02_NetClasses.j1, (by decide : (true != ((0 : Int) == 0)) = false), Bool.false_eq_true, if_false, if_true]
            refine Ev.bind (auto_run V hsl hwd hwl) ?_
            have hrl := V.runLt hsl hwd
            -- the class of the end
            have hcls : (l s' % d + w.length) % d = l (run (nx rows) s' w) % d := by
              have h := Off.walk (fun s x => V.nxLt) p7.dvd w s' hsl hwd
              have h3 := (Int.emod_eq_emod_iff_emod_sub_eq_zero).2 (Int.emod_eq_zero_of_dvd h)
              have h4 : ((l s' + w.length : Nat) : Int) % (d : Int) = ((l (run (nx rows) s' w) : Nat) : Int) % (d : Int) := by rw [← h3]; simp
              have h5 : (l s' + w.length) % d = l (run (nx rows) s' w) % d := by omega
              rw [← h5, Nat.mod_add_mod]
            have hld : l s' % d < d := Nat.mod_lt _ p5
            have hls := p6.lt s' hsl
            have hle := Nat.mod_le (l s') d
            have hw1 : wrap64 (((l s' % d : Nat) : Int) + (w.length : Int)) = ((l s' % d + w.length : Nat) : Int) := by rw [wrapI (by omega) (by omega)]; omega
            have heq : (rd c ((run (nx rows) s' w : Nat) : Int) != Int.tmod (wrap64 (rd c (s' : Int) + ((toI w).length : Int))) (d : Int)) = false := by
              rw [p4 _ hrl, p4 _ hsl, toI_len, hw1, tmod_nat, hcls]; simp
            simp only [if_true, if_neg (by omega : ¬ (d : Int) < 1), if_pos (by omega : (c.length : Int) = (rows.length : Int)), if_pos (by omega : (0 : Int) ≤ ((run (nx rows) s' w : Nat) : Int)), if_pos (by omega : ((run (nx rows) s' w : Nat) : Int) < (c.length : Int)), if_pos (by omega : (0 : Int) ≤ (s' : Int)), if_pos (by omega : (s' : Int) < (c.length : Int)), if_neg (by omega : ¬ (d : Int) = 0), heq]
            refine Ev.next ?_
            simp only [mizmazelaw02_NetClasses.j2, Bool.false_eq_true, if_false]
            have loop : ∀ (g i : Nat), i + g = d → Ev (fun k => mizmazelaw02_NetClasses.l0 k (d : Int) c (i : Int)) true := by
              intro g
              induction g with
              | zero =>
                intro i hi
                refine Ev.next ?_
                simp only [mizmazelaw02_NetClasses.l0, if_neg (by omega : ¬ (i : Int) < (d : Int))]
                exact Ev.bind awake2 (Ev.now _)
              | succ g ih =>
                intro i hi
                have hdn : d ≤ 3 * n := by
                  obtain ⟨k, hk, hk2⟩ := back_short V hc (V.nxLt V.n0 V.m0) V.n0
                  have := Nat.le_of_dvd (by omega) (p8.dvd _ ((Walk.one V.m0).trans hk2)); omega
                refine Ev.next ?_
                simp only [mizmazelaw02_NetClasses.l0, if_pos (by omega : (i : Int) < (d : Int)), wrapS (by omega : i + 1 ≤ 9223372036854775807)]
                refine Ev.bind (ref_has _ _ (by omega)) ?_
                have hin : (i : Int) ∈ c := by
                  obtain ⟨t, ht, w, a, b, e⟩ := walk_first V i
                  have h := Off.walk (fun s x => V.nxLt) p7.dvd w 0 V.n0 a
                  rw [p6.zero, b, e] at h
                  have h2 : (d : Int) ∣ (i : Int) - (l t : Int) := by simpa using h
                  have h3 := (Int.emod_eq_emod_iff_emod_sub_eq_zero).2 (Int.emod_eq_zero_of_dvd h2)
                  have h4 : i % d = l t % d := by omega
                  have h5 := p4 t ht
                  rw [← h4, Nat.mod_eq_of_lt (by omega)] at h5
                  rw [← h5, rdE (by omega)]
                  exact List.getElem_mem _
                simp only [decide_eq_true hin, if_true]
                exact ih (i + 1) (by omega)
            exact loop d 0 (by omega)
          · refine Ev.bind (period_no V hc) (Ev.bind (classes_no V hc) (Ev.bind (connected_says V (b := false) (by simp [hc])) ?_))
            simp only [if_true, (by decide : ((false != ((2 : Int) == 0)) = true) = False), if_false]
            refine Ev.next ?_
            simp only [mizmazelaw02_NetClasses.j1, (by decide : (false != ((2 : Int) == 0)) = false), Bool.false_eq_true, if_false, if_neg (by decide : ¬ (2 : Int) = 0)]
            exact Ev.bind awake2 (Ev.now _)
      · rw [decide_eq_false hwl, Bool.false_and]; exact out
    · simp only [decide_eq_false hsn, Bool.false_eq_true, if_false]; exact out
end Go.Proofs.Ytjgdalhdiohclaa.Pure
end
