/- NetReset returns true for every input of its row; no further conditions. (text 19 of 20) -/
import Derived.Test.YtjgdalhdiohclaaZNetReseth
import Derived.Test.YtjgdalhdiohclaaZNetResetr
import Derived.Test.YtjgdalhdiohclaaZNetReseti
import Derived.Test.YtjgdalhdiohclaaZNetResetq
import Derived.Test.YtjgdalhdiohclaaZNetResetm
/-! Part StmtNetReset -/
section
-- Written by xrow.py, a program of this session's. Lean checks it.
namespace Go.Proofs.Ytjgdalhdiohclaa.Q
/-- What is left to prove of the law NetReset. -/
def mizmazelaw02_NetReset.Pure : Prop := ∀ (l0_0 : List (List Int)), ∀ (l1 : List Int), RowsOk l0_0 → IntsOk l1 → ∃ k, mizmazelaw02_NetReset.f k l0_0 l1 = some true
end Go.Proofs.Ytjgdalhdiohclaa.Q
end
/-! Part PureNetReset -/
section
namespace Go.Proofs.Ytjgdalhdiohclaa.Pure
open Go.RowKit Go.Proofs.YtjgdalhdiohclaaW.PrintWords Go.Proofs.YtjgdalhdiohclaaW.PrintLast Go.Proofs.YtjgdalhdiohclaaW.PrintMore Go.Proofs.Ytjgdalhdiohclaa.Q
theorem ref_word' {rows : List (List Int)} {n m : Nat} (V : VA rows n m) (l : List Int) : Ev (fun k => mizmazeref01_Word.f k rows l) (decide (l.length ≤ 40000) && inB (m : Int) l) := by
  unfold mizmazeref01_Word.f
  by_cases h : l.length ≤ 40000
  · simp only [if_pos (by omega : (l.length : Int) ≤ 40000), V.letters, Option.bind_some]
    rw [decide_eq_true h, Bool.true_and]
    exact Ev.bind (ref_below _ _ (by omega)) (Ev.now _)
  · simp only [if_neg (by omega : ¬ (l.length : Int) ≤ 40000)]
    rw [decide_eq_false h, Bool.false_and]; exact Ev.now _
theorem one_sink {f : Nat → Nat → Nat} {n m s0 : Nat} (h : ∀ s, s < n → IsSink f n m s → s = s0) (h0 : IsSink f n m s0) : ∀ j, j ≤ n → sinksTo f n m j = if s0 < j then [toI (reachTo f n m s0)] else [] := by
  intro j
  induction j with
  | zero => intro _; simp [sinksTo]
  | succ j ih =>
    intro hj
    have e := ih (by omega)
    by_cases hs : IsSink f n m j
    · obtain rfl := h j (by omega) hs
      rw [sinksTo_yes hs, e, if_neg (by omega), if_pos (by omega)]; rfl
    · rw [sinksTo_no hs, e]
      have : s0 ≠ j := fun e => hs (e ▸ h0)
      by_cases h1 : s0 < j
      · rw [if_pos h1, if_pos (by omega)]
      · rw [if_neg h1, if_neg (by omega)]
theorem NetReset : Q.mizmazelaw02_NetReset.Pure := by
  intro rows word ho hw
  refine Ev.rounds (g := fun k => mizmazelaw02_NetReset.f k rows word) ?_
  unfold mizmazelaw02_NetReset.f
  refine Ev.bind (ref_valid rows ho) ?_
  have out : Ev (fun k => mizmazelaw02_NetReset.j0 k word true rows) true := by
    refine Ev.next ?_
    simp only [mizmazelaw02_NetReset.j0, if_true]
    exact Ev.bind awake2 (Ev.now _)
  cases hv : validB rows with
  | false => simp only [Bool.false_eq_true, if_false]; exact out
  | true =>
    have V := VA.of hv
    generalize hn : rows.length = n at V
    generalize hm : (rd_L1 rows 0).length = m at V
    have h60 := V.n60; have hn0 := V.n0
    simp only [if_true]
    refine Ev.bind (ref_word' V word) ?_
    by_cases hwl : word.length ≤ 40000
    · rw [decide_eq_true hwl, Bool.true_and]
      cases hib : inB (m : Int) word with
      | false => exact out
      | true =>
        obtain ⟨w, hwd, rfl⟩ := toI_of hib
        rw [toI_len] at hwl
        refine Ev.next ?_
        simp only [mizmazelaw02_NetReset.j0, Bool.not_true, Bool.false_eq_true, if_false, hn]
        refine Ev.bind (ref_all n (by omega)) ?_
        refine Ev.bind (auto_image V (q := List.range n) (fun x hx => List.mem_range.1 hx) List.pairwise_lt_range (by rw [List.length_range]; omega) hwd hwl) ?_
        refine Ev.bind (net_sinks V) ?_
        simp only [if_true, (by decide : ((0 : Int) != 0) = false)]
        generalize hI : tidy (toI ((List.range n).map fun s => run (nx rows) s w)) = I
        refine Ev.next ?_
        by_cases h1 : I.length = 1
        · obtain ⟨z, rfl⟩ : ∃ z, I = [z] := List.length_eq_one_iff.1 h1
          have hall : ∀ s, s < n → ((run (nx rows) s w : Nat) : Int) = z := fun s hs => by
            have : ((run (nx rows) s w : Nat) : Int) ∈ tidy (toI ((List.range n).map fun s => run (nx rows) s w)) := tidy_mem.2 (by
              unfold toI; rw [List.map_map]
              exact List.mem_map.2 ⟨s, List.mem_range.2 hs, rfl⟩)
            rw [hI] at this; simpa using this
          have hu := hall 0 hn0
          generalize hru : run (nx rows) 0 w = u at hu
          have hun : u < n := hru ▸ V.runLt hn0 hwd
          have hcu : ∀ s, s < n → Conn (nx rows) m s u := fun s hs => ⟨w, hwd, by have := hall s hs; omega⟩
          obtain ⟨s0, hs0, hsk, _⟩ := some_sink (fun s x => V.nxLt (s := s) (x := x)) hn0
          have huniq : ∀ s, s < n → IsSink (nx rows) n m s → s = s0 := fun s hs hk => by
            have a := (hk u hun (hcu s hs)).2
            have b := (hsk u hun (hcu s0 hs0)).2
            have c := (hk s0 hs0 ((hcu s hs).trans b)).1
            have d := (hsk s hs ((hcu s0 hs0).trans a)).1
            omega
          have hL := one_sink huniq hsk n (Nat.le_refl n)
          rw [if_pos hs0] at hL
          rw [hL]
          have e1 : rd_L1 [toI (reachTo (nx rows) n m s0)] 0 = toI (reachTo (nx rows) n m s0) := rfl
          have e2 : rd [z] 0 = z := rfl
          simp only [mizmazelaw02_NetReset.j1, Bool.false_eq_true, if_false, List.length_cons, List.length_nil, Nat.zero_add, Int.natCast_one, if_true, if_pos (by decide : (0 : Int) < 1), e1, e2]
          refine Ev.bind (ref_has _ _ (by rw [toI_len]; have := reachTo_len (nx rows) n m s0; omega)) ?_
          have hin : z ∈ toI (reachTo (nx rows) n m s0) := by
            rw [← hu]; unfold toI
            exact List.mem_map.2 ⟨u, reachTo_mem.2 ⟨hun, hcu s0 hs0⟩, rfl⟩
          simp only [decide_eq_true hin, if_true]
          exact Ev.bind awake2 (Ev.now _)
        · simp only [mizmazelaw02_NetReset.j1, Bool.false_eq_true, if_false, if_neg (by omega : ¬ (I.length : Int) = 1)]
          exact Ev.bind awake2 (Ev.now _)
    · rw [decide_eq_false hwl, Bool.false_and]; exact out
end Go.Proofs.Ytjgdalhdiohclaa.Pure
end
