/- No word leads from all states to fewer states than the rank; a reset word is not shorter than the shortest one and does not come before it; the rank is 1 exactly if there is a reset word, for any automaton and word. (text 31 of 35) -/
import Derived.Test.YtogoppejcmaocaaZShortLeastzd
import Derived.Test.YtogoppejcmaocaaZShortLeasts
/-! Part MShortest -/
section
namespace Go.Proofs.Ytogoppejcmaocaa.Q
open Go.RowKit Go.Proofs.YtogoppejcmaocaaW.PrintWords Go.Proofs.YtogoppejcmaocaaW.PrintLast Go.Proofs.YtogoppejcmaocaaW.PrintMore
set_option linter.unusedVariables false
set_option linter.unusedSectionVars false
/-! ### what Shortest and Rank return -/
theorem check_ok {rows : List (List Int)} (h : validB rows = true) (hn : rows.length ≤ 12) : short_check.f rows = some 0 := by
  unfold short_check.f auto_Valid.f
  rw [h]
  show (if true = true then (if (rows.length : Int) > 12 then (some 3) else (some 0)) else (some 1)) = some 0
  rw [if_pos rfl, if_neg (by omega)]
section
variable {rows : List (List Int)} {n m : Nat} (V : VA rows n m) (hn : n ≤ 12)
include V
theorem VA.valid : validB rows = true := validB_of V
theorem rk_le (w : List Nat) : rk (nx rows) n w ≤ n := by
  unfold rk imgL
  exact Nat.le_trans (List.length_filter_le _ _) (by simp)
theorem rk_pos {w : List Nat} (hw : Wd m w) : 1 ≤ rk (nx rows) n w := by
  have h0 := V.n0
  have : run (nx rows) 0 w ∈ imgL (nx rows) n (List.range n) w := imgL_mem.2 ⟨V.runLt h0 hw, 0, List.mem_range.2 h0, rfl⟩
  exact List.length_pos_of_mem this
include hn
theorem bfs_len {q : List (Nat × List Nat)} (B : Bfs (mv (nx rows) n) m (2 ^ n) (2 ^ n - 1) (2 ^ n) q q.length 0) {e : Nat × List Nat} (he : e ∈ q) : e.2.length ≤ 4096 := by
  obtain ⟨j, hj⟩ := List.mem_iff_getElem?.1 he
  have h1 := B.le j e hj
  have h2 := (List.getElem?_eq_some_iff.1 hj).1
  have h3 := B.len
  have h4 := two_small V hn
  omega
theorem shortest_ev : (∃ w, Wd m w ∧ rk (nx rows) n w = 1 ∧ (∀ v, Wd m v → rk (nx rows) n v = 1 → code m w ≤ code m v) ∧ w.length ≤ 4096 ∧ Ev (fun k => short_Shortest.f k rows) (toI w, 0)) ∨
    ((∀ v, Wd m v → rk (nx rows) n v ≠ 1) ∧ Ev (fun k => short_Shortest.f k rows) ([], 4)) := by
  obtain ⟨q, B, hE⟩ := sets_ev V hn
  have hlen : rows.length = n := V.len
  have h0 := V.n0
  have go : ∀ r, firstS (qI q) = some r → Ev (fun k => short_Shortest.f k rows) r := fun r hr => by
    have h1 : Ev (fun k => (short_sets.f k rows).bind firstS) r := Ev.bind hE (Ev.const hr)
    refine h1.congr fun k => ?_
    unfold short_Shortest.f
    rw [check_ok (validB_of V) (by omega)]
    rw [Option.bind_some, if_pos rfl, if_pos (by omega)]
  have lt : ∀ e ∈ q, e.1 < 2 ^ n := fun e he => (B.ok e he).1
  have cd : ∀ e ∈ q, card n e.1 = rk (nx rows) n e.2 := fun e he => by
    have h := B.ok e he
    rw [← run_card V h.2.1, h.2.2.1]
  rcases firstS_ev (m := m) hn q lt B.sorted with ⟨e, he, h1, h2, h3⟩ | ⟨h1, h2⟩
  · refine Or.inl ⟨e.2, (B.ok e he).2.1, by rw [← cd e he]; exact h1, ?_, bfs_len V hn B he, go _ h3⟩
    intro v hv hr
    obtain ⟨a, ha, ha1, ha2⟩ := B.least v hv
    have : card n a.1 = 1 := by rw [ha1, run_card V hv]; exact hr
    exact Nat.le_trans (h2 a ha this) ha2
  · refine Or.inr ⟨?_, go _ h2⟩
    intro v hv hr
    obtain ⟨a, ha, ha1, _⟩ := B.least v hv
    exact h1 a ha (by rw [ha1, run_card V hv]; exact hr)
theorem rank_ev : ∃ w, Wd m w ∧ (∀ v, Wd m v → rk (nx rows) n w ≤ rk (nx rows) n v) ∧ (∀ v, Wd m v → rk (nx rows) n v = rk (nx rows) n w → code m w ≤ code m v) ∧ w.length ≤ 4096 ∧ Ev (fun k => short_Rank.f k rows) ((rk (nx rows) n w : Int), toI w, 0) := by
  obtain ⟨q, B, hE⟩ := sets_ev V hn
  have hlen : rows.length = n := V.len
  have h0 := V.n0
  have lt : ∀ e ∈ q, e.1 < 2 ^ n := fun e he => (B.ok e he).1
  have cd : ∀ e ∈ q, card n e.1 = rk (nx rows) n e.2 := fun e he => by
    have h := B.ok e he
    rw [← run_card V h.2.1, h.2.2.1]
  have go : ∀ r : Int × List Int, rankS (qI q) ((n + 1 : Nat) : Int) (toI []) = some r → Ev (fun k => short_Rank.f k rows) (r.1, r.2, 0) := fun r hr => by
    have h1 : Ev (fun k => (short_sets.f k rows).bind fun L => (rankS L (wrap64 ((rows.length : Int) + 1)) []).bind fun p => some (p.1, p.2, (0 : Int))) (r.1, r.2, 0) := by
      refine Ev.bind hE (Ev.const ?_)
      rw [hlen, wrapS (by omega)]
      have hr' : rankS (qI q) ((n + 1 : Nat) : Int) [] = some r := hr
      rw [hr']; rfl
    refine h1.congr fun k => ?_
    unfold short_Rank.f
    rw [check_ok (validB_of V) (by omega)]
    rw [Option.bind_some, if_pos rfl, if_pos (by omega)]
  rcases rankS_ev (m := m) hn q (n + 1) [] lt B.sorted with ⟨h1, _⟩ | ⟨e, he, h1, h2, h3, h4⟩
  · exfalso
    have hq := List.mem_of_getElem? B.st
    have h5 := h1 _ hq
    rw [cd _ hq] at h5
    have h6 : n + 1 ≤ rk (nx rows) n [] := h5
    have := rk_le V ([] : List Nat)
    omega
  · refine ⟨e.2, (B.ok e he).2.1, ?_, ?_, bfs_len V hn B he, ?_⟩
    · intro v hv
      obtain ⟨a, ha, ha1, _⟩ := B.least v hv
      have := h2 a ha
      rw [cd e he, ha1, run_card V hv] at this
      exact this
    · intro v hv hr
      obtain ⟨a, ha, ha1, ha2⟩ := B.least v hv
      exact Nat.le_trans (h3 a ha (by rw [ha1, run_card V hv, cd e he]; exact hr)) ha2
    · have := go _ h4
      rw [cd e he] at this
      exact this
end
end Go.Proofs.Ytogoppejcmaocaa.Q
end
