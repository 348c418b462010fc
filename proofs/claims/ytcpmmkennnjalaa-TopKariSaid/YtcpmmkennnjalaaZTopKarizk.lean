/- In any Eulerian automaton that has a reset word, whatever set of states, neither empty nor all, is led into by more states with a word of at most n - 1 letters, and its shortest reset word has at most n^2 - 3n + 3 letters; in any circular one at most (n - 1)^2. (At most 9 states) (text 37 of 42) -/
import Derived.Test.YtcpmmkennnjalaaZTopKarizh
import Derived.Test.YtcpmmkennnjalaaZTopKariz
import Derived.Test.YtcpmmkennnjalaaZTopKarizj
import Derived.Test.YtcpmmkennnjalaaZTopKaril
section
namespace Go.Proofs.Ytcpmmkennnjalaa.Q
open Go.RowKit Go.Proofs.YtcpmmkennnjalaaW.PrintWords Go.Proofs.YtcpmmkennnjalaaW.PrintLast Go.Proofs.YtcpmmkennnjalaaW.PrintMore
set_option linter.unusedVariables false
set_option linter.unusedSectionVars false
/-! ### how many states a set has -/
def imgL (f : Nat → Nat → Nat) (n : Nat) (q w : List Nat) : List Nat := (List.range n).filter fun t => decide (t ∈ q.map fun s => run f s w)
theorem imgL_mem {f : Nat → Nat → Nat} {n t : Nat} {q w : List Nat} : t ∈ imgL f n q w ↔ t < n ∧ ∃ s ∈ q, run f s w = t := by
  unfold imgL
  rw [List.mem_filter, List.mem_range, decide_eq_true_eq, List.mem_map]
theorem imgL_srt (f : Nat → Nat → Nat) (n : Nat) (q w : List Nat) : (imgL f n q w).Pairwise (· < ·) := List.Pairwise.filter _ List.pairwise_lt_range
theorem imgL_one {f : Nat → Nat → Nat} {n t : Nat} {q w : List Nat} (hn : 0 < n) (ht : t < n) (h : ∀ s ∈ q, run f s w = t) (hq : ∃ s, s ∈ q) : imgL f n q w = [t] := by
  have hs := imgL_srt f n q w
  have hm : ∀ x, x ∈ imgL f n q w ↔ x = t := fun x => by
    rw [imgL_mem]
    constructor
    · rintro ⟨_, s, hs, rfl⟩; exact h s hs
    · rintro rfl; obtain ⟨s, hs⟩ := hq; exact ⟨ht, s, hs, h s hs⟩
  match hI : imgL f n q w with
  | [] => rw [hI] at hm; exact absurd ((hm t).2 rfl) (by simp)
  | [x] => rw [hI] at hm; rw [(hm x).1 List.mem_cons_self]
  | x :: y :: l =>
    rw [hI] at hm hs
    have h1 := (hm x).1 List.mem_cons_self
    have h2 := (hm y).1 (List.mem_cons_of_mem _ List.mem_cons_self)
    have h3 := (List.pairwise_cons.1 hs).1 y List.mem_cons_self
    omega
theorem popAux_zero : ∀ f, Lib.popAux f 0 = 0
  | 0 => rfl
  | f + 1 => by unfold Lib.popAux; rw [popAux_zero f]
theorem popAux_add : ∀ a b x, Lib.popAux (a + b) x = Lib.popAux a x + Lib.popAux b (x / 2 ^ a)
  | 0, b, x => by simp [Lib.popAux]
  | a + 1, b, x => by
    have e1 : Lib.popAux (a + 1 + b) x = x % 2 + Lib.popAux (a + b) (x / 2) := by
      rw [show a + 1 + b = (a + b) + 1 by omega]; rfl
    have e2 : Lib.popAux (a + 1) x = x % 2 + Lib.popAux a (x / 2) := rfl
    have e3 : x / 2 / 2 ^ a = x / 2 ^ (a + 1) := by rw [Nat.div_div_eq_div_mul, Nat.pow_succ']
    rw [e1, e2, popAux_add a b (x / 2), e3]
    omega
theorem popAux_mod : ∀ a x, Lib.popAux a (x % 2 ^ a) = Lib.popAux a x
  | 0, x => rfl
  | a + 1, x => by
    unfold Lib.popAux
    have h1 : x % 2 ^ (a + 1) % 2 = x % 2 := Nat.mod_mod_of_dvd x (by rw [Nat.pow_succ]; exact Nat.dvd_mul_left _ _)
    have h2 : x % 2 ^ (a + 1) / 2 = x / 2 % 2 ^ a := by
      rw [Nat.pow_succ', Nat.mod_mul_right_div_self]
    rw [h1, h2, popAux_mod a (x / 2)]
theorem popAux_big {a x : Nat} (b : Nat) (h : x < 2 ^ a) : Lib.popAux (a + b) x = Lib.popAux a x := by
  rw [popAux_add, Nat.div_eq_of_lt h, popAux_zero]; rfl
def card (n s : Nat) : Nat := ((List.range n).filter fun t => s.testBit t).length
theorem card_pop : ∀ n s, card n s = Lib.popAux n s
  | 0, s => rfl
  | n + 1, s => by
    have ih := card_pop n (s / 2)
    unfold card at ih ⊢
    unfold Lib.popAux
    rw [← ih, List.range_succ_eq_map, List.filter_cons]
    have h0 : s.testBit 0 = decide (s % 2 = 1) := Nat.testBit_zero s
    have h1 : ((List.map Nat.succ (List.range n)).filter fun t => s.testBit t).length = ((List.range n).filter fun t => (s / 2).testBit t).length := by
      rw [List.filter_map, List.length_map]
      congr 1
      apply List.filter_congr
      intro t _
      show s.testBit (t + 1) = _
      rw [Nat.testBit_succ]
    rw [h0]
    rcases Nat.mod_two_eq_zero_or_one s with h | h
    · rw [h]; simp [h1]
    · rw [h]; simp [h1]; omega
theorem size_ev {n s : Nat} (hn : n ≤ 12) (hs : s < 2 ^ n) : short_set_size.f (s : Int) = some (card n s : Int) := by
  have h16 : s < 65536 := Nat.lt_of_lt_of_le hs (Nat.le_trans (Nat.pow_le_pow_right (by decide : 0 < 2) (show n ≤ 16 by omega)) (by decide))
  unfold short_set_size.f
  rw [if_pos (by omega)]
  have e1 : ((s : Int) / 256).toNat = s / 2 ^ 8 := by omega
  have e2 : ((s : Int) % 256).toNat = s % 2 ^ 8 := by omega
  have h8 : s / 2 ^ 8 < 2 ^ 8 := by omega
  have h8' : s % 2 ^ 8 < 2 ^ 8 := by omega
  unfold Lib.onesCount
  rw [e1, e2, show (64 : Nat) = 8 + 56 from rfl, popAux_big 56 h8, popAux_big 56 h8', popAux_mod, card_pop]
  have e3 : Lib.popAux n s = Lib.popAux (8 + 8) s := by
    have h1 := popAux_big (a := n) (x := s) (16 - n) hs
    rw [show n + (16 - n) = 8 + 8 by omega] at h1
    exact h1.symm
  rw [e3, popAux_add 8 8]
  congr 1
  omega
/-! ### how many states a word leaves -/
section
variable {rows : List (List Int)} {n m : Nat} (V : VA rows n m)
def rk (f : Nat → Nat → Nat) (n : Nat) (w : List Nat) : Nat := (imgL f n (List.range n) w).length
include V
theorem run_mv {w : List Nat} (hw : Wd m w) {t : Nat} (ht : t < n) : (run (mv (nx rows) n) (2 ^ n - 1) w).testBit t = true ↔ ∃ s, s < n ∧ run (nx rows) s w = t := by
  induction w using snoc_ind generalizing t with
  | h0 =>
    show (2 ^ n - 1).testBit t = true ↔ _
    rw [Nat.testBit_two_pow_sub_one]
    simp [run, ht]
  | h1 v x ih =>
    have hx : x < m := hw.right x (by simp)
    rw [run_snoc, mv_bit]
    constructor
    · rintro ⟨u, h1, h2, h3⟩
      obtain ⟨s, hs, he⟩ := (ih hw.left h1).1 h2
      exact ⟨s, hs, by rw [run_snoc, he, h3]⟩
    · rintro ⟨s, hs, he⟩
      rw [run_snoc] at he
      exact ⟨run (nx rows) s v, V.runLt hs hw.left, (ih hw.left (V.runLt hs hw.left)).2 ⟨s, hs, rfl⟩, he⟩
theorem run_card {w : List Nat} (hw : Wd m w) : card n (run (mv (nx rows) n) (2 ^ n - 1) w) = rk (nx rows) n w := by
  unfold card rk imgL
  congr 1
  apply List.filter_congr
  intro t ht
  have ht : t < n := List.mem_range.1 ht
  rw [Bool.eq_iff_iff, run_mv V hw ht, decide_eq_true_iff, List.mem_map]
  constructor
  · rintro ⟨s, hs, h⟩; exact ⟨s, List.mem_range.2 hs, h⟩
  · rintro ⟨s, hs, h⟩; exact ⟨s, List.mem_range.1 hs, h⟩
end
theorem Bfs.least {f : Nat → Nat → Nat} {m n s t : Nat} {q : List (Nat × List Nat)} (B : Bfs f m n s t q q.length 0) (v : List Nat) (hv : Wd m v) : ∃ a ∈ q, a.1 = run f s v ∧ code m a.2 ≤ code m v := by
  induction v using snoc_ind with
  | h0 => exact ⟨(s, []), List.mem_of_getElem? B.st, rfl, Nat.le_refl _⟩
  | h1 v y ih =>
    obtain ⟨a, ha, ha1, ha2⟩ := ih hv.left
    obtain ⟨j, hj⟩ := List.mem_iff_getElem?.1 ha
    have hlt := (List.getElem?_eq_some_iff.1 hj).1
    obtain ⟨b, hb, hb1, hb2⟩ := B.done j a y hj (hv.right y (by simp)) (Or.inl hlt)
    refine ⟨b, hb, by rw [run_snoc, hb1, ha1], ?_⟩
    rw [code_snoc] at hb2 ⊢
    have := Nat.mul_le_mul_left m ha2
    omega
/-- The words come in their order. -/
theorem Bfs.sorted {f : Nat → Nat → Nat} {m n s t i x : Nat} {q : List (Nat × List Nat)} (B : Bfs f m n s t q i x) : q.Pairwise fun a b => code m a.2 < code m b.2 := by
  rw [List.pairwise_iff_getElem]
  intro i j hi hj hij
  exact B.mono i j _ _ hij (List.getElem?_eq_getElem hi) (List.getElem?_eq_getElem hj)
section
variable {f : Nat → Nat → Nat} {n m s t : Nat} (hn : n ≤ 12)
include hn
theorem firstS_ev : ∀ (q : List (Nat × List Nat)), (∀ e ∈ q, e.1 < 2 ^ n) → q.Pairwise (fun a b => code m a.2 < code m b.2) →
    (∃ e ∈ q, card n e.1 = 1 ∧ (∀ b ∈ q, card n b.1 = 1 → code m e.2 ≤ code m b.2) ∧ firstS (qI q) = some (toI e.2, 0)) ∨ ((∀ e ∈ q, card n e.1 ≠ 1) ∧ firstS (qI q) = some ([], 4))
  | [], _, _ => Or.inr ⟨(fun _ h => nomatch h), rfl⟩
  | e :: q, h, hp => by
    have hs := size_ev hn (h e List.mem_cons_self)
    rw [List.pairwise_cons] at hp
    by_cases c : card n e.1 = 1
    · refine Or.inl ⟨e, List.mem_cons_self, c, ?_, ?_⟩
      · intro b hb _
        rcases List.mem_cons.1 hb with rfl | hb
        · exact Nat.le_refl _
        · exact Nat.le_of_lt (hp.1 b hb)
      · show ((short_set_size.f (e.1 : Int)).bind fun k => if k = 1 then some (toI e.2, 0) else firstS (qI q)) = _
        rw [hs]
        show (if (card n e.1 : Int) = 1 then _ else _) = _
        rw [if_pos (by omega)]
    · have e1 : firstS (qI (e :: q)) = firstS (qI q) := by
        show ((short_set_size.f (e.1 : Int)).bind fun k => if k = 1 then some (toI e.2, 0) else firstS (qI q)) = _
        rw [hs]
        show (if (card n e.1 : Int) = 1 then _ else _) = _
        rw [if_neg (by omega)]
      rw [e1]
      rcases firstS_ev q (fun b hb => h b (List.mem_cons_of_mem _ hb)) hp.2 with ⟨b, hb, h1, h2, h3⟩ | ⟨h1, h2⟩
      · refine Or.inl ⟨b, List.mem_cons_of_mem _ hb, h1, ?_, h3⟩
        intro a ha hc
        rcases List.mem_cons.1 ha with rfl | ha
        · exact absurd hc c
        · exact h2 a ha hc
      · refine Or.inr ⟨?_, h2⟩
        intro a ha
        rcases List.mem_cons.1 ha with rfl | ha
        · exact c
        · exact h1 a ha
end
theorem check_ok {rows : List (List Int)} (h : validB rows = true) (hn : rows.length ≤ 12) : short_check.f rows = some 0 := by
  unfold short_check.f auto_Valid.f
  rw [h]
  show (if true = true then (if (rows.length : Int) > 12 then (some 3) else (some 0)) else (some 1)) = some 0
  rw [if_pos rfl, if_neg (by omega)]
section
variable {rows : List (List Int)} {n m : Nat} (V : VA rows n m) (hn : n ≤ 12)
include V
include hn
theorem bfs_len {q : List (Nat × List Nat)} (B : Bfs (mv (nx rows) n) m (2 ^ n) (2 ^ n - 1) (2 ^ n) q q.length 0) {e : Nat × List Nat} (he : e ∈ q) : e.2.length ≤ 4096 := by
  obtain ⟨j, hj⟩ := List.mem_iff_getElem?.1 he
  have h1 := B.le j e hj
  have h2 := (List.getElem?_eq_some_iff.1 hj).1
  have h3 := B.len
  have h4 := two_small V hn
  omega
theorem shortest_ev : (∃ w, Wd m w ∧ rk (nx rows) n w = 1 ∧ (∀ v, Wd m v → rk (nx rows) n v = 1 → code m w ≤ code m v) ∧ w.length ≤ 4096 ∧ Ev (fun k => short_Shortest.f k rows) (toI w, 0)) ∨
    ((∀ v, Wd m v → rk (nx rows) n v ≠ 1) ∧ Ev (fun k => short_Shortest.f k rows) ([], 4)) := by
  obtain ⟨q, B, hE⟩ := sets_ev V hn
  have hlen : rows.length = n := V.len
  have h0 := V.n0
  have go : ∀ r, firstS (qI q) = some r → Ev (fun k => short_Shortest.f k rows) r := fun r hr => by
    have h1 : Ev (fun k => (short_sets.f k rows).bind firstS) r := Ev.bind hE (Ev.const hr)
    refine h1.congr fun k => ?_
    unfold short_Shortest.f
    rw [check_ok (validB_of V) (by omega)]
    rw [Option.bind_some, if_pos rfl, if_pos (by omega)]
  have lt : ∀ e ∈ q, e.1 < 2 ^ n := fun e he => (B.ok e he).1
  have cd : ∀ e ∈ q, card n e.1 = rk (nx rows) n e.2 := fun e he => by
    have h := B.ok e he
    rw [← run_card V h.2.1, h.2.2.1]
  rcases firstS_ev (m := m) hn q lt B.sorted with ⟨e, he, h1, h2, h3⟩ | ⟨h1, h2⟩
  · refine Or.inl ⟨e.2, (B.ok e he).2.1, by rw [← cd e he]; exact h1, ?_, bfs_len V hn B he, go _ h3⟩
    intro v hv hr
    obtain ⟨a, ha, ha1, ha2⟩ := B.least v hv
    have : card n a.1 = 1 := by rw [ha1, run_card V hv]; exact hr
    exact Nat.le_trans (h2 a ha this) ha2
  · refine Or.inr ⟨?_, go _ h2⟩
    intro v hv hr
    obtain ⟨a, ha, ha1, _⟩ := B.least v hv
    exact h1 a ha (by rw [ha1, run_card V hv]; exact hr)
omit hn in
theorem rk_one {w : List Nat} (hw : Wd m w) : rk (nx rows) n w = 1 ↔ ∀ s t, s < n → t < n → run (nx rows) s w = run (nx rows) t w := by
  have h0 := V.n0
  constructor
  · intro h s t hs ht
    have h1 : run (nx rows) s w ∈ imgL (nx rows) n (List.range n) w := imgL_mem.2 ⟨V.runLt hs hw, s, List.mem_range.2 hs, rfl⟩
    have h2 : run (nx rows) t w ∈ imgL (nx rows) n (List.range n) w := imgL_mem.2 ⟨V.runLt ht hw, t, List.mem_range.2 ht, rfl⟩
    obtain ⟨x, hx⟩ := List.length_eq_one_iff.1 h
    rw [hx] at h1 h2
    rw [List.mem_singleton.1 h1, List.mem_singleton.1 h2]
  · intro h
    unfold rk
    rw [imgL_one h0 (V.runLt h0 hw) (fun s hs => h s 0 (List.mem_range.1 hs) h0) ⟨0, List.mem_range.2 h0⟩]
    rfl
end
end Go.Proofs.Ytcpmmkennnjalaa.Q
end
