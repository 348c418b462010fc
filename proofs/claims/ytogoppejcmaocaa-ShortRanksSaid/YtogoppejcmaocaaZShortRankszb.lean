/- The law ShortRanks holds: Rank returns the least number of states to which a word leads, and the first shortest word that leads to no more, or the documented error, for any automaton; no bound on the argument beyond its type's. (text 28 of 30) -/
import Derived.Test.YtogoppejcmaocaaZShortRanksh
import Derived.Test.YtogoppejcmaocaaZShortRanksza
import Derived.Test.YtogoppejcmaocaaZShortRanksy
import Derived.Test.YtogoppejcmaocaaZShortRankso
/-! Part StmtShortRanks -/
section
-- Written by xrow.py, a program of this session's. Lean checks it.
namespace Go.Proofs.Ytogoppejcmaocaa.Q
/-- What is left to prove of the law ShortRanks. -/
def mizmazelaw04_ShortRanks.Pure : Prop := ∀ (l0_0 : List (List Int)), RowsOk l0_0 → ∃ k, mizmazelaw04_ShortRanks.f k l0_0 = some true
end Go.Proofs.Ytogoppejcmaocaa.Q
end
/-! Part MCard -/
section
namespace Go.Proofs.Ytogoppejcmaocaa.Q
open Go.RowKit Go.Proofs.YtogoppejcmaocaaW.PrintWords Go.Proofs.YtogoppejcmaocaaW.PrintLast Go.Proofs.YtogoppejcmaocaaW.PrintMore
set_option linter.unusedVariables false
set_option linter.unusedSectionVars false
/-! ### how many states a set has -/
theorem popAux_zero : ∀ f, Lib.popAux f 0 = 0
  | 0 => rfl
  | f + 1 => by unfold Lib.popAux; rw [popAux_zero f]
theorem popAux_add : ∀ a b x, Lib.popAux (a + b) x = Lib.popAux a x + Lib.popAux b (x / 2 ^ a)
  | 0, b, x => by simp [Lib.popAux]
  | a + 1, b, x => by
    have e1 : Lib.popAux (a + 1 + b) x = x % 2 + Lib.popAux (a + b) (x / 2) := by
      rw [show a + 1 + b = (a + b) + 1 by omega]; rfl
    have e2 : Lib.popAux (a + 1) x = x % 2 + Lib.popAux a (x / 2) := rfl
    have e3 : x / 2 / 2 ^ a = x / 2 ^ (a + 1) := by rw [Nat.div_div_eq_div_mul, Nat.pow_succ']
    rw [e1, e2, popAux_add a b (x / 2), e3]
    omega
theorem popAux_mod : ∀ a x, Lib.popAux a (x % 2 ^ a) = Lib.popAux a x
  | 0, x => rfl
  | a + 1, x => by
    unfold Lib.popAux
    have h1 : x % 2 ^ (a + 1) % 2 = x % 2 := Nat.mod_mod_of_dvd x (by rw [Nat.pow_succ]; exact Nat.dvd_mul_left _ _)
    have h2 : x % 2 ^ (a + 1) / 2 = x / 2 % 2 ^ a := by
      rw [Nat.pow_succ', Nat.mod_mul_right_div_self]
    rw [h1, h2, popAux_mod a (x / 2)]
theorem popAux_big {a x : Nat} (b : Nat) (h : x < 2 ^ a) : Lib.popAux (a + b) x = Lib.popAux a x := by
  rw [popAux_add, Nat.div_eq_of_lt h, popAux_zero]; rfl
def card (n s : Nat) : Nat := ((List.range n).filter fun t => s.testBit t).length
theorem card_pop : ∀ n s, card n s = Lib.popAux n s
  | 0, s => rfl
  | n + 1, s => by
    have ih := card_pop n (s / 2)
    unfold card at ih ⊢
    unfold Lib.popAux
    rw [← ih, List.range_succ_eq_map, List.filter_cons]
    have h0 : s.testBit 0 = decide (s % 2 = 1) := Nat.testBit_zero s
    have h1 : ((List.map Nat.succ (List.range n)).filter fun t => s.testBit t).length = ((List.range n).filter fun t => (s / 2).testBit t).length := by
      rw [List.filter_map, List.length_map]
      congr 1
      apply List.filter_congr
      intro t _
      show s.testBit (t + 1) = _
      rw [Nat.testBit_succ]
    rw [h0]
    rcases Nat.mod_two_eq_zero_or_one s with h | h
    · rw [h]; simp [h1]
    · rw [h]; simp [h1]; omega
theorem size_ev {n s : Nat} (hn : n ≤ 12) (hs : s < 2 ^ n) : short_set_size.f (s : Int) = some (card n s : Int) := by
  have h16 : s < 65536 := Nat.lt_of_lt_of_le hs (Nat.le_trans (Nat.pow_le_pow_right (by decide : 0 < 2) (show n ≤ 16 by omega)) (by decide))
  unfold short_set_size.f
  rw [if_pos (by omega)]
  have e1 : ((s : Int) / 256).toNat = s / 2 ^ 8 := by omega
  have e2 : ((s : Int) % 256).toNat = s % 2 ^ 8 := by omega
  have h8 : s / 2 ^ 8 < 2 ^ 8 := by omega
  have h8' : s % 2 ^ 8 < 2 ^ 8 := by omega
  unfold Lib.onesCount
  rw [e1, e2, show (64 : Nat) = 8 + 56 from rfl, popAux_big 56 h8, popAux_big 56 h8', popAux_mod, card_pop]
  have e3 : Lib.popAux n s = Lib.popAux (8 + 8) s := by
    have h1 := popAux_big (a := n) (x := s) (16 - n) hs
    rw [show n + (16 - n) = 8 + 8 by omega] at h1
    exact h1.symm
  rw [e3, popAux_add 8 8]
  congr 1
  omega
/-! ### how many states a word leaves -/
section
variable {rows : List (List Int)} {n m : Nat} (V : VA rows n m)
def rk (f : Nat → Nat → Nat) (n : Nat) (w : List Nat) : Nat := (imgL f n (List.range n) w).length
include V
theorem run_mv {w : List Nat} (hw : Wd m w) {t : Nat} (ht : t < n) : (run (mv (nx rows) n) (2 ^ n - 1) w).testBit t = true ↔ ∃ s, s < n ∧ run (nx rows) s w = t := by
  induction w using snoc_ind generalizing t with
  | h0 =>
    show (2 ^ n - 1).testBit t = true ↔ _
    rw [Nat.testBit_two_pow_sub_one]
    simp [run, ht]
  | h1 v x ih =>
    have hx : x < m := hw.right x (by simp)
    rw [run_snoc, mv_bit]
    constructor
    · rintro ⟨u, h1, h2, h3⟩
      obtain ⟨s, hs, he⟩ := (ih hw.left h1).1 h2
      exact ⟨s, hs, by rw [run_snoc, he, h3]⟩
    · rintro ⟨s, hs, he⟩
      rw [run_snoc] at he
      exact ⟨run (nx rows) s v, V.runLt hs hw.left, (ih hw.left (V.runLt hs hw.left)).2 ⟨s, hs, rfl⟩, he⟩
theorem run_card {w : List Nat} (hw : Wd m w) : card n (run (mv (nx rows) n) (2 ^ n - 1) w) = rk (nx rows) n w := by
  unfold card rk imgL
  congr 1
  apply List.filter_congr
  intro t ht
  have ht : t < n := List.mem_range.1 ht
  rw [Bool.eq_iff_iff, run_mv V hw ht, decide_eq_true_iff, List.mem_map]
  constructor
  · rintro ⟨s, hs, h⟩; exact ⟨s, List.mem_range.2 hs, h⟩
  · rintro ⟨s, hs, h⟩; exact ⟨s, List.mem_range.1 hs, h⟩
end
theorem Bfs.least {f : Nat → Nat → Nat} {m n s t : Nat} {q : List (Nat × List Nat)} (B : Bfs f m n s t q q.length 0) (v : List Nat) (hv : Wd m v) : ∃ a ∈ q, a.1 = run f s v ∧ code m a.2 ≤ code m v := by
  induction v using snoc_ind with
  | h0 => exact ⟨(s, []), List.mem_of_getElem? B.st, rfl, Nat.le_refl _⟩
  | h1 v y ih =>
    obtain ⟨a, ha, ha1, ha2⟩ := ih hv.left
    obtain ⟨j, hj⟩ := List.mem_iff_getElem?.1 ha
    have hlt := (List.getElem?_eq_some_iff.1 hj).1
    obtain ⟨b, hb, hb1, hb2⟩ := B.done j a y hj (hv.right y (by simp)) (Or.inl hlt)
    refine ⟨b, hb, by rw [run_snoc, hb1, ha1], ?_⟩
    rw [code_snoc] at hb2 ⊢
    have := Nat.mul_le_mul_left m ha2
    omega
/-- The words come in their order. -/
theorem Bfs.sorted {f : Nat → Nat → Nat} {m n s t i x : Nat} {q : List (Nat × List Nat)} (B : Bfs f m n s t q i x) : q.Pairwise fun a b => code m a.2 < code m b.2 := by
  rw [List.pairwise_iff_getElem]
  intro i j hi hj hij
  exact B.mono i j _ _ hij (List.getElem?_eq_getElem hi) (List.getElem?_eq_getElem hj)
section
variable {f : Nat → Nat → Nat} {n m s t : Nat} (hn : n ≤ 12)
include hn
theorem rankS_ev : ∀ (q : List (Nat × List Nat)) (r : Nat) (b : List Nat), (∀ e ∈ q, e.1 < 2 ^ n) → q.Pairwise (fun a b => code m a.2 < code m b.2) →
    ((∀ e ∈ q, r ≤ card n e.1) ∧ rankS (qI q) (r : Int) (toI b) = some ((r : Int), toI b)) ∨
    ∃ e ∈ q, card n e.1 < r ∧ (∀ a ∈ q, card n e.1 ≤ card n a.1) ∧ (∀ a ∈ q, card n a.1 = card n e.1 → code m e.2 ≤ code m a.2) ∧ rankS (qI q) (r : Int) (toI b) = some ((card n e.1 : Int), toI e.2)
  | [], _, _, _, _ => Or.inl ⟨(fun _ h => nomatch h), rfl⟩
  | e :: q, r, b, h, hp => by
    have hs := size_ev hn (h e List.mem_cons_self)
    rw [List.pairwise_cons] at hp
    have hq : ∀ e ∈ q, e.1 < 2 ^ n := fun b hb => h b (List.mem_cons_of_mem _ hb)
    by_cases c : card n e.1 < r
    · have e1 : rankS (qI (e :: q)) (r : Int) (toI b) = rankS (qI q) (card n e.1 : Int) (toI e.2) := by
        show ((short_set_size.f (e.1 : Int)).bind fun k => if k < (r : Int) then rankS (qI q) k (toI e.2) else rankS (qI q) (r : Int) (toI b)) = _
        rw [hs]
        show (if (card n e.1 : Int) < (r : Int) then _ else _) = _
        rw [if_pos (by omega)]
      rw [e1]
      right
      rcases rankS_ev q (card n e.1) e.2 hq hp.2 with ⟨h1, h2⟩ | ⟨a, ha, h1, h2, h3, h4⟩
      · refine ⟨e, List.mem_cons_self, c, ?_, ?_, h2⟩
        · intro a ha
          rcases List.mem_cons.1 ha with rfl | ha
          · exact Nat.le_refl _
          · exact h1 a ha
        · intro a ha _
          rcases List.mem_cons.1 ha with rfl | ha
          · exact Nat.le_refl _
          · exact Nat.le_of_lt (hp.1 a ha)
      · refine ⟨a, List.mem_cons_of_mem _ ha, by omega, ?_, ?_, h4⟩
        · intro b hb
          rcases List.mem_cons.1 hb with rfl | hb
          · omega
          · exact h2 b hb
        · intro b hb hc
          rcases List.mem_cons.1 hb with rfl | hb
          · omega
          · exact h3 b hb hc
    · have e1 : rankS (qI (e :: q)) (r : Int) (toI b) = rankS (qI q) (r : Int) (toI b) := by
        show ((short_set_size.f (e.1 : Int)).bind fun k => if k < (r : Int) then rankS (qI q) k (toI e.2) else rankS (qI q) (r : Int) (toI b)) = _
        rw [hs]
        show (if (card n e.1 : Int) < (r : Int) then _ else _) = _
        rw [if_neg (by omega)]
      rw [e1]
      rcases rankS_ev q r b hq hp.2 with ⟨h1, h2⟩ | ⟨a, ha, h1, h2, h3, h4⟩
      · refine Or.inl ⟨?_, h2⟩
        intro a ha
        rcases List.mem_cons.1 ha with rfl | ha
        · omega
        · exact h1 a ha
      · refine Or.inr ⟨a, List.mem_cons_of_mem _ ha, h1, ?_, ?_, h4⟩
        · intro b hb
          rcases List.mem_cons.1 hb with rfl | hb
          · omega
          · exact h2 b hb
        · intro b hb hc
          rcases List.mem_cons.1 hb with rfl | hb
          · omega
          · exact h3 b hb hc
end
end Go.Proofs.Ytogoppejcmaocaa.Q
end
/-! Part MAwake4 -/
section
namespace Go.Proofs.Ytogoppejcmaocaa.Q
open Go.RowKit Go.Proofs.YtogoppejcmaocaaW.PrintWords Go.Proofs.YtogoppejcmaocaaW.PrintLast Go.Proofs.YtogoppejcmaocaaW.PrintMore
set_option maxRecDepth 100000 in
theorem awake4 : Ev (fun k => mizmazelaw04_awake.f k) true := Ev.of (k := 60) (fun k => mizmazelaw04_awake.mono k) (by kernel_rfl)
theorem awake4_end : Ev (fun k => (mizmazelaw04_awake.f k).bind fun t => some t) true := Ev.bind awake4 (Ev.now _)
end Go.Proofs.Ytogoppejcmaocaa.Q
end
