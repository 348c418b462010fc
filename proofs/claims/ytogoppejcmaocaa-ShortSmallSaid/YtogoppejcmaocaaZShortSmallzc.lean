/- The law ShortSmall holds: every automaton with at most 4 states and 2 letters that has a reset word has one of at most (n - 1)^2 letters, Reset finds one exactly if Shortest does, and none that is shorter; no bound on the arguments beyond their types'. (text 29 of 32) -/
import Derived.Test.YtogoppejcmaocaaZShortSmallzb
import Derived.Test.YtogoppejcmaocaaZShortSmallv
import Derived.Test.YtogoppejcmaocaaZShortSmallj
import Derived.Test.YtogoppejcmaocaaZShortSmallt
import Derived.Test.YtogoppejcmaocaaZShortSmalll
import Derived.Test.YtogoppejcmaocaaZShortSmallr
/-! Part MShortest -/
section
namespace Go.Proofs.Ytogoppejcmaocaa.Q
open Go.RowKit Go.Proofs.YtogoppejcmaocaaW.PrintWords Go.Proofs.YtogoppejcmaocaaW.PrintLast Go.Proofs.YtogoppejcmaocaaW.PrintMore
set_option linter.unusedVariables false
set_option linter.unusedSectionVars false
/-! ### what Shortest and Rank return -/
theorem check_ok {rows : List (List Int)} (h : validB rows = true) (hn : rows.length ≤ 12) : short_check.f rows = some 0 := by
  unfold short_check.f auto_Valid.f
  rw [h]
  show (if true = true then (if (rows.length : Int) > 12 then (some 3) else (some 0)) else (some 1)) = some 0
  rw [if_pos rfl, if_neg (by omega)]
section
variable {rows : List (List Int)} {n m : Nat} (V : VA rows n m) (hn : n ≤ 12)
include V
theorem VA.valid : validB rows = true := validB_of V
include hn
theorem bfs_len {q : List (Nat × List Nat)} (B : Bfs (mv (nx rows) n) m (2 ^ n) (2 ^ n - 1) (2 ^ n) q q.length 0) {e : Nat × List Nat} (he : e ∈ q) : e.2.length ≤ 4096 := by
  obtain ⟨j, hj⟩ := List.mem_iff_getElem?.1 he
  have h1 := B.le j e hj
  have h2 := (List.getElem?_eq_some_iff.1 hj).1
  have h3 := B.len
  have h4 := two_small V hn
  omega
theorem shortest_ev : (∃ w, Wd m w ∧ rk (nx rows) n w = 1 ∧ (∀ v, Wd m v → rk (nx rows) n v = 1 → code m w ≤ code m v) ∧ w.length ≤ 4096 ∧ Ev (fun k => short_Shortest.f k rows) (toI w, 0)) ∨
    ((∀ v, Wd m v → rk (nx rows) n v ≠ 1) ∧ Ev (fun k => short_Shortest.f k rows) ([], 4)) := by
  obtain ⟨q, B, hE⟩ := sets_ev V hn
  have hlen : rows.length = n := V.len
  have h0 := V.n0
  have go : ∀ r, firstS (qI q) = some r → Ev (fun k => short_Shortest.f k rows) r := fun r hr => by
    have h1 : Ev (fun k => (short_sets.f k rows).bind firstS) r := Ev.bind hE (Ev.const hr)
    refine h1.congr fun k => ?_
    unfold short_Shortest.f
    rw [check_ok (validB_of V) (by omega)]
    rw [Option.bind_some, if_pos rfl, if_pos (by omega)]
  have lt : ∀ e ∈ q, e.1 < 2 ^ n := fun e he => (B.ok e he).1
  have cd : ∀ e ∈ q, card n e.1 = rk (nx rows) n e.2 := fun e he => by
    have h := B.ok e he
    rw [← run_card V h.2.1, h.2.2.1]
  rcases firstS_ev (m := m) hn q lt B.sorted with ⟨e, he, h1, h2, h3⟩ | ⟨h1, h2⟩
  · refine Or.inl ⟨e.2, (B.ok e he).2.1, by rw [← cd e he]; exact h1, ?_, bfs_len V hn B he, go _ h3⟩
    intro v hv hr
    obtain ⟨a, ha, ha1, ha2⟩ := B.least v hv
    have : card n a.1 = 1 := by rw [ha1, run_card V hv]; exact hr
    exact Nat.le_trans (h2 a ha this) ha2
  · refine Or.inr ⟨?_, go _ h2⟩
    intro v hv hr
    obtain ⟨a, ha, ha1, _⟩ := B.least v hv
    exact h1 a ha (by rw [ha1, run_card V hv]; exact hr)
end
end Go.Proofs.Ytogoppejcmaocaa.Q
end
/-! Part MRank -/
section
namespace Go.Proofs.Ytogoppejcmaocaa.Q
open Go.RowKit Go.Proofs.YtogoppejcmaocaaW.PrintWords Go.Proofs.YtogoppejcmaocaaW.PrintLast Go.Proofs.YtogoppejcmaocaaW.PrintMore
set_option linter.unusedVariables false
set_option linter.unusedSectionVars false
/-! ### the reference's rank -/
section
variable {rows : List (List Int)} {n m : Nat} (V : VA rows n m)
include V
theorem rk_one {w : List Nat} (hw : Wd m w) : rk (nx rows) n w = 1 ↔ ∀ s t, s < n → t < n → run (nx rows) s w = run (nx rows) t w := by
  have h0 := V.n0
  constructor
  · intro h s t hs ht
    have h1 : run (nx rows) s w ∈ imgL (nx rows) n (List.range n) w := imgL_mem.2 ⟨V.runLt hs hw, s, List.mem_range.2 hs, rfl⟩
    have h2 : run (nx rows) t w ∈ imgL (nx rows) n (List.range n) w := imgL_mem.2 ⟨V.runLt ht hw, t, List.mem_range.2 ht, rfl⟩
    obtain ⟨x, hx⟩ := List.length_eq_one_iff.1 h
    rw [hx] at h1 h2
    rw [List.mem_singleton.1 h1, List.mem_singleton.1 h2]
  · intro h
    unfold rk
    rw [imgL_one h0 (V.runLt h0 hw) (fun s hs => h s 0 (List.mem_range.1 hs) h0) ⟨0, List.mem_range.2 h0⟩]
    rfl
end
end Go.Proofs.Ytogoppejcmaocaa.Q
end
/-! Part MSmall -/
section
namespace Go.Proofs.Ytogoppejcmaocaa.Q
set_option linter.unusedVariables false
set_option linter.unusedSectionVars false
/-! ### at most four states, two letters -/
theorem Four.every {a b : Nat} (ha : a < 256) (hb : b < 256) : Four.ok1 (Four.tab a 16) (Four.tab b 16) 9 32768 = true := by
  rcases Nat.lt_or_ge a 64 with h | h
  · have := Four.oka_all 0 64 Four.all_a a h b hb
    rwa [Nat.zero_add] at this
  rcases Nat.lt_or_ge a 128 with h1 | h1
  · have := Four.oka_all 64 64 Four.all_b (a - 64) (by omega) b hb
    rwa [show 64 + (a - 64) = a by omega] at this
  rcases Nat.lt_or_ge a 192 with h2 | h2
  · have := Four.oka_all 128 64 Four.all_c (a - 128) (by omega) b hb
    rwa [show 128 + (a - 128) = a by omega] at this
  · have := Four.oka_all 192 64 Four.all_d (a - 192) (by omega) b hb
    rwa [show 192 + (a - 192) = a by omega] at this
theorem Four.found (a b : Nat) (ha : a < 256) (hb : b < 256) : ∃ ta tb, (∀ s, s < 16 → Four.im ta (4 * s) = Four.img a s) ∧ (∀ s, s < 16 → Four.im tb (4 * s) = Four.img b s) ∧ Four.ok1 ta tb 9 32768 = true := by
  have h1 := Four.tabsOk_all 256 Four.tabs_ok a ha
  have h2 := Four.tabsOk_all 256 Four.tabs_ok b hb
  have h3 := Four.every ha hb
  generalize Four.tab a 16 = ta at h1 h3
  generalize Four.tab b 16 = tb at h2 h3
  exact ⟨ta, tb, h1, h2, h3⟩
theorem card_single {t : Nat} (h : t < 16) : card 4 t = 1 ↔ Four.single t := by
  have : ∀ t, t < 16 → (decide (card 4 t = 1) = decide (t = 1 ∨ t = 2 ∨ t = 4 ∨ t = 8)) := by decide +kernel
  have := this t h
  rw [decide_eq_decide] at this
  exact this
section
variable {rows : List (List Int)}
theorem four_nine (V : VA rows 4 2) {v : List Nat} (hv : Wd 2 v) (hr : rk (nx rows) 4 v = 1) : ∃ w, Wd 2 w ∧ w.length ≤ 9 ∧ rk (nx rows) 4 w = 1 := by
  have lt : ∀ x, x < 2 → ∀ s, s < 4 → nx rows s x < 4 := fun x hx s hs => V.nxLt hs hx
  have e256 : ∀ x, x < 2 → Four.enc (nx rows) x < 256 := fun x hx => by
    have h0 := lt x hx 0 (by decide)
    have h1 := lt x hx 1 (by decide)
    have h2 := lt x hx 2 (by decide)
    have h3 := lt x hx 3 (by decide)
    unfold Four.enc; omega
  have mlt : ∀ x, x < 2 → ∀ s, mv (nx rows) 4 s x < 16 := fun x hx s => mv_lt V (by decide) hx
  have mpos : ∀ x, x < 2 → ∀ s, 1 ≤ s → s < 16 → 1 ≤ mv (nx rows) 4 s x := fun x hx s h1 h2 => by
    have : ∃ u, u < 4 ∧ s.testBit u = true := by
      refine Classical.byContradiction fun hn => ?_
      have : s = 0 := Nat.eq_of_testBit_eq fun i => by
        rw [Nat.zero_testBit]
        by_cases hi : i < 4
        · cases hb : s.testBit i with
          | false => rfl
          | true => exact absurd ⟨i, hi, hb⟩ hn
        · exact Nat.testBit_lt_two_pow (Nat.lt_of_lt_of_le h2 (by have : 2 ^ 4 ≤ 2 ^ i := Nat.pow_le_pow_right (by decide) (by omega); exact this))
      omega
    obtain ⟨u, hu, hb⟩ := this
    have hbit : (mv (nx rows) 4 s x).testBit (nx rows u x) = true := mv_bit.2 ⟨u, hu, hb, rfl⟩
    rcases Nat.eq_zero_or_pos (mv (nx rows) 4 s x) with h | h
    · rw [h, Nat.zero_testBit] at hbit; cases hbit
    · exact h
  have r15 : ∀ w, Wd 2 w → run (mv (nx rows) 4) 15 w < 16 := fun w hw => by
    induction w using snoc_ind with
    | h0 => show 15 < 16; decide
    | h1 w x ih => rw [run_snoc]; exact mlt x (hw.right x (by simp)) _
  have sg : ∀ w, Wd 2 w → (rk (nx rows) 4 w = 1 ↔ Four.single (run (mv (nx rows) 4) 15 w)) := fun w hw => by
    rw [← card_single (r15 w hw), ← run_card V hw]
  have key : ∀ ta tb : Nat, (∀ s, s < 16 → Four.im ta (4 * s) = mv (nx rows) 4 s 0) → (∀ s, s < 16 → Four.im tb (4 * s) = mv (nx rows) 4 s 1) → Four.ok1 ta tb 9 32768 = true → ∃ w, Wd 2 w ∧ w.length ≤ 9 ∧ rk (nx rows) 4 w = 1 := by
    intro ta tb ha hb hall
    have hg : ∀ s, 1 ≤ s → s < 16 → (1 ≤ mv (nx rows) 4 s 0 ∧ mv (nx rows) 4 s 0 < 16) ∧ (1 ≤ mv (nx rows) 4 s 1 ∧ mv (nx rows) 4 s 1 < 16) ∧ Four.im ta (4 * s) = mv (nx rows) 4 s 0 ∧ Four.im tb (4 * s) = mv (nx rows) 4 s 1 :=
      fun s h1 h2 => ⟨⟨mpos 0 (by decide) s h1 h2, mlt 0 (by decide) s⟩, ⟨mpos 1 (by decide) s h1 h2, mlt 1 (by decide) s⟩, ha s h2, hb s h2⟩
    have hA : ∀ t, (32768 : Nat).testBit t = true → 1 ≤ t ∧ t < 16 ∧ ∃ w, Wd 2 w ∧ w.length ≤ 0 ∧ run (mv (nx rows) 4) 15 w = t := fun t ht => by
      have : t = 15 := by
        have h1 : (2 ^ 15 : Nat).testBit t = true := ht
        rw [Nat.testBit_two_pow] at h1
        have := of_decide_eq_true h1
        omega
      subst this
      exact ⟨by decide, by decide, [], Wd.nil 2, Nat.le_refl _, rfl⟩
    have hB : ∀ w, Wd 2 w → w.length ≤ 0 → (32768 : Nat).testBit (run (mv (nx rows) 4) 15 w) = true := fun w hw hl => by
      have : w = [] := List.length_eq_zero_iff.1 (by omega)
      subst this
      have e : run (mv (nx rows) 4) 15 [] = 15 := rfl
      rw [e]
      decide
    obtain ⟨w, hw, hl, hs⟩ := Four.ok1_sound hg hv ((sg v hv).1 hr) 9 0 32768 hA hB hall
    exact ⟨w, hw, by omega, (sg w hw).2 hs⟩
  obtain ⟨ta, tb, h1, h2, h3⟩ := Four.found (Four.enc (nx rows) 0) (Four.enc (nx rows) 1) (e256 0 (by decide)) (e256 1 (by decide))
  exact key ta tb (fun s hs => (h1 s hs).trans (Four.img_mv (lt 0 (by decide)) s)) (fun s hs => (h2 s hs).trans (Four.img_mv (lt 1 (by decide)) s)) h3
/-- A reset word of at most (n - 1)^2 letters. -/
theorem small_short {n : Nat} (V : VA rows n 2) (hn : n ≤ 4) {v : List Nat} (hv : Wd 2 v) (hr : rk (nx rows) n v = 1) : ∃ w, Wd 2 w ∧ w.length ≤ (n - 1) * (n - 1) ∧ rk (nx rows) n w = 1 := by
  by_cases h4 : n = 4
  · subst h4; exact four_nine V hv hr
  · have h0 := V.n0
    obtain ⟨r, hs, _⟩ := reset_ev V
    rcases hs with ⟨w, hw, _, hall, hl⟩ | ⟨_, a, b, ha, hb, hab⟩
    · refine ⟨w, hw, ?_, (rk_one V hw).2 hall⟩
      have : n = 1 ∨ n = 2 ∨ n = 3 := by omega
      rcases this with rfl | rfl | rfl <;> simp [HH] at hl <;> omega
    · exact absurd ⟨v, hv, (rk_one V hv).1 hr a b ha hb⟩ hab
end
end Go.Proofs.Ytogoppejcmaocaa.Q
end
