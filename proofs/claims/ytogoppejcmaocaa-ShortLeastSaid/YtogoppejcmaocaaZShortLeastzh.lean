/- No word leads from all states to fewer states than the rank; a reset word is not shorter than the shortest one and does not come before it; the rank is 1 exactly if there is a reset word, for any automaton and word. (text 34 of 35) -/
import Derived.Test.YtogoppejcmaocaaZShortLeastzf
import Derived.Test.YtogoppejcmaocaaZShortLeastze
import Derived.Test.YtogoppejcmaocaaZShortLeasti
import Derived.Test.YtogoppejcmaocaaZShortLeastzg
import Derived.Test.YtogoppejcmaocaaZShortLeastr
import Derived.Test.YtogoppejcmaocaaZShortLeastza
/-! Part PureShortLeast -/
section
namespace Go.Proofs.Ytogoppejcmaocaa.Pure
open Go.RowKit Go.Proofs.YtogoppejcmaocaaW.PrintWords Go.Proofs.YtogoppejcmaocaaW.PrintLast Go.Proofs.YtogoppejcmaocaaW.PrintMore Go.Proofs.Ytogoppejcmaocaa.Q
set_option linter.unusedVariables false
set_option linter.unusedSectionVars false
set_option linter.unusedSimpArgs false
theorem img_len {f : Nat → Nat → Nat} {n : Nat} {w : List Nat} (h : ∀ s, s < n → run f s w < n) : (tidy (toI ((List.range n).map fun s => run f s w))).length = rk f n w := by
  obtain ⟨Q, h1, h2, h3⟩ := tidy_nat ((List.range n).map fun s => run f s w)
  rw [h1, toI_len]
  have hm : ∀ x, x ∈ Q ↔ x ∈ imgL f n (List.range n) w := fun x => by
    rw [h3, imgL_mem, List.mem_map]
    constructor
    · rintro ⟨s, hs, rfl⟩; exact ⟨h s (List.mem_range.1 hs), s, hs, rfl⟩
    · rintro ⟨_, s, hs, rfl⟩; exact ⟨s, hs, rfl⟩
  have nd1 : Q.Nodup := h2.imp fun h => Nat.ne_of_lt h
  have nd2 : (imgL f n (List.range n) w).Nodup := (imgL_srt f n (List.range n) w).imp fun h => Nat.ne_of_lt h
  exact Nat.le_antisymm (nodup_sub nd1 fun x hx => (hm x).1 hx) (nodup_sub nd2 fun x hx => (hm x).2 hx)
theorem ShortLeast : Q.mizmazelaw04_ShortLeast.Pure := by
  intro rows l1 ho h1
  refine Ev.rounds (g := fun k => mizmazelaw04_ShortLeast.f k rows l1) ?_
  unfold mizmazelaw04_ShortLeast.f
  refine Ev.bind (ref_valid rows ho) ?_
  have out : Ev (fun k => mizmazelaw04_ShortLeast.j0 k l1 true rows) true := by
    refine Ev.next ?_
    simp only [mizmazelaw04_ShortLeast.j0, if_true]
    exact awake4_end
  cases hv : validB rows with
  | false => simp only [Bool.false_eq_true, if_false]; exact out
  | true =>
    have V := VA.of' hv
    generalize hn : rows.length = n at V
    generalize hm : (rd_L1 rows 0).length = m at V
    have hn0 := V.n0
    have hm0 := V.m0
    simp only [if_true]
    by_cases h12 : (n : Int) > 12
    · simp only [if_pos h12]; exact out
    have hle : n ≤ 12 := by omega
    simp only [if_neg h12]
    refine Ev.bind (ref_word' V l1) ?_
    by_cases hl1 : l1.length ≤ 40000
    · rw [decide_eq_true hl1, Bool.true_and]
      cases hb1 : inB (m : Int) l1 with
      | false => exact out
      | true =>
        obtain ⟨u, hu, rfl⟩ := toI_of hb1
        rw [toI_len] at hl1
        obtain ⟨w, hw, hmin, hcode, hwl, hR⟩ := rank_ev V hle
        have lt : ∀ v, Wd m v → ∀ s, s < n → run (nx rows) s v < n := fun v hv s hs => V.runLt hs hv
        refine Ev.next ?_
        simp only [mizmazelaw04_ShortLeast.j0, Bool.not_true, Bool.false_eq_true, if_false, hn]
        refine Ev.bind (ref_all n (by omega)) ?_
        have last : ∀ (x6 : List Int) (x7 : Int), (x7 = 0 → x6 = toI w) → Ev (fun k => mizmazelaw04_ShortLeast.j1 k (toI u) (toI (List.range n)) x6 x7 (rk (nx rows) n w : Int) (toI w) false rows) true := by
          intro x6 x7 h7
          refine Ev.next ?_
          simp only [mizmazelaw04_ShortLeast.j1, Bool.false_eq_true, if_false]
          refine Ev.bind (auto_image V (q := List.range n) (fun x hx => List.mem_range.1 hx) List.pairwise_lt_range (by simp; omega) hw (by omega)) ?_
          simp only [if_true, img_len (lt w hw), bne_self_eq_false]
          refine Ev.next ?_
          simp only [mizmazelaw04_ShortLeast.j2, Bool.false_eq_true, if_false]
          have j3 : Ev (fun k => mizmazelaw04_ShortLeast.j3 k (toI u) (toI (List.range n)) (rk (nx rows) n w : Int) (toI w) false rows) true := by
            refine Ev.next ?_
            simp only [mizmazelaw04_ShortLeast.j3, Bool.false_eq_true, if_false]
            refine Ev.bind (auto_image V (q := List.range n) (fun x hx => List.mem_range.1 hx) List.pairwise_lt_range (by simp; omega) hu (by omega)) ?_
            have hge := hmin u hu
            simp only [if_true, img_len (lt u hu)]
            rw [decide_eq_false (by omega)]
            refine Ev.next ?_
            simp only [mizmazelaw04_ShortLeast.j4, Bool.false_eq_true, if_false, img_len (lt u hu), toI_len]
            by_cases c1 : rk (nx rows) n u = rk (nx rows) n w
            · have hc := hcode u hu c1
              have hlen : w.length ≤ u.length := by
                rcases Nat.lt_or_ge u.length w.length with h | h
                · exact absurd (code_len hm0 hu hw h) (by omega)
                · exact h
              simp only [if_neg (show ¬ ((rk (nx rows) n u : Nat) : Int) > ((rk (nx rows) n w : Nat) : Int) by omega)]
              by_cases c2 : w.length < u.length
              · simp only [if_pos (show (u.length : Int) > (w.length : Int) by omega)]; exact awake4_end
              · simp only [if_neg (show ¬ (u.length : Int) > (w.length : Int) by omega), if_pos (show (u.length : Int) = (w.length : Int) by omega)]
                refine Ev.bind (ref_before hu hw (by omega) (by omega)) ?_
                rw [decide_eq_false (show ¬ code m u < code m w by omega)]
                exact Ev.congr (fun k => by simp) awake4_end
            · simp only [if_pos (show ((rk (nx rows) n u : Nat) : Int) > ((rk (nx rows) n w : Nat) : Int) by omega)]; exact awake4_end
          by_cases c7 : x7 = 0
          · simp only [if_pos c7, h7 c7]
            refine Ev.bind (ref_same _ _ (by rw [toI_len]; omega)) ?_
            rw [decide_eq_true rfl]
            exact j3
          · simp only [if_neg c7]; exact j3
        rcases shortest_ev V hle with ⟨w1, hw1, hr1, hc1, hl1', hS⟩ | ⟨hno, hS⟩
        · refine Ev.bind hS (Ev.bind hR ?_)
          have e1 : rk (nx rows) n w = 1 := Nat.le_antisymm (hr1 ▸ hmin w1 hw1) (rk_pos V hw)
          have e2 : w1 = w := code_inj _ _ hw1 hw (Nat.le_antisymm (hc1 w hw e1) (hcode w1 hw1 (hr1.trans e1.symm)))
          have := last (toI w1) 0 fun _ => by rw [e2]
          rw [e1] at this ⊢
          exact Ev.congr (fun k => by simp) this
        · refine Ev.bind hS (Ev.bind hR ?_)
          have e1 : rk (nx rows) n w ≠ 1 := hno w hw
          have := last [] 4 fun h => absurd h (by decide)
          have e2 : (((rk (nx rows) n w : Nat) : Int) == 1) = false := by
            rw [beq_eq_false_iff_ne]; omega
          refine Ev.congr (fun k => ?_) this
          simp [e2]
    · rw [decide_eq_false hl1, Bool.false_and]
      exact out
end Go.Proofs.Ytogoppejcmaocaa.Pure
end
