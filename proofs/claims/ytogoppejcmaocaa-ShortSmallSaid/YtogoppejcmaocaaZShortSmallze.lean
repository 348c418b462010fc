/- The law ShortSmall holds: every automaton with at most 4 states and 2 letters that has a reset word has one of at most (n - 1)^2 letters, Reset finds one exactly if Shortest does, and none that is shorter; no bound on the arguments beyond their types'. (text 31 of 32) -/
import Derived.Test.YtogoppejcmaocaaZShortSmallj
import Derived.Test.YtogoppejcmaocaaZShortSmallzd
import Derived.Test.YtogoppejcmaocaaZShortSmallzc
import Derived.Test.YtogoppejcmaocaaZShortSmallzb
/-! Part StmtShortSmall -/
section
-- Written by xrow.py, a program of this session's. Lean checks it.
namespace Go.Proofs.Ytogoppejcmaocaa.Q
/-- What is left to prove of the law ShortSmall. -/
def mizmazelaw04_ShortSmall.Pure : Prop := ∀ (a0 : Int), ∀ (a1 : Int), (0 ≤ a0 ∧ a0 ≤ 255) → (0 ≤ a1 ∧ a1 ≤ 4294967295) → ∃ k, mizmazelaw04_ShortSmall.f k a0 a1 = some true
end Go.Proofs.Ytogoppejcmaocaa.Q
end
/-! Part PureShortSmall -/
section
namespace Go.Proofs.Ytogoppejcmaocaa.Pure
open Go.RowKit Go.Proofs.YtogoppejcmaocaaW.PrintWords Go.Proofs.YtogoppejcmaocaaW.PrintLast Go.Proofs.YtogoppejcmaocaaW.PrintMore Go.Proofs.Ytogoppejcmaocaa.Q
set_option linter.unusedVariables false
set_option linter.unusedSectionVars false
set_option linter.unusedSimpArgs false
/-- Rows of two states each. -/
def Two (n : Nat) (rows : List (List Int)) : Prop := ∀ r ∈ rows, r.length = 2 ∧ inB (n : Int) r = true
theorem Two.va {n : Nat} {rows : List (List Int)} (h0 : 0 < n) (hn : n ≤ 60) (h : Two n rows) (hl : rows.length = n) : VA rows n 2 :=
  ⟨hl, h0, hn, by decide, by decide, fun s hs => by rw [rdLE (by omega)]; exact (h _ (List.getElem_mem _)).1, fun s hs => by rw [rdLE (by omega)]; exact (h _ (List.getElem_mem _)).2⟩
theorem small_rest {n c : Nat} {rows : List (List Int)} (V : VA rows n 2) (hn : n ≤ 4) : Ev (fun k => mizmazelaw04_ShortSmall.l0 k (c : Int) (n : Int) (n : Int) rows) true := by
  have h0 := V.n0
  refine Ev.step (fun k => by rw [mizmazelaw04_ShortSmall.l0, if_neg (by omega)]) ?_
  have hmul : wrap64 ((wrap64 ((n : Int) - 1)) * (wrap64 ((n : Int) - 1))) = (((n - 1) * (n - 1) : Nat) : Int) := by
    have : n = 1 ∨ n = 2 ∨ n = 3 ∨ n = 4 := by omega
    rcases this with rfl | rfl | rfl | rfl <;> first | decide | simp [wrap64]
  obtain ⟨r, hs, hR⟩ := reset_ev V
  rcases shortest_ev V (by omega) with ⟨w, hw, hr1, hmin, hwl, hS⟩ | ⟨hno, hS⟩
  · refine Ev.bind hS (Ev.bind hR ?_)
    rcases hs with ⟨u, hu, rfl, hall, hl⟩ | ⟨_, a, b, ha, hb, hab⟩
    · have len : ∀ v, Wd 2 v → rk (nx rows) n v = 1 → w.length ≤ v.length := fun v hv hr => by
        rcases Nat.lt_or_ge v.length w.length with h | h
        · exact absurd (code_len (by decide) hv hw h) (by have := hmin v hv hr; omega)
        · exact h
      obtain ⟨x, hx, hxl, hxr⟩ := small_short V hn hw hr1
      have l1 := len x hx hxr
      have l2 := len u hu ((rk_one V hu).2 hall)
      simp only [if_true, hmul, toI_len, if_pos (show (w.length : Int) ≤ (((n - 1) * (n - 1) : Nat) : Int) by omega), if_pos (show (w.length : Int) ≤ (u.length : Int) by omega)]
      exact awake4_end
    · exact absurd ⟨w, hw, (rk_one V hw).1 hr1 a b ha hb⟩ hab
  · refine Ev.bind hS (Ev.bind hR ?_)
    rcases hs with ⟨u, hu, rfl, hall, hl⟩ | ⟨rfl, a, b, ha, hb, hab⟩
    · exact absurd ((rk_one V hu).2 hall) (hno u hu)
    · exact Ev.congr (fun k => by simp) awake4_end
theorem inB_two {n a b : Nat} (ha : a < n) (hb : b < n) : inB (n : Int) [(a : Int), (b : Int)] = true := by
  unfold inB
  simp
  omega
theorem small_build {n : Nat} (h0 : 0 < n) (hn : n ≤ 4) : ∀ (e s c : Nat) (rows : List (List Int)), s + e = n → c < 4294967296 → rows.length = s → Two n rows → Ev (fun k => mizmazelaw04_ShortSmall.l0 k (c : Int) (n : Int) (s : Int) rows) true
  | 0, s, c, rows, he, hc, hl, h => by
    obtain rfl : s = n := by omega
    exact small_rest (h.va h0 (by omega) hl) hn
  | e + 1, s, c, rows, he, hc, hl, h => by
    have hmod : ∀ z : Nat, z < 4294967296 → Int.tmod (wrap64 (z : Int)) (n : Int) = ((z % n : Nat) : Int) := fun z hz => by
      rw [wrapI (by omega) (by omega), Int.tmod_eq_emod_of_nonneg (by omega)]; norm_cast
    have hn2 : ((n : Int) % 4294967296) = (n : Int) := by omega
    have hdiv : ∀ z : Nat, z < 4294967296 → (Int.tdiv (z : Int) ((n : Int) % 4294967296)) % 4294967296 = ((z / n : Nat) : Int) := fun z hz => by
      have h1 : z / n ≤ z := Nat.div_le_self _ _
      rw [hn2, Int.tdiv_eq_ediv_of_nonneg (by omega)]
      have e1 : ((z : Int) / (n : Int)) = ((z / n : Nat) : Int) := by norm_cast
      rw [e1]
      have h2 : z / n < 4294967296 := by omega
      generalize z / n = q at h2 ⊢
      omega
    have hc1 : c / n ≤ c := Nat.div_le_self _ _
    have hc2 : c / n / n ≤ c / n := Nat.div_le_self _ _
    have ih := small_build h0 hn e (s + 1) (c / n / n) (rows ++ [[((c % n : Nat) : Int), ((c / n % n : Nat) : Int)]]) (by omega) (by omega) (by simp [hl]) (by
      intro r hr
      rcases List.mem_append.1 hr with hr | hr
      · exact h r hr
      · obtain rfl := List.mem_singleton.1 hr
        exact ⟨rfl, inB_two (Nat.mod_lt _ h0) (Nat.mod_lt _ h0)⟩)
    refine Ev.step (fun k => by rw [mizmazelaw04_ShortSmall.l0, if_pos (by omega)]) ?_
    refine Ev.step (fun k => by rw [mizmazelaw04_ShortSmall.l1, if_pos (by omega), if_neg (by omega), if_pos (by simp), if_neg (by omega), hmod c hc, hdiv c hc, wrapI (by omega) (by omega)]) ?_
    refine Ev.step (fun k => by rw [mizmazelaw04_ShortSmall.l1, if_pos (by omega), if_neg (by omega), if_pos (by simp), if_neg (by omega), hmod (c / n) (by omega), hdiv (c / n) (by omega), wrapI (by omega) (by omega)]) ?_
    refine Ev.step (fun k => by rw [mizmazelaw04_ShortSmall.l1, if_neg (by omega), if_pos (by omega), wrapS (by omega)]; rfl) ih
theorem ShortSmall : Q.mizmazelaw04_ShortSmall.Pure := by
  intro a0 a1 h0 h1
  refine Ev.rounds (g := fun k => mizmazelaw04_ShortSmall.f k a0 a1) ?_
  unfold mizmazelaw04_ShortSmall.f
  obtain ⟨c, rfl⟩ := Int.eq_ofNat_of_zero_le h1.1
  obtain ⟨z, rfl⟩ := Int.eq_ofNat_of_zero_le h0.1
  have e : wrap64 (1 + (Int.tmod (wrap64 (z : Int)) 4)) = ((1 + z % 4 : Nat) : Int) := by
    rw [wrapI (z := (z : Int)) (by omega) (by omega), Int.tmod_eq_emod_of_nonneg (by omega), wrapI (by omega) (by omega)]
    omega
  rw [e]
  exact small_build (by omega) (by omega) (1 + z % 4) 0 c [] (by omega) (by omega) rfl (fun r hr => by cases hr)
end Go.Proofs.Ytogoppejcmaocaa.Pure
end
