/- In any Eulerian automaton that has a reset word, whatever set of states, neither empty nor all, is led into by more states with a word of at most n - 1 letters, and its shortest reset word has at most n^2 - 3n + 3 letters; in any circular one at most (n - 1)^2. (At most 9 states) (text 23 of 42) -/
import Derived.Test.YtcpmmkennnjalaaZTopKarik
import Derived.Test.YtcpmmkennnjalaaZTopKariv
section
namespace Go.Proofs.Ytcpmmkennnjalaa.Q
set_option linter.unusedVariables false
set_option linter.unusedSectionVars false
set_option linter.unusedSimpArgs false
/-! ### a list in order, each number once -/
theorem nodup_sub {S T : List Nat} (h : S.Nodup) (hs : ∀ x ∈ S, x ∈ T) : S.length ≤ T.length := by
  induction S generalizing T with
  | nil => exact Nat.zero_le _
  | cons x S ih =>
    rw [List.nodup_cons] at h
    have hx := hs x List.mem_cons_self
    have h2 := ih (T := T.erase x) h.2 fun y hy => by
      have hne : y ≠ x := fun e => h.1 (e ▸ hy)
      exact (List.mem_erase_of_ne hne).2 (hs y (List.mem_cons_of_mem _ hy))
    have := List.length_pos_of_mem hx
    rw [List.length_erase_of_mem hx] at h2
    simp; omega
theorem tidy_nat (l : List Nat) : ∃ Q : List Nat, tidy (toI l) = toI Q ∧ Q.Pairwise (· < ·) ∧ ∀ x, x ∈ Q ↔ x ∈ l := by
  have hpos : ∀ z ∈ tidy (toI l), ∃ x : Nat, x ∈ l ∧ z = (x : Int) := fun z hz => by
    obtain ⟨x, hx, rfl⟩ := List.mem_map.1 (tidy_iff.1 hz)
    exact ⟨x, hx, rfl⟩
  have e : tidy (toI l) = toI ((tidy (toI l)).map Int.toNat) := by
    unfold toI
    rw [List.map_map]
    conv => lhs; rw [← List.map_id (tidy _)]
    refine List.map_congr_left fun z hz => ?_
    obtain ⟨x, _, rfl⟩ := hpos z hz
    simp
  refine ⟨(tidy (toI l)).map Int.toNat, e, ?_, fun x => ?_⟩
  · rw [List.pairwise_map]
    refine List.Pairwise.imp_of_mem ?_ (tidy_srt _)
    intro a b ha hb hab
    obtain ⟨x, _, rfl⟩ := hpos a ha
    obtain ⟨y, _, rfl⟩ := hpos b hb
    simp; omega
  · rw [List.mem_map]
    constructor
    · rintro ⟨z, hz, rfl⟩
      obtain ⟨x, hx, rfl⟩ := hpos z hz
      simpa using hx
    · intro hx
      exact ⟨(x : Int), tidy_iff.2 (List.mem_map.2 ⟨x, hx, rfl⟩), by simp⟩
end Go.Proofs.Ytcpmmkennnjalaa.Q
end
section
namespace Go.Proofs.Ytcpmmkennnjalaa.Q
set_option linter.unusedVariables false
set_option linter.unusedSectionVars false
set_option linter.unusedSimpArgs false
theorem sumL_ite {α : Type} (q : α → Bool) (a k : Int) : ∀ A : List α, sumL A (fun x => (if q x = true then a else 0) - k) = a * ((A.countP q : Nat) : Int) - ((A.length : Nat) : Int) * k
  | [] => by simp [sumL]
  | x :: A => by
    rw [sumL_cons, sumL_ite q a k A, List.countP_cons, List.length_cons]
    by_cases h : q x = true
    · rw [if_pos h, if_pos h, Int.natCast_add, Int.natCast_add, Int.mul_add, Int.add_mul]; simp; omega
    · rw [if_neg h, if_neg h, Nat.add_zero, Int.natCast_add, Int.add_mul]; simp; omega
/-- how many states a word leads into a set -/
def cntS (f : Nat → Nat → Nat) (n : Nat) (p : Nat → Bool) (w : List Nat) : Nat := (List.range n).countP fun s => p (run f s w)
theorem evS_cnt (f : Nat → Nat → Nat) (n k : Nat) (p : Nat → Bool) (w : List Nat) : evS f n (fun t => (if p t = true then (n : Int) else 0) - (k : Int)) w = (n : Int) * ((cntS f n p w : Nat) : Int) - (n : Int) * (k : Int) := by
  unfold evS cntS
  rw [sumL_ite (fun s => p (run f s w)) (n : Int) (k : Int) (List.range n), List.length_range]
theorem cntS_le (f : Nat → Nat → Nat) (n : Nat) (p : Nat → Bool) (w : List Nat) : cntS f n p w ≤ n := Nat.le_trans List.countP_le_length (by simp)
section
variable {f : Nat → Nat → Nat} {n m : Nat} (hm : 0 < m) (hf : ∀ s x, s < n → x < m → f s x < n)
variable (hE : ∀ g : Nat → Int, sumL (List.range n) (fun s => sumL (List.range m) fun x => g (f s x)) = (m : Int) * sumL (List.range n) g)
variable {r : List Nat} (hr : Wd m r) (hall : ∀ s t, s < n → t < n → run f s r = run f t r)
include hm hf hE hr hall
/-- Kari's theorem: each set that is neither empty nor all is led into by more states, with a word of at most n - 1 letters. -/
theorem kari_ext {p : Nat → Bool} (h0 : 0 < cntS f n p []) (h1 : cntS f n p [] < n) : ∃ z, Wd m z ∧ z.length + 1 ≤ n ∧ cntS f n p [] < cntS f n p z := by
  generalize hk : cntS f n p [] = k at h0 h1
  have e := evS_cnt f n k p
  have hc : cntS f n p r = 0 ∨ cntS f n p r = n := by
    cases hb : p (run f 0 r) with
    | true =>
      refine .inr ?_
      unfold cntS
      rw [List.countP_eq_length.2 fun s hs => ?_, List.length_range]
      rw [hall s 0 (List.mem_range.1 hs) (by omega)]; exact hb
    | false =>
      refine .inl ?_
      unfold cntS
      rw [List.countP_eq_zero]
      intro s hs
      rw [hall s 0 (List.mem_range.1 hs) (by omega), hb]; exact Bool.false_ne_true
  have hne : evS f n (fun t => (if p t = true then (n : Int) else 0) - (k : Int)) r ≠ 0 := by
    rw [e r, ← Int.mul_sub]
    intro h2
    rcases Int.mul_eq_zero.1 h2 with h3 | h3
    · omega
    · rcases hc with h4 | h4 <;> omega
  obtain ⟨z, z1, z2, z3⟩ := kari hm hE hf (by rw [e [], hk]; omega) hr hne
  refine ⟨z, z1, z2, ?_⟩
  rw [e z, ← Int.mul_sub] at z3
  apply Classical.byContradiction
  intro h2
  have h3 : (n : Int) * (((cntS f n p z : Nat) : Int) - (k : Int)) ≤ 0 := Int.mul_nonpos_of_nonneg_of_nonpos (by omega) (by omega)
  omega
theorem kari_grow {t : Nat} : ∀ (d : Nat) (u : List Nat), Wd m u → 0 < cntS f n (fun s => decide (s = t)) u → n ≤ cntS f n (fun s => decide (s = t)) u + d → ∃ z, Wd m z ∧ z.length ≤ u.length + d * (n - 1) ∧ ∀ s, s < n → run f s z = t
  | 0, u, hu, h0, hd => by
    refine ⟨u, hu, by omega, fun s hs => ?_⟩
    have h1 := cntS_le f n (fun s => decide (s = t)) u
    have h2 : cntS f n (fun s => decide (s = t)) u = (List.range n).length := by rw [List.length_range]; omega
    have := List.countP_eq_length.1 h2 s (List.mem_range.2 hs)
    simpa using this
  | d + 1, u, hu, h0, hd => by
    by_cases hc : cntS f n (fun s => decide (s = t)) u = n
    · obtain ⟨z, h1, h2, h3⟩ := kari_grow (t := t) d u hu h0 (by omega)
      exact ⟨z, h1, by rw [Nat.succ_mul]; omega, h3⟩
    · have hle := cntS_le f n (fun s => decide (s = t)) u
      obtain ⟨z, z1, z2, z3⟩ := kari_ext hm hf hE hr hall (p := fun s => decide (run f s u = t)) (by exact h0) (by have : cntS f n (fun s => decide (run f s u = t)) [] = cntS f n (fun s => decide (s = t)) u := rfl; omega)
      have e1 : cntS f n (fun s => decide (run f s u = t)) [] = cntS f n (fun s => decide (s = t)) u := rfl
      have e2 : cntS f n (fun s => decide (run f s u = t)) z = cntS f n (fun s => decide (s = t)) (z ++ u) := by
        unfold cntS
        refine List.countP_congr fun s _ => ?_
        rw [run_app]
      rw [e1, e2] at z3
      obtain ⟨z', h1, h2, h3⟩ := kari_grow (t := t) d (z ++ u) (z1.app hu) (by omega) (by omega)
      refine ⟨z', h1, ?_, h3⟩
      rw [List.length_append] at h2
      rw [Nat.succ_mul]; omega
omit hE hm in
theorem merging (hn : 2 ≤ n) : ∃ s t x, s < n ∧ t < n ∧ s ≠ t ∧ x < m ∧ f s x = f t x := by
  apply Classical.byContradiction
  intro h
  have inj : ∀ (w : List Nat), Wd m w → ∀ s t, s < n → t < n → run f s w = run f t w → s = t := by
    intro w
    induction w with
    | nil => intro _ s t _ _ h1; exact h1
    | cons x w ih =>
      intro hw s t hs ht h1
      have h2 := ih hw.tail (f s x) (f t x) (hf s x hs hw.head) (hf t x ht hw.head) h1
      apply Classical.byContradiction
      intro h3
      exact h ⟨s, t, x, hs, ht, h3, hw.head, h2⟩
  have := inj r hr 0 1 (by omega) (by omega) (hall 0 1 (by omega) (by omega))
  omega
/-- An Eulerian automaton with a reset word has one of at most n^2 - 3n + 3 letters. -/
theorem kari_short (hn : 0 < n) : ∃ z, Wd m z ∧ z.length + 3 * n ≤ n * n + 3 ∧ ∀ s t, s < n → t < n → run f s z = run f t z := by
  rcases Nat.lt_or_ge n 2 with h1 | h1
  · obtain rfl : n = 1 := by omega
    exact ⟨[], Wd.nil _, by simp, fun s t hs ht => by rw [show s = t by omega]⟩
  · obtain ⟨s, t, x, hs, ht, hst, hx, he⟩ := merging hf hr hall h1
    have h2 : 2 ≤ cntS f n (fun y => decide (y = f s x)) [x] := by
      unfold cntS
      rw [List.countP_eq_length_filter]
      have hnd : [s, t].Nodup := by simp [hst]
      have hsub : ∀ y ∈ [s, t], y ∈ (List.range n).filter fun y => decide (run f y [x] = f s x) := by
        intro y hy
        rw [List.mem_filter, List.mem_range]
        simp at hy
        rcases hy with rfl | rfl
        · exact ⟨hs, decide_eq_true rfl⟩
        · exact ⟨ht, decide_eq_true he.symm⟩
      exact nodup_sub hnd hsub
    obtain ⟨z, z1, z2, z3⟩ := kari_grow hm hf hE hr hall (t := f s x) (n - 2) [x] (Wd.one hx) (by omega) (by omega)
    refine ⟨z, z1, ?_, fun a b ha hb => by rw [z3 a ha, z3 b hb]⟩
    obtain ⟨k, rfl⟩ : ∃ k, n = k + 2 := ⟨n - 2, by omega⟩
    have e : k + 2 - 2 = k := by omega
    have e1 : k + 2 - 1 = k + 1 := by omega
    rw [e, e1] at z2
    simp only [List.length_singleton] at z2
    have e2 : (k + 2) * (k + 2) = k * (k + 1) + 3 * k + 4 := by
      rw [Nat.mul_add, Nat.add_mul, Nat.mul_add]; omega
    omega
end
end Go.Proofs.Ytcpmmkennnjalaa.Q
end
section
namespace Go.Proofs.Ytcpmmkennnjalaa.Q
set_option linter.unusedVariables false
set_option linter.unusedSectionVars false
set_option linter.unusedSimpArgs false
/-! ### Sums over the words that have certain letters in order, and a letter a between them; sums over a cycle -/
/-- the sum over the words that have the letters bs in this order, and before, between and behind them at most N letters a -/
def HS (a : Nat) : Nat → List Nat → (List Nat → Int) → Int
  | 0, [], G => G []
  | N + 1, [], G => G [] + HS a N [] fun h => G (a :: h)
  | 0, b :: bs, G => HS a 0 bs fun h => G (b :: h)
  | N + 1, b :: bs, G => (HS a (N + 1) bs fun h => G (b :: h)) + HS a N (b :: bs) fun h => G (a :: h)
termination_by N bs => N + bs.length
theorem HS_sum (a : Nat) {ι : Type} (I : List ι) : ∀ (N : Nat) (bs : List Nat) (F : ι → List Nat → Int), HS a N bs (fun h => sumL I fun x => F x h) = sumL I fun x => HS a N bs (F x)
  | 0, [], F => by
    rw [HS]
    exact sumL_congr fun x _ => by rw [HS]
  | N + 1, [], F => by
    rw [HS, HS_sum a I N [] fun x h => F x (a :: h), ← sumL_add]
    exact sumL_congr fun x _ => by rw [HS]
  | 0, b :: bs, F => by
    rw [HS, HS_sum a I 0 bs fun x h => F x (b :: h)]
    exact sumL_congr fun x _ => by rw [HS]
  | N + 1, b :: bs, F => by
    rw [HS, HS_sum a I (N + 1) bs fun x h => F x (b :: h), HS_sum a I N (b :: bs) fun x h => F x (a :: h), ← sumL_add]
    exact sumL_congr fun x _ => by rw [HS]
termination_by N bs => N + bs.length
theorem HS_nilR (a : Nat) : ∀ (N : Nat) (G : List Nat → Int), HS a (N + 1) [] G = G [] + HS a N [] fun h => G (h ++ [a])
  | 0, G => by rw [HS, HS, HS]; rfl
  | N + 1, G => by
    rw [HS, HS_nilR a N fun h => G (a :: h), HS.eq_def a (N + 1) []]
    rfl
theorem HS_R0 (a : Nat) : ∀ (bs : List Nat) (c : Nat) (G : List Nat → Int), HS a 0 (bs ++ [c]) G = HS a 0 bs fun h => G (h ++ [c])
  | [], c, G => by rw [List.nil_append, HS, HS, HS]; rfl
  | b :: bs, c, G => by
    rw [List.cons_append, HS, HS_R0 a bs c fun h => G (b :: h), HS]
    rfl
theorem HS_R (a : Nat) : ∀ (N : Nat) (bs : List Nat) (c : Nat) (G : List Nat → Int), HS a (N + 1) (bs ++ [c]) G = (HS a (N + 1) bs fun h => G (h ++ [c])) + HS a N (bs ++ [c]) fun h => G (h ++ [a])
  | 0, [], c, G => by
    rw [List.nil_append]
    simp only [HS, List.nil_append, List.cons_append]
    omega
  | N + 1, [], c, G => by
    have e1 := HS_R a N [] c fun h => G (a :: h)
    have e2 := HS_nilR a (N + 1) fun h => G (c :: h)
    rw [List.nil_append] at e1 ⊢
    rw [HS.eq_def a (N + 1 + 1) [c], HS.eq_def a (N + 1 + 1) [], HS.eq_def a (N + 1) [c] fun h => G (h ++ [a])]
    simp only [List.cons_append, List.nil_append] at e1 e2 ⊢
    omega
  | 0, b :: bs, c, G => by
    have e1 := HS_R a 0 bs c fun h => G (b :: h)
    have e2 := HS_R0 a (b :: bs) c fun h => G (a :: h)
    rw [List.cons_append] at e2 ⊢
    rw [HS.eq_def a (0 + 1) (b :: (bs ++ [c])), HS.eq_def a (0 + 1) (b :: bs), HS.eq_def a 0 (b :: (bs ++ [c])) fun h => G (h ++ [a])]
    simp only [List.cons_append] at e1 e2 ⊢
    omega
  | N + 1, b :: bs, c, G => by
    have e1 := HS_R a (N + 1) bs c fun h => G (b :: h)
    have e2 := HS_R a N (b :: bs) c fun h => G (a :: h)
    rw [List.cons_append] at e2 ⊢
    rw [HS.eq_def a (N + 1 + 1) (b :: (bs ++ [c])), HS.eq_def a (N + 1 + 1) (b :: bs), HS.eq_def a (N + 1) (b :: (bs ++ [c])) fun h => G (h ++ [a])]
    simp only [List.cons_append] at e1 e2 ⊢
    omega
termination_by N bs => N + bs.length
theorem HS_nonpos (a : Nat) : ∀ (N : Nat) (bs : List Nat) (G : List Nat → Int), (∀ x ∈ bs, x ≠ a) → (∀ h, h.filter (fun x => !decide (x = a)) = bs → h.length ≤ N + bs.length → G h ≤ 0) → HS a N bs G ≤ 0 ∧ (HS a N bs G = 0 → ∀ h, h.filter (fun x => !decide (x = a)) = bs → h.length ≤ N + bs.length → G h = 0)
  | 0, [], G, hb, h => by
    rw [HS]
    refine ⟨h [] rfl (Nat.zero_le _), fun h0 w _ hl => ?_⟩
    rw [List.eq_nil_of_length_eq_zero (Nat.le_zero.1 hl)]; exact h0
  | N + 1, [], G, hb, h => by
    have h1 := h [] rfl (Nat.zero_le _)
    obtain ⟨h2, h3⟩ := HS_nonpos a N [] (fun h => G (a :: h)) hb fun w hw hl => h _ (by rw [List.filter_cons_of_neg (by simp)]; exact hw) (by simp only [List.length_cons, List.length_nil] at hl ⊢; omega)
    rw [HS]
    refine ⟨by omega, fun h0 w hw hl => ?_⟩
    cases w with
    | nil => omega
    | cons x w =>
      by_cases hx : x = a
      · subst hx
        rw [List.filter_cons_of_neg (by simp)] at hw
        exact h3 (by omega) w hw (by simp only [List.length_cons, List.length_nil] at hl ⊢; omega)
      · rw [List.filter_cons_of_pos (by simp [hx])] at hw; cases hw
  | 0, b :: bs, G, hb, h => by
    have hba : b ≠ a := hb b List.mem_cons_self
    obtain ⟨h2, h3⟩ := HS_nonpos a 0 bs (fun h => G (b :: h)) (fun x hx => hb x (List.mem_cons_of_mem _ hx)) fun w hw hl => h _ (by rw [List.filter_cons_of_pos (by simp [hba]), hw]) (by simp only [List.length_cons] at hl ⊢; omega)
    rw [HS]
    refine ⟨h2, fun h0 w hw hl => ?_⟩
    cases w with
    | nil => cases hw
    | cons x w =>
      by_cases hx : x = a
      · subst hx
        rw [List.filter_cons_of_neg (by simp)] at hw
        have : (List.filter (fun y => !decide (y = x)) w).length ≤ w.length := List.length_filter_le _ _
        rw [hw] at this
        simp only [List.length_cons] at hl this; omega
      · rw [List.filter_cons_of_pos (by simp [hx])] at hw
        injection hw with e1 e2
        subst e1
        exact h3 h0 w e2 (by simp only [List.length_cons] at hl ⊢; omega)
  | N + 1, b :: bs, G, hb, h => by
    have hba : b ≠ a := hb b List.mem_cons_self
    obtain ⟨h2, h3⟩ := HS_nonpos a (N + 1) bs (fun h => G (b :: h)) (fun x hx => hb x (List.mem_cons_of_mem _ hx)) fun w hw hl => h _ (by rw [List.filter_cons_of_pos (by simp [hba]), hw]) (by simp only [List.length_cons] at hl ⊢; omega)
    obtain ⟨h4, h5⟩ := HS_nonpos a N (b :: bs) (fun h => G (a :: h)) hb fun w hw hl => h _ (by rw [List.filter_cons_of_neg (by simp)]; exact hw) (by simp only [List.length_cons] at hl ⊢; omega)
    rw [HS]
    refine ⟨by omega, fun h0 w hw hl => ?_⟩
    cases w with
    | nil => cases hw
    | cons x w =>
      by_cases hx : x = a
      · subst hx
        rw [List.filter_cons_of_neg (by simp)] at hw
        exact h5 (by omega) w hw (by simp only [List.length_cons] at hl ⊢; omega)
      · rw [List.filter_cons_of_pos (by simp [hx])] at hw
        injection hw with e1 e2
        subst e1
        exact h3 (by omega) w e2 (by simp only [List.length_cons] at hl ⊢; omega)
termination_by N bs => N + bs.length
theorem sumL_map {α β : Type} (g : α → β) (F : β → Int) : ∀ A : List α, sumL (A.map g) F = sumL A fun x => F (g x)
  | [] => rfl
  | x :: A => by rw [List.map_cons, sumL_cons, sumL_map g F A, sumL_cons]
section
variable {n : Nat}
theorem per_one {F : Nat → Int} (hp : F n = F 0) : sumL (List.range n) (fun y => F (y + 1)) = sumL (List.range n) F := by
  have e1 : sumL (List.range (n + 1)) F = F 0 + sumL (List.range n) fun y => F (y + 1) := by
    rw [List.range_succ_eq_map, sumL_cons, sumL_map]
  have e2 : sumL (List.range (n + 1)) F = sumL (List.range n) F + F n := by
    rw [List.range_succ, sumL_append, sumL_cons, sumL_nil, Int.add_zero]
  omega
theorem per_shift {F : Nat → Int} (hp : ∀ i, F (i + n) = F i) : ∀ k, sumL (List.range n) (fun y => F (y + k)) = sumL (List.range n) F
  | 0 => rfl
  | k + 1 => by
    rw [← per_shift hp k]
    refine Eq.trans (sumL_congr fun y _ => ?_) (per_one (F := fun y => F (y + k)) ?_)
    · exact congrArg F (by omega)
    · show F (n + k) = F (0 + k)
      rw [Nat.add_comm n k, hp, Nat.zero_add]
theorem per_mul {F : Nat → Int} (hp : ∀ i, F (i + n) = F i) (i : Nat) : ∀ k, F (i + n * k) = F i
  | 0 => rfl
  | k + 1 => by rw [Nat.mul_succ, ← Nat.add_assoc, hp, per_mul hp i k]
theorem sq_zero {g : Nat → Int} (h : sumL (List.range n) (fun y => g y * g y) = 0) : ∀ y, y < n → g y = 0 := by
  intro y hy
  have h1 : ∀ a : Int, 0 ≤ a * a := fun a => by
    rcases Int.le_total 0 a with h | h
    · exact Int.mul_nonneg h h
    · exact Int.mul_nonneg_of_nonpos_of_nonpos h h
  have h2 := sumL_all_zero (g := fun y => -1 * (g y * g y)) (A := List.range n) (fun z _ => by have := h1 (g z); omega) (by rw [sumL_mul, h]; rfl) y (List.mem_range.2 hy)
  have h3 : g y * g y = 0 := by omega
  rcases Int.mul_eq_zero.1 h3 with h | h <;> exact h
/-- What is got from W by sums over shifts, and vanishes when it is summed over the same shifts, is nothing. -/
theorem conv_zero (hn : 0 < n) {W φ : Nat → Int} (hW : ∀ i, W (i + n) = W i) {ι : Type} (X : List ι) (κ : ι → Nat) (hφ : ∀ j, φ j = sumL X fun x => W (κ x + j)) (h0 : ∀ j, sumL X (fun x => φ (j + κ x)) = 0) : ∀ j, j < n → φ j = 0 := by
  have hp : ∀ i, φ (i + n) = φ i := fun i => by
    rw [hφ, hφ]
    exact sumL_congr fun x _ => by rw [← Nat.add_assoc, hW]
  obtain ⟨n', rfl⟩ : ∃ n', n = n' + 1 := ⟨n - 1, by omega⟩
  have hk : ∀ x, κ x + n' * κ x = (n' + 1) * κ x := fun x => by rw [Nat.add_mul, Nat.one_mul, Nat.add_comm]
  have hs : ∀ {F : Nat → Int}, (∀ i, F (i + (n' + 1)) = F i) → ∀ i x, F (i + κ x + n' * κ x) = F i := fun h i x => by
    rw [Nat.add_assoc, hk, per_mul h]
  have hψp : ∀ i, (fun y => sumL X fun x => φ (y + n' * κ x)) (i + (n' + 1)) = (fun y => sumL X fun x => φ (y + n' * κ x)) i := fun i => by
    show sumL X (fun x => φ (i + (n' + 1) + n' * κ x)) = sumL X fun x => φ (i + n' * κ x)
    exact sumL_congr fun x _ => by rw [Nat.add_right_comm, hp]
  have hψ : ∀ y, y < n' + 1 → (fun y => sumL X fun x => φ (y + n' * κ x)) y = 0 := by
    refine sq_zero ?_
    have e1 : ∀ y ∈ List.range (n' + 1), (sumL X fun x => φ (y + n' * κ x)) * (sumL X fun x => φ (y + n' * κ x)) = sumL X fun x => (sumL X fun x' => φ (y + n' * κ x')) * φ (y + n' * κ x) := fun y _ => (sumL_mul _ _ _).symm
    rw [sumL_congr e1, sumL_comm]
    have e2 : ∀ x ∈ X, (sumL (List.range (n' + 1)) fun y => (sumL X fun x' => φ (y + n' * κ x')) * φ (y + n' * κ x)) = sumL (List.range (n' + 1)) fun y => φ y * sumL X fun x' => φ (y + κ x + n' * κ x') := fun x _ => by
      refine ((per_shift (F := fun y => (sumL X fun x' => φ (y + n' * κ x')) * φ (y + n' * κ x)) (fun i => ?_) (κ x)).symm).trans (sumL_congr fun y _ => ?_)
      · rw [show (sumL X fun x' => φ (i + (n' + 1) + n' * κ x')) = sumL X fun x' => φ (i + n' * κ x') from hψp i, Nat.add_right_comm, hp]
      · rw [hs hp, Int.mul_comm]
    rw [sumL_congr e2, sumL_comm]
    refine sumL_zero fun y _ => ?_
    rw [sumL_mul, sumL_comm, sumL_zero fun x' _ => ?_, Int.mul_zero]
    refine Eq.trans (sumL_congr fun x _ => ?_) (h0 (y + n' * κ x'))
    rw [Nat.add_right_comm]
  refine sq_zero ?_
  have e1 : ∀ y ∈ List.range (n' + 1), φ y * φ y = sumL X fun x => φ y * W (κ x + y) := fun y _ => by rw [sumL_mul, ← hφ]
  rw [sumL_congr e1, sumL_comm]
  have e2 : ∀ x ∈ X, (sumL (List.range (n' + 1)) fun y => φ y * W (κ x + y)) = sumL (List.range (n' + 1)) fun y => W y * φ (y + n' * κ x) := fun x _ => by
    refine ((per_shift (F := fun y => φ y * W (κ x + y)) (fun i => ?_) (n' * κ x)).symm).trans (sumL_congr fun y _ => ?_)
    · rw [hp, ← Nat.add_assoc, hW]
    · rw [Int.mul_comm, ← Nat.add_assoc, Nat.add_comm (κ x) y, hs hW]
  rw [sumL_congr e2, sumL_comm]
  refine sumL_zero fun y hy => ?_
  rw [sumL_mul, show (sumL X fun x => φ (y + n' * κ x)) = 0 from hψ y (List.mem_range.1 hy), Int.mul_zero]
end
end Go.Proofs.Ytcpmmkennnjalaa.Q
end
section
namespace Go.Proofs.Ytcpmmkennnjalaa.Q
set_option linter.unusedVariables false
set_option linter.unusedSectionVars false
set_option linter.unusedSimpArgs false
/-! ### A letter that leads round all states: a value that some word changes is made larger by a word of at most n letters (Dubuc) -/
theorem HS_congr (a : Nat) : ∀ (N : Nat) (bs : List Nat) (G G' : List Nat → Int), (∀ h, (∀ x ∈ h, x = a ∨ x ∈ bs) → G h = G' h) → HS a N bs G = HS a N bs G'
  | 0, [], G, G', h => by
    rw [HS, HS]; exact h [] (fun x hx => by cases hx)
  | N + 1, [], G, G', h => by
    have e1 := h [] (fun x hx => by cases hx)
    have e2 := HS_congr a N [] (fun h => G (a :: h)) (fun h => G' (a :: h)) fun w hm => h _ fun x hx => (List.mem_cons.1 hx).elim .inl (hm x)
    rw [HS, HS, e1, e2]
  | 0, b :: bs, G, G', h => by
    rw [HS, HS]
    exact HS_congr a 0 bs _ _ fun w hm => h _ fun x hx => (List.mem_cons.1 hx).elim (fun e => .inr (by rw [e]; exact List.mem_cons_self)) fun hx => (hm x hx).imp_right (List.mem_cons_of_mem _)
  | N + 1, b :: bs, G, G', h => by
    have e1 := HS_congr a (N + 1) bs (fun h => G (b :: h)) (fun h => G' (b :: h)) fun w hm => h _ fun x hx => (List.mem_cons.1 hx).elim (fun e => .inr (by rw [e]; exact List.mem_cons_self)) fun hx => (hm x hx).imp_right (List.mem_cons_of_mem _)
    have e2 := HS_congr a N (b :: bs) (fun h => G (a :: h)) (fun h => G' (a :: h)) fun w hm => h _ fun x hx => (List.mem_cons.1 hx).elim .inl (hm x)
    rw [HS, e1, e2, HS]
termination_by N bs => N + bs.length
theorem HS_nil_rep (a : Nat) : ∀ (N : Nat) (G : List Nat → Int), HS a N [] G = sumL (List.range (N + 1)) fun i => G (List.replicate i a)
  | 0, G => by
    rw [HS]
    show G [] = sumL [0] fun i => G (List.replicate i a)
    rw [sumL_cons, sumL_nil, Int.add_zero]
    rfl
  | N + 1, G => by
    rw [HS, HS_nil_rep a N, List.range_succ_eq_map (n := N + 1), sumL_cons, sumL_map]
    rfl
theorem rep_app (a j : Nat) (w : List Nat) : List.replicate j a ++ a :: w = List.replicate (j + 1) a ++ w := by
  rw [List.replicate_succ', List.append_assoc]; rfl
section
variable {f : Nat → Nat → Nat} {n m a : Nat} (hn : 0 < n) (hf : ∀ s x, s < n → x < m → f s x < n) (ha : a < m)
variable {z : Nat → Nat} (z0 : ∀ i, z i < n) (z1 : ∀ i, f (z i) a = z (i + 1)) (z2 : ∀ i, z (i + n) = z i) (z3 : ∀ g : Nat → Int, sumL (List.range n) g = sumL (List.range n) fun i => g (z i)) (z4 : ∀ s, s < n → ∃ i, z i = s)
/-- how many letters of a word are not the letter a -/
def cntN (a : Nat) (w : List Nat) : Nat := (w.filter fun x => !decide (x = a)).length
theorem cntN_app (a : Nat) (u w : List Nat) : cntN a (u ++ w) = cntN a u + cntN a w := by
  unfold cntN; rw [List.filter_append, List.length_append]
theorem cntN_rep (a : Nat) : ∀ i, cntN a (List.replicate i a) = 0
  | 0 => rfl
  | i + 1 => by
    unfold cntN
    rw [List.replicate_succ, List.filter_cons_of_neg (by simp)]
    exact cntN_rep a i
theorem Wd_rep {m a : Nat} (ha : a < m) (i : Nat) : Wd m (List.replicate i a) := fun x hx => by rw [List.eq_of_mem_replicate hx]; exact ha
include z1 in
theorem run_rep : ∀ k i, run f (z i) (List.replicate k a) = z (i + k)
  | 0, i => rfl
  | k + 1, i => by
    rw [List.replicate_succ]
    show run f (f (z i) a) (List.replicate k a) = _
    rw [z1, run_rep k]
    exact congrArg z (by omega)
include hf z4 in
theorem kappa {r : List Nat} (hr : Wd m r) : ∃ κ : Nat → Nat, ∀ x, x < n → z (κ x) = run f x r := by
  refine ⟨fun x => if h : x < n then Classical.choose (z4 (run f x r) (runLt hf r x h hr)) else 0, fun x hx => ?_⟩
  show z (if h : x < n then Classical.choose (z4 (run f x r) (runLt hf r x h hr)) else 0) = _
  rw [dif_pos hx]
  exact Classical.choose_spec (z4 (run f x r) (runLt hf r x hx hr))
include z1 in
theorem evS_split (v : Nat → Int) {r : List Nat} {κ : Nat → Nat} (hκ : ∀ x, x < n → z (κ x) = run f x r) (j : Nat) (w : List Nat) : evS f n v (r ++ (List.replicate j a ++ w)) = sumL (List.range n) fun x => v (run f (z (κ x + j)) w) := by
  unfold evS
  refine sumL_congr fun x hx => ?_
  rw [run_app, run_app, ← hκ x (List.mem_range.1 hx), run_rep z1]
include hf ha z0 z1 z2 z3 z4 hn
/-- The heart of Dubuc's theorem. -/
theorem dub_sum {v : Nat → Int} {t : Nat} (hZ : ∀ w, Wd m w → cntN a w < t → evS f n v w = 0) : ∀ (k : Nat) (bs : List Nat), bs.length = k → (∀ b ∈ bs, b < m ∧ b ≠ a) → ∀ (N : Nat) (r u : List Nat), N + k + 1 = n → Wd m r → Wd m u → 1 ≤ cntN a r → cntN a r + cntN a u + k = t → HS a N bs (fun h => evS f n v (r ++ (h ++ u))) = 0
  | 0, bs, hk, hbs, N, r, u, hN, hr, hu, hcr, hct => by
    obtain rfl := List.eq_nil_of_length_eq_zero hk
    obtain ⟨κ, hκ⟩ := kappa hf z4 hr
    rw [HS_nil_rep]
    have e1 : ∀ i ∈ List.range (N + 1), evS f n v (r ++ (List.replicate i a ++ u)) = sumL (List.range n) fun x => v (run f (z (κ x + i)) u) := fun i _ => evS_split z1 v hκ i u
    rw [sumL_congr e1, sumL_comm]
    refine sumL_zero fun x _ => ?_
    obtain rfl : N + 1 = n := by omega
    have e2 := per_shift (n := N + 1) (F := fun i => v (run f (z i) u)) (fun i => by show v (run f (z (i + (N + 1))) u) = _; rw [z2]) (κ x)
    have e3 : sumL (List.range (N + 1)) (fun i => v (run f (z (κ x + i)) u)) = sumL (List.range (N + 1)) fun i => v (run f (z (i + κ x)) u) := sumL_congr fun i _ => by rw [Nat.add_comm]
    rw [e3, e2, ← z3 fun s => v (run f s u)]
    exact hZ u hu (by omega)
  | k + 1, bs, hk, hbs, N, r, u, hN, hr, hu, hcr, hct => by
    obtain ⟨κ, hκ⟩ := kappa hf z4 hr
    have hwd : ∀ {h : List Nat}, (∀ x ∈ h, x = a ∨ x ∈ bs) → Wd m h := fun hh x hx => (hh x hx).elim (fun e => by rw [e]; exact ha) fun hx => (hbs x hx).1
    obtain ⟨b, l, rfl⟩ : ∃ b l, bs = b :: l := by
      cases bs with
      | nil => cases hk
      | cons b l => exact ⟨b, l, rfl⟩
    obtain ⟨l', c, hlc⟩ : ∃ l' c, b :: l = l' ++ [c] := by
      rcases List.eq_nil_or_concat (b :: l) with h | ⟨l', c, h⟩
      · cases h
      · exact ⟨l', c, h.trans List.concat_eq_append⟩
    have hl : l.length = k := by simpa using hk
    have hl' : l'.length = k := by
      have := congrArg List.length hlc
      rw [hk, List.length_append, List.length_singleton] at this
      omega
    have hb : b < m ∧ b ≠ a := hbs b List.mem_cons_self
    have hc : c < m ∧ c ≠ a := hbs c (by rw [hlc]; simp)
    have hsl : ∀ x ∈ l, x < m ∧ x ≠ a := fun x hx => hbs x (List.mem_cons_of_mem _ hx)
    have hsl' : ∀ x ∈ l', x < m ∧ x ≠ a := fun x hx => hbs x (by rw [hlc]; exact List.mem_append.2 (.inl hx))
    have cb : cntN a [b] = 1 := by unfold cntN; rw [List.filter_cons_of_pos (by simp [hb.2])]; rfl
    have cc : ∀ w, cntN a (c :: w) = cntN a w + 1 := fun w => by unfold cntN; rw [List.filter_cons_of_pos (by simp [hc.2])]; rfl
    have step : ∀ (j : Nat) (u' : List Nat), Wd m u' → cntN a u' = cntN a u → (HS a N (b :: l) fun h => evS f n v (r ++ (List.replicate j a ++ (h ++ a :: u')))) = HS a N (b :: l) fun h => evS f n v (r ++ (List.replicate (j + 1) a ++ (h ++ u'))) := by
      intro j u' hu' hcu
      have g1 := HS.eq_def a (N + 1) (b :: l) fun h => evS f n v (r ++ (List.replicate j a ++ (h ++ u')))
      have g2 := HS_R a N l' c fun h => evS f n v (r ++ (List.replicate j a ++ (h ++ u')))
      rw [← hlc] at g2
      have i1 := dub_sum hZ k l hl hsl (N + 1) (r ++ (List.replicate j a ++ [b])) u' (by omega) (hr.app ((Wd_rep ha j).app (Wd.one hb.1))) hu' (by rw [cntN_app]; omega) (by rw [cntN_app, cntN_app, cntN_rep, cb]; omega)
      have i2 := dub_sum hZ k l' hl' hsl' (N + 1) (r ++ List.replicate j a) (c :: u') (by omega) (hr.app (Wd_rep ha j)) (Wd.cons hc.1 hu') (by rw [cntN_app]; omega) (by rw [cntN_app, cntN_rep, cc]; omega)
      have p1 : (HS a (N + 1) l fun h => evS f n v ((r ++ (List.replicate j a ++ [b])) ++ (h ++ u'))) = HS a (N + 1) l fun h => evS f n v (r ++ (List.replicate j a ++ (b :: h ++ u'))) := by
        congr 1; funext h; simp only [List.append_assoc, List.cons_append, List.nil_append]
      have p2 : (HS a (N + 1) l' fun h => evS f n v ((r ++ List.replicate j a) ++ (h ++ c :: u'))) = HS a (N + 1) l' fun h => evS f n v (r ++ (List.replicate j a ++ (h ++ [c] ++ u'))) := by
        congr 1; funext h; simp only [List.append_assoc, List.cons_append, List.nil_append]
      have p3 : (HS a N (b :: l) fun h => evS f n v (r ++ (List.replicate j a ++ (h ++ [a] ++ u')))) = HS a N (b :: l) fun h => evS f n v (r ++ (List.replicate j a ++ (h ++ a :: u'))) := by
        congr 1; funext h; simp only [List.append_assoc, List.cons_append, List.nil_append]
      have p4 : (HS a N (b :: l) fun h => evS f n v (r ++ (List.replicate j a ++ (a :: h ++ u')))) = HS a N (b :: l) fun h => evS f n v (r ++ (List.replicate (j + 1) a ++ (h ++ u'))) := by
        congr 1; funext h; rw [List.cons_append, rep_app]
      rw [p1] at i1
      rw [p2] at i2
      rw [← p3, ← p4]
      dsimp only at g1
      omega
    have shift : ∀ s j, (HS a N (b :: l) fun h => evS f n v (r ++ (List.replicate j a ++ (h ++ (List.replicate s a ++ u))))) = HS a N (b :: l) fun h => evS f n v (r ++ (List.replicate (j + s) a ++ (h ++ u))) := by
      intro s
      induction s with
      | zero => intro j; rfl
      | succ s ih =>
        intro j
        have := step j (List.replicate s a ++ u) ((Wd_rep ha s).app hu) (by rw [cntN_app, cntN_rep, Nat.zero_add])
        rw [show List.replicate (s + 1) a ++ u = a :: (List.replicate s a ++ u) from by rw [List.replicate_succ]; rfl, this, ih (j + 1), show j + 1 + s = j + (s + 1) by omega]
    have key := conv_zero (n := n) hn (W := fun i => HS a N (b :: l) fun h => v (run f (z i) (h ++ u))) (φ := fun j => HS a N (b :: l) fun h => evS f n v (r ++ (List.replicate j a ++ (h ++ u))))
      (fun i => by show (HS a N (b :: l) fun h => v (run f (z (i + n)) (h ++ u))) = _; rw [z2]) (List.range n) κ
      (fun j => by
        show (HS a N (b :: l) fun h => evS f n v (r ++ (List.replicate j a ++ (h ++ u)))) = _
        rw [← HS_sum]
        congr 1; funext h
        exact evS_split z1 v hκ j (h ++ u))
      (fun j => by
        show sumL (List.range n) (fun x => HS a N (b :: l) fun h => evS f n v (r ++ (List.replicate (j + κ x) a ++ (h ++ u)))) = 0
        have e1 : ∀ x ∈ List.range n, (HS a N (b :: l) fun h => evS f n v (r ++ (List.replicate (j + κ x) a ++ (h ++ u)))) = HS a N (b :: l) fun h => evS f n v (r ++ (List.replicate j a ++ (h ++ (List.replicate (κ x) a ++ u)))) := fun x _ => (shift (κ x) j).symm
        rw [sumL_congr e1, ← HS_sum]
        have e2 : HS a N (b :: l) (fun _ => 0) = 0 := by
          have := HS_sum a ([] : List Nat) N (b :: l) fun _ _ => 0
          simpa [sumL_nil] using this
        rw [← e2]
        refine HS_congr a N (b :: l) _ _ fun h hh => ?_
        have e3 : ∀ x ∈ List.range n, evS f n v (r ++ (List.replicate j a ++ (h ++ (List.replicate (κ x) a ++ u)))) = sumL (List.range n) fun y => v (run f (run f y (r ++ (List.replicate j a ++ h))) (List.replicate (κ x) a ++ u)) := fun x _ => by
          unfold evS
          refine sumL_congr fun y _ => ?_
          rw [← run_app, List.append_assoc, List.append_assoc]
        rw [sumL_congr e3, sumL_comm]
        refine sumL_zero fun y hy => ?_
        obtain ⟨i, hi⟩ := z4 (run f y (r ++ (List.replicate j a ++ h))) (runLt hf _ y (List.mem_range.1 hy) (hr.app ((Wd_rep ha j).app (hwd hh))))
        rw [← hi]
        refine Eq.trans (sumL_congr fun x _ => ?_) ((evS_split z1 v hκ i u).symm.trans (hZ _ (hr.app ((Wd_rep ha i).app hu)) (by rw [cntN_app, cntN_app, cntN_rep]; omega)))
        rw [run_app, run_rep z1, Nat.add_comm i])
      0 hn
    exact key
end
end Go.Proofs.Ytcpmmkennnjalaa.Q
end
section
namespace Go.Proofs.Ytcpmmkennnjalaa.Q
set_option linter.unusedVariables false
set_option linter.unusedSectionVars false
set_option linter.unusedSimpArgs false
/-! ### Dubuc's theorem -/
section
variable {f : Nat → Nat → Nat} {n m : Nat} (hf : ∀ s x, s < n → x < m → f s x < n)
include hf
theorem evS_minC {v : Nat → Int} {z : List Nat} (hz : Wd m z) (h : evS f n v z ≠ 0) (hmin : ∀ i j, j < i → i ≤ z.length → evS f n v (z.take (z.length - i) ++ z.drop (z.length - j)) = 0) : z.length + 1 ≤ n := by
  apply Classical.byContradiction
  intro hn
  obtain ⟨c, hc, hx⟩ := depend ((List.range n).map deltaN) (List.range (z.length + 1)) (fun i => fun s => if s < n then v (run f s (z.drop (z.length - i))) else 0) List.nodup_range (by simp; omega) (fun i _ => span_delta n _)
  obtain ⟨i, hi, hci, hj⟩ := range_last hc
  have hp : Wd m (z.take (z.length - i)) := hz.take _
  have h0 : sumL (List.range n) (fun s => sumL (List.range (z.length + 1)) fun j => c j * (if run f s (z.take (z.length - i)) < n then v (run f (run f s (z.take (z.length - i))) (z.drop (z.length - j))) else 0)) = 0 :=
    sumL_zero fun s _ => hx _
  rw [sumL_comm, sumL_single hi fun j hjl hne => ?_] at h0
  · rw [sumL_mul] at h0
    rcases Int.mul_eq_zero.1 h0 with h1 | h1
    · exact hci h1
    · refine h (Eq.trans (sumL_congr fun s hs => ?_) h1)
      rw [if_pos (runLt hf _ s (List.mem_range.1 hs) hp), ← run_app, List.take_append_drop]
  · rcases Nat.lt_or_ge i j with h1 | h1
    · rw [hj j hjl h1]
      exact sumL_zero fun s _ => Int.zero_mul _
    · have h2 : j < i := by omega
      have e := hmin i j h2 (by omega)
      rw [sumL_mul]
      refine Int.mul_eq_zero.2 (.inr (Eq.trans (sumL_congr fun s hs => ?_) e))
      rw [if_pos (runLt hf _ s (List.mem_range.1 hs) hp), ← run_app]
end
theorem cntN_cut (a : Nat) (w : List Nat) {p q : Nat} (h : p ≤ q) : cntN a (w.take p ++ w.drop q) ≤ cntN a w := by
  have h1 : (w.take p ++ w.drop q).Sublist w := by
    have h2 : (w.drop q).Sublist (w.drop p) := by
      rw [show q = p + (q - p) by omega, ← List.drop_drop]
      exact List.drop_sublist _ _
    have h3 := h2.append_left (w.take p)
    rw [List.take_append_drop] at h3
    exact h3
  exact (h1.filter _).length_le
section
variable {f : Nat → Nat → Nat} {n m a : Nat} (hn : 0 < n) (hf : ∀ s x, s < n → x < m → f s x < n) (ha : a < m)
variable {z : Nat → Nat} (z0 : ∀ i, z i < n) (z1 : ∀ i, f (z i) a = z (i + 1)) (z2 : ∀ i, z (i + n) = z i) (zi : ∀ i j, i < n → j < n → z i = z j → i = j)
include z0 zi in
theorem cyc_onto : ∀ s, s < n → ∃ i, i < n ∧ z i = s := by
  intro s hs
  apply Classical.byContradiction
  intro h
  have hnd : (s :: (List.range n).map z).Nodup := by
    rw [List.nodup_cons]
    refine ⟨fun hm => ?_, ?_⟩
    · obtain ⟨i, hi, e⟩ := List.mem_map.1 hm
      exact h ⟨i, List.mem_range.1 hi, e⟩
    · refine List.pairwise_map.2 (List.Pairwise.imp_of_mem (fun {i j} hi hj hne => ?_) (List.nodup_range (n := n)))
      exact fun e => hne (zi i j (List.mem_range.1 hi) (List.mem_range.1 hj) e)
  have := nodup_sub (T := List.range n) hnd fun x hx => by
    rcases List.mem_cons.1 hx with rfl | hx
    · exact List.mem_range.2 hs
    · obtain ⟨i, hi, e⟩ := List.mem_map.1 hx
      rw [← e]; exact List.mem_range.2 (z0 i)
  simp at this
  omega
include z0 zi in
theorem cyc_sum (g : Nat → Int) : sumL (List.range n) g = sumL (List.range n) fun i => g (z i) := by
  have e1 : ∀ s ∈ List.range n, g s = sumL (List.range n) fun i => g s * (if z i = s then 1 else 0) := fun s hs => by
    obtain ⟨i, hi, he⟩ := cyc_onto z0 zi s (List.mem_range.1 hs)
    rw [sumL_single hi fun j hj hne => by rw [if_neg (fun e => hne (zi j i hj hi (e.trans he.symm))), Int.mul_zero]]
    rw [if_pos he, Int.mul_one]
  rw [sumL_congr e1, sumL_comm]
  refine sumL_congr fun i hi => ?_
  rw [sumL_single (z0 i) fun s hs hne => by rw [if_neg (Ne.symm hne), Int.mul_zero]]
  rw [if_pos rfl, Int.mul_one]
include hn hf ha z0 z1 z2 zi
/-- What sums up to nothing, and is changed by some word, is made larger by a word of at most n letters. -/
theorem dub_val {v : Nat → Int} (h0 : evS f n v [] = 0) {w : List Nat} (hw : Wd m w) (h : evS f n v w ≠ 0) : ∃ u, Wd m u ∧ u.length ≤ n ∧ 0 < evS f n v u := by
  have z3 := cyc_sum (n := n) z0 zi
  have z4 : ∀ s, s < n → ∃ i, z i = s := fun s hs => (cyc_onto z0 zi s hs).imp fun _ h => h.2
  have hA : ∀ u, evS f n v (a :: u) = evS f n v u := fun u => by
    show sumL (List.range n) (fun s => v (run f (f s a) u)) = sumL (List.range n) fun s => v (run f s u)
    rw [z3 fun s => v (run f (f s a) u), z3 fun s => v (run f s u)]
    refine Eq.trans (sumL_congr fun i _ => by rw [z1]) (per_one (F := fun i => v (run f (z i) u)) ?_)
    show v (run f (z n) u) = v (run f (z 0) u)
    rw [← Nat.zero_add n, z2]
  -- the least number of other letters
  have hmin : ∀ d (w : List Nat), Wd m w → cntN a w ≤ d → evS f n v w ≠ 0 → ∃ t, (∀ w, Wd m w → cntN a w < t → evS f n v w = 0) ∧ ∃ w, Wd m w ∧ cntN a w = t ∧ evS f n v w ≠ 0 := by
    intro d
    induction d with
    | zero => intro w hw hd h; exact ⟨0, fun u _ hu => by omega, w, hw, by omega, h⟩
    | succ d ih =>
      intro w hw hd h
      by_cases hs : ∃ u, Wd m u ∧ cntN a u < cntN a w ∧ evS f n v u ≠ 0
      · obtain ⟨u, h1, h2, h3⟩ := hs
        exact ih u h1 (by omega) h3
      · exact ⟨cntN a w, fun u h1 h2 => Classical.byContradiction fun h3 => hs ⟨u, h1, h2, h3⟩, w, hw, rfl, h⟩
  obtain ⟨t, hZ, w1, hw1, ht1, h1⟩ := hmin _ w hw (Nat.le_refl _) h
  -- and the shortest word with that number
  have hmin2 : ∀ d (w : List Nat), w.length ≤ d → Wd m w → cntN a w = t → evS f n v w ≠ 0 → ∃ w, Wd m w ∧ cntN a w = t ∧ evS f n v w ≠ 0 ∧ ∀ u, Wd m u → cntN a u = t → u.length < w.length → evS f n v u = 0 := by
    intro d
    induction d with
    | zero => intro w hd hw hc h; exact ⟨w, hw, hc, h, fun u _ _ hu => by omega⟩
    | succ d ih =>
      intro w hd hw hc h
      by_cases hs : ∃ u, Wd m u ∧ cntN a u = t ∧ u.length < w.length ∧ evS f n v u ≠ 0
      · obtain ⟨u, h1, h2, h3, h4⟩ := hs
        exact ih u (by omega) h1 h2 h4
      · exact ⟨w, hw, hc, h, fun u h1 h2 h3 => Classical.byContradiction fun h4 => hs ⟨u, h1, h2, h3, h4⟩⟩
  obtain ⟨w2, hw2, ht2, h2, hs2⟩ := hmin2 _ w1 (Nat.le_refl _) hw1 ht1 h1
  have hlen : w2.length + 1 ≤ n := evS_minC hf hw2 h2 fun i j hji hi => by
    have hc := cntN_cut a w2 (p := w2.length - i) (q := w2.length - j) (by omega)
    have hwd : Wd m (w2.take (w2.length - i) ++ w2.drop (w2.length - j)) := (hw2.take _).app (hw2.drop _)
    rcases Nat.lt_or_ge (cntN a (w2.take (w2.length - i) ++ w2.drop (w2.length - j))) t with h3 | h3
    · exact hZ _ hwd h3
    · exact hs2 _ hwd (by omega) (by rw [List.length_append, List.length_take, List.length_drop]; omega)
  cases w2 with
  | nil => exact absurd h0 h2
  | cons b l =>
    by_cases hba : b = a
    · subst hba
      rw [hA] at h2
      have hc : cntN b l = t := by
        rw [← ht2]
        unfold cntN
        rw [List.filter_cons_of_neg (by simp)]
      exact absurd (hs2 l hw2.tail hc (by simp)) h2
    · have hcl : cntN a l + 1 = t := by
        rw [← ht2]
        unfold cntN
        rw [List.filter_cons_of_pos (by simp [hba])]; rfl
      have hll : cntN a l ≤ l.length := List.length_filter_le _ _
      rw [List.length_cons] at hlen
      have cb : cntN a [b] = 1 := by unfold cntN; rw [List.filter_cons_of_pos (by simp [hba])]; rfl
      have hbs : ∀ x ∈ l.filter fun x => !decide (x = a), x < m ∧ x ≠ a := fun x hx => by
        rw [List.mem_filter] at hx
        exact ⟨hw2.tail x hx.1, by simpa using hx.2⟩
      have key := dub_sum hn hf ha z0 z1 z2 z3 z4 hZ (cntN a l) (l.filter fun x => !decide (x = a)) rfl hbs (n - 1 - cntN a l) [b] [] (by omega) (Wd.one hw2.head) (Wd.nil _) (by omega) (by rw [cb]; show 1 + 0 + cntN a l = t; omega)
      apply Classical.byContradiction
      intro hno
      obtain ⟨_, k2⟩ := HS_nonpos a (n - 1 - cntN a l) (l.filter fun x => !decide (x = a)) (fun h => evS f n v ([b] ++ (h ++ []))) (fun x hx => (hbs x hx).2) fun h hh hl => by
        apply Classical.byContradiction
        intro h5
        refine hno ⟨[b] ++ (h ++ []), (Wd.one hw2.head).app (Wd.app (fun x hx => ?_) (Wd.nil _)), ?_, by omega⟩
        · by_cases hxa : x = a
          · rw [hxa]; exact ha
          · refine (hbs x ?_).1
            rw [← hh, List.mem_filter]
            exact ⟨hx, by simp [hxa]⟩
        · have : (l.filter fun x => !decide (x = a)).length = cntN a l := rfl
          rw [List.append_nil, List.length_append, List.length_singleton]
          omega
      have := k2 key l rfl (by have : (l.filter fun x => !decide (x = a)).length = cntN a l := rfl; omega)
      rw [List.append_nil] at this
      exact h2 this
end
section
variable {f : Nat → Nat → Nat} {n m : Nat} (hf : ∀ s x, s < n → x < m → f s x < n)
include hf
/-- from words that enlarge sets to a word that leads all states to one -/
theorem ext_grow {L : Nat} (hX : ∀ p : Nat → Bool, 0 < cntS f n p [] → cntS f n p [] < n → ∃ z, Wd m z ∧ z.length ≤ L ∧ cntS f n p [] < cntS f n p z) {t : Nat} : ∀ (d : Nat) (u : List Nat), Wd m u → 0 < cntS f n (fun s => decide (s = t)) u → n ≤ cntS f n (fun s => decide (s = t)) u + d → ∃ z, Wd m z ∧ z.length ≤ u.length + d * L ∧ ∀ s, s < n → run f s z = t
  | 0, u, hu, h0, hd => by
    refine ⟨u, hu, by omega, fun s hs => ?_⟩
    have h1 := cntS_le f n (fun s => decide (s = t)) u
    have h2 : cntS f n (fun s => decide (s = t)) u = (List.range n).length := by rw [List.length_range]; omega
    have := List.countP_eq_length.1 h2 s (List.mem_range.2 hs)
    simpa using this
  | d + 1, u, hu, h0, hd => by
    by_cases hc : cntS f n (fun s => decide (s = t)) u = n
    · obtain ⟨z, h1, h2, h3⟩ := ext_grow hX (t := t) d u hu h0 (by omega)
      exact ⟨z, h1, by rw [Nat.succ_mul]; omega, h3⟩
    · have hle := cntS_le f n (fun s => decide (s = t)) u
      obtain ⟨z, z1, z2, z3⟩ := hX (fun s => decide (run f s u = t)) (by exact h0) (by have : cntS f n (fun s => decide (run f s u = t)) [] = cntS f n (fun s => decide (s = t)) u := rfl; omega)
      have e1 : cntS f n (fun s => decide (run f s u = t)) [] = cntS f n (fun s => decide (s = t)) u := rfl
      have e2 : cntS f n (fun s => decide (run f s u = t)) z = cntS f n (fun s => decide (s = t)) (z ++ u) := by
        unfold cntS
        refine List.countP_congr fun s _ => ?_
        rw [run_app]
      rw [e1, e2] at z3
      obtain ⟨z', h1, h2, h3⟩ := ext_grow hX (t := t) d (z ++ u) (z1.app hu) (by omega) (by omega)
      refine ⟨z', h1, ?_, h3⟩
      rw [List.length_append] at h2
      rw [Nat.succ_mul]; omega
variable {r : List Nat} (hr : Wd m r) (hall : ∀ s t, s < n → t < n → run f s r = run f t r)
include hr hall
theorem ext_short {L : Nat} (hX : ∀ p : Nat → Bool, 0 < cntS f n p [] → cntS f n p [] < n → ∃ z, Wd m z ∧ z.length ≤ L ∧ cntS f n p [] < cntS f n p z) (hn : 2 ≤ n) : ∃ z, Wd m z ∧ z.length ≤ 1 + (n - 2) * L ∧ ∀ s t, s < n → t < n → run f s z = run f t z := by
  obtain ⟨s, t, x, hs, ht, hst, hx, he⟩ := merging hf hr hall hn
  have h2 : 2 ≤ cntS f n (fun y => decide (y = f s x)) [x] := by
    unfold cntS
    rw [List.countP_eq_length_filter]
    have hnd : [s, t].Nodup := by simp [hst]
    have hsub : ∀ y ∈ [s, t], y ∈ (List.range n).filter fun y => decide (run f y [x] = f s x) := by
      intro y hy
      rw [List.mem_filter, List.mem_range]
      simp at hy
      rcases hy with rfl | rfl
      · exact ⟨hs, decide_eq_true rfl⟩
      · exact ⟨ht, decide_eq_true he.symm⟩
    exact nodup_sub hnd hsub
  obtain ⟨z, z1, z2, z3⟩ := ext_grow hf hX (t := f s x) (n - 2) [x] (Wd.one hx) (by omega) (by omega)
  exact ⟨z, z1, z2, fun a b ha hb => by rw [z3 a ha, z3 b hb]⟩
variable {a : Nat} (ha : a < m) {z : Nat → Nat} (z0 : ∀ i, z i < n) (z1 : ∀ i, f (z i) a = z (i + 1)) (z2 : ∀ i, z (i + n) = z i) (zi : ∀ i j, i < n → j < n → z i = z j → i = j)
include ha z0 z1 z2 zi
theorem dub_ext {p : Nat → Bool} (h0 : 0 < cntS f n p []) (h1 : cntS f n p [] < n) : ∃ z, Wd m z ∧ z.length ≤ n ∧ cntS f n p [] < cntS f n p z := by
  generalize hk : cntS f n p [] = k at h0 h1
  have e := evS_cnt f n k p
  have hc : cntS f n p r = 0 ∨ cntS f n p r = n := by
    cases hb : p (run f 0 r) with
    | true =>
      refine .inr ?_
      unfold cntS
      rw [List.countP_eq_length.2 fun s hs => ?_, List.length_range]
      rw [hall s 0 (List.mem_range.1 hs) (by omega)]; exact hb
    | false =>
      refine .inl ?_
      unfold cntS
      rw [List.countP_eq_zero]
      intro s hs
      rw [hall s 0 (List.mem_range.1 hs) (by omega), hb]; exact Bool.false_ne_true
  have hne : evS f n (fun t => (if p t = true then (n : Int) else 0) - (k : Int)) r ≠ 0 := by
    rw [e r, ← Int.mul_sub]
    intro h2
    rcases Int.mul_eq_zero.1 h2 with h3 | h3
    · omega
    · rcases hc with h4 | h4 <;> omega
  obtain ⟨u, u1, u2, u3⟩ := dub_val (by omega) hf ha z0 z1 z2 zi (by rw [e [], hk]; omega) hr hne
  refine ⟨u, u1, u2, ?_⟩
  rw [e u, ← Int.mul_sub] at u3
  apply Classical.byContradiction
  intro h2
  have h3 : (n : Int) * (((cntS f n p u : Nat) : Int) - (k : Int)) ≤ 0 := Int.mul_nonpos_of_nonneg_of_nonpos (by omega) (by omega)
  omega
/-- A circular automaton with a reset word has one of at most (n - 1)^2 letters. -/
theorem dub_short (hn : 0 < n) : ∃ z, Wd m z ∧ z.length ≤ (n - 1) * (n - 1) ∧ ∀ s t, s < n → t < n → run f s z = run f t z := by
  rcases Nat.lt_or_ge n 2 with h1 | h1
  · obtain rfl : n = 1 := by omega
    exact ⟨[], Wd.nil _, by simp, fun s t hs ht => by rw [show s = t by omega]⟩
  · obtain ⟨u, u1, u2, u3⟩ := ext_short hf hr hall (L := n) (fun p h0 h2 => dub_ext hf hr hall ha z0 z1 z2 zi h0 h2) h1
    refine ⟨u, u1, Nat.le_trans u2 ?_, u3⟩
    obtain ⟨k, rfl⟩ : ∃ k, n = k + 2 := ⟨n - 2, by omega⟩
    rw [show k + 2 - 2 = k by omega, show k + 2 - 1 = k + 1 by omega, Nat.mul_add, Nat.mul_add, Nat.add_mul]
    omega
end
end Go.Proofs.Ytcpmmkennnjalaa.Q
end
