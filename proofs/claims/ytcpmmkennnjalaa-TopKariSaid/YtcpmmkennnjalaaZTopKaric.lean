/- In any Eulerian automaton that has a reset word, whatever set of states, neither empty nor all, is led into by more states with a word of at most n - 1 letters, and its shortest reset word has at most n^2 - 3n + 3 letters; in any circular one at most (n - 1)^2. (At most 9 states) (text 3 of 42) -/
import Derived.Test.YtcpmmkennnjalaaZTopKarib
import Derived.Sort.Lot0
import Derived.Sort.LotA
section
namespace Go.Proofs.Ytcpmmkennnjalaa.Q
open Go.Sort
set_option linter.unusedVariables false
set_option linter.unusedSimpArgs false
/-! ### the merge of two sorted parts is sorted -/
theorem bsN_spec {p : Nat → Bool} : ∀ (k i j : Nat), i ≤ j → j - i ≤ k → (∀ x y, i ≤ y → y ≤ x → x < j → p x = true → p y = true) → (∀ x, i ≤ x → x < bsN p k i j → p x = true) ∧ (∀ x, bsN p k i j ≤ x → x < j → p x = false)
  | 0, i, j, hij, hk, hm => ⟨fun x h1 h2 => by simp only [bsN] at h2; omega, fun x h1 h2 => by simp only [bsN] at h1; omega⟩
  | k + 1, i, j, hij, hk, hm => by
    unfold bsN
    by_cases h : i < j
    · rw [if_pos h]
      cases hp : p ((i + j) / 2) with
      | true =>
        rw [if_pos rfl]
        obtain ⟨h1, h2⟩ := bsN_spec (p := p) k ((i + j) / 2 + 1) j (by omega) (by omega) fun x y a b c d => hm x y (by omega) b c d
        refine ⟨fun x a b => ?_, h2⟩
        rcases Nat.lt_or_ge ((i + j) / 2) x with c | c
        · exact h1 x c b
        · exact hm _ x a c (by omega) hp
      | false =>
        rw [if_neg Bool.false_ne_true]
        obtain ⟨h1, h2⟩ := bsN_spec (p := p) k i ((i + j) / 2) (by omega) (by omega) fun x y a b c d => hm x y a b (by omega) d
        refine ⟨h1, fun x a b => ?_⟩
        rcases Nat.lt_or_ge x ((i + j) / 2) with c | c
        · exact h2 x a c
        · cases hx : p x with
          | false => rfl
          | true => rw [hm x _ (by omega) c b hx] at hp; cases hp
    · rw [if_neg h]
      exact ⟨fun x a b => by omega, fun x a b => by omega⟩
section
variable {α : Type} [Inhabited α]
theorem swapRng_get (d : Array α) (a b : Nat) : ∀ (n : Nat), a + n ≤ b → b + n ≤ d.size → ∀ x, (swapRng d a b n)[x]! = if a ≤ x ∧ x < a + n then d[x + (b - a)]! else if b ≤ x ∧ x < b + n then d[x - (b - a)]! else d[x]!
  | 0, h1, h2, x => by
    rw [swapRng, if_neg (by omega), if_neg (by omega)]
  | n + 1, h1, h2, x => by
    rw [swapRng, swp_get _ (by rw [size_swapRng]; omega) (by rw [size_swapRng]; omega)]
    have ih := swapRng_get d a b n (by omega) (by omega)
    by_cases c1 : x = b + n
    · rw [if_pos c1, ih, if_neg (by omega), if_neg (by omega), if_neg (by omega), if_pos (by omega)]
      congr 1; omega
    · rw [if_neg c1]
      by_cases c2 : x = a + n
      · rw [if_pos c2, ih, if_neg (by omega), if_neg (by omega), if_pos (by omega)]
        congr 1; omega
      · rw [if_neg c2, ih]
        by_cases c3 : a ≤ x ∧ x < a + n
        · rw [if_pos c3, if_pos (by omega)]
        · rw [if_neg c3, if_neg (show ¬ (a ≤ x ∧ x < a + (n + 1)) by omega)]
          by_cases c4 : b ≤ x ∧ x < b + n
          · rw [if_pos c4, if_pos (by omega)]
          · rw [if_neg c4, if_neg (by omega)]
theorem swapRng_perm (d : Array α) (a b lo hi : Nat) : ∀ (n : Nat), lo ≤ a → a + n ≤ hi → lo ≤ b → b + n ≤ hi → hi ≤ d.size → PermIn lo hi d (swapRng d a b n)
  | 0, _, _, _, _, _ => permIn_refl _ _ _
  | n + 1, h1, h2, h3, h4, h5 => permIn_trans _ _ _ _ _ (swapRng_perm d a b lo hi n h1 (by omega) h3 (by omega) h5) (swp_permIn _ _ _ _ _ (by omega) (by omega) (by omega) (by omega) (by rw [size_swapRng]; exact h5))
theorem rotL_perm (lo hi m : Nat) : ∀ (k : Nat) (d : Array α) (i j : Nat), lo + i ≤ m → m + j ≤ hi → hi ≤ d.size → PermIn lo hi d (rotL k d m i j)
  | 0, d, i, j, _, _, _ => permIn_refl _ _ _
  | k + 1, d, i, j, h1, h2, h3 => by
    unfold rotL
    split
    · exact swapRng_perm d _ _ _ _ _ (by omega) (by omega) (by omega) (by omega) h3
    · split
      · exact permIn_trans _ _ _ _ _ (swapRng_perm d _ _ lo hi _ (by omega) (by omega) (by omega) (by omega) h3) (rotL_perm lo hi m k _ _ _ (by omega) (by omega) (by rw [size_swapRng]; exact h3))
      · exact permIn_trans _ _ _ _ _ (swapRng_perm d _ _ lo hi _ (by omega) (by omega) (by omega) (by omega) h3) (rotL_perm lo hi m k _ _ _ (by omega) (by omega) (by rw [size_swapRng]; exact h3))
theorem rotL_get (m : Nat) : ∀ (k : Nat) (d : Array α) (i j : Nat), 0 < i → 0 < j → i + j ≤ k → i ≤ m → m + j ≤ d.size → ∀ x, (rotL k d m i j)[x]! = if m - i ≤ x ∧ x < m - i + j then d[x + i]! else if m - i + j ≤ x ∧ x < m + j then d[x - j]! else d[x]!
  | 0, d, i, j, h1, h2, h3, h4, h5, x => by omega
  | k + 1, d, i, j, h1, h2, h3, h4, h5, x => by
    unfold rotL
    by_cases e : i = j
    · rw [if_pos e, swapRng_get _ _ _ _ (by omega) (by omega)]
      subst e
      by_cases c1 : m - i ≤ x ∧ x < m - i + i
      · rw [if_pos c1, if_pos c1]; congr 1; omega
      · rw [if_neg c1, if_neg c1]
        by_cases c2 : m ≤ x ∧ x < m + i
        · rw [if_pos c2, if_pos (by omega)]; congr 1; omega
        · rw [if_neg c2, if_neg (by omega)]
    · rw [if_neg e]
      by_cases g : j < i
      · rw [if_pos g, rotL_get m k _ (i - j) j (by omega) h2 (by omega) (by omega) (by rw [size_swapRng]; omega)]
        have sg := swapRng_get d (m - i) m j (by omega) (by omega)
        by_cases c1 : m - i ≤ x ∧ x < m - i + j
        · rw [if_pos c1]
          simp only [sg]
          rw [if_neg (by omega), if_neg (by omega), if_pos (by omega)]; congr 1; omega
        · rw [if_neg c1]
          by_cases c2 : m - i + j ≤ x ∧ x < m + j
          · rw [if_pos c2]
            simp only [sg]
            by_cases c3 : x < m - i + j + j
            · rw [if_pos (by omega), if_neg (by omega), if_pos (by omega)]; congr 1; omega
            · rw [if_neg (by omega), if_pos (by omega), if_neg (by omega), if_neg (by omega)]
          · rw [if_neg c2]
            simp only [sg]
            rw [if_neg (by omega), if_neg (by omega), if_neg (by omega), if_neg (by omega)]
      · rw [if_neg g, rotL_get m k _ i (j - i) h1 (by omega) (by omega) h4 (by rw [size_swapRng]; omega)]
        have sg := swapRng_get d (m - i) (m + j - i) i (by omega) (by omega)
        by_cases c1 : m - i ≤ x ∧ x < m - i + j
        · rw [if_pos c1]
          simp only [sg]
          by_cases c3 : x < m - i + (j - i)
          · rw [if_pos (by omega), if_neg (by omega), if_neg (by omega)]
          · rw [if_neg (by omega), if_pos (by omega), if_pos (by omega)]; congr 1; omega
        · rw [if_neg c1]
          by_cases c2 : m - i + j ≤ x ∧ x < m + j
          · rw [if_pos c2]
            simp only [sg]
            rw [if_neg (by omega), if_neg (by omega), if_neg (by omega), if_pos (by omega)]; congr 1; omega
          · rw [if_neg c2]
            simp only [sg]
            rw [if_neg (by omega), if_neg (by omega), if_neg (by omega), if_neg (by omega)]
theorem mvR_perm (d : Array α) (a lo hi : Nat) : ∀ c, lo ≤ a → a + c < hi → hi ≤ d.size → PermIn lo hi d (mvR d a c)
  | 0, _, _, _ => permIn_refl _ _ _
  | c + 1, h1, h2, h3 => permIn_trans _ _ _ _ _ (mvR_perm d a lo hi c h1 (by omega) h3) (swp_permIn _ _ _ _ _ (by omega) (by omega) (by omega) (by omega) (by rw [size_mvR]; exact h3))
theorem mvR_get (d : Array α) (a : Nat) : ∀ c, a + c < d.size → ∀ x, (mvR d a c)[x]! = if a ≤ x ∧ x < a + c then d[x + 1]! else if x = a + c then d[a]! else d[x]!
  | 0, h, x => by
    rw [mvR, if_neg (by omega)]
    by_cases e : x = a + 0
    · rw [if_pos e, e]; rfl
    · rw [if_neg e]
  | c + 1, h, x => by
    rw [mvR, swp_get _ (by rw [size_mvR]; omega) (by rw [size_mvR]; omega)]
    have ih := mvR_get d a c (by omega)
    by_cases c1 : x = a + c + 1
    · rw [if_pos c1, ih, if_neg (by omega), if_pos rfl, if_neg (by omega), if_pos (by omega)]
    · rw [if_neg c1]
      by_cases c2 : x = a + c
      · rw [if_pos c2, ih, if_neg (by omega), if_neg (by omega), if_pos (by omega), c2]
      · rw [if_neg c2, ih]
        by_cases c3 : a ≤ x ∧ x < a + c
        · rw [if_pos c3, if_pos (by omega)]
        · rw [if_neg c3, if_neg (by omega), if_neg (by omega), if_neg (by omega)]
theorem mvL_perm (d : Array α) (m lo hi : Nat) : ∀ c, lo + c ≤ m → m < hi → hi ≤ d.size → PermIn lo hi d (mvL d m c)
  | 0, _, _, _ => permIn_refl _ _ _
  | c + 1, h1, h2, h3 => permIn_trans _ _ _ _ _ (mvL_perm d m lo hi c (by omega) h2 h3) (swp_permIn _ _ _ _ _ (by omega) (by omega) (by omega) (by omega) (by rw [size_mvL]; exact h3))
theorem mvL_get (d : Array α) (m : Nat) : ∀ c, c ≤ m → m < d.size → ∀ x, (mvL d m c)[x]! = if x = m - c then d[m]! else if m - c < x ∧ x ≤ m then d[x - 1]! else d[x]!
  | 0, h, hm, x => by
    rw [mvL]
    by_cases e : x = m - 0
    · rw [if_pos e, e]; rfl
    · rw [if_neg e, if_neg (by omega)]
  | c + 1, h, hm, x => by
    rw [mvL, swp_get _ (by rw [size_mvL]; omega) (by rw [size_mvL]; omega)]
    have ih := mvL_get d m c (by omega) hm
    by_cases c1 : x = m - c - 1
    · rw [if_pos c1, ih, if_pos rfl, if_pos (by omega)]
    · rw [if_neg c1]
      by_cases c2 : x = m - c
      · rw [if_pos c2, ih, if_neg (by omega), if_neg (by omega), if_neg (by omega), if_pos (by omega), c2]
      · rw [if_neg c2, ih, if_neg c2, if_neg (show ¬ x = m - (c + 1) by omega)]
        by_cases c3 : m - c < x ∧ x ≤ m
        · rw [if_pos c3, if_pos (by omega)]
        · rw [if_neg c3, if_neg (by omega)]
/-- two parts, each sorted, the first below the second -/
theorem sorted_join {lt : α → α → Bool} {d : Array α} {a m b : Nat} (h1 : SortedIn lt a m d) (h2 : SortedIn lt m b d) (h3 : ∀ x y, a ≤ x → x < m → m ≤ y → y < b → lt d[y]! d[x]! = false) : SortedIn lt a b d := fun i j hi hij hj => by
  rcases Nat.lt_or_ge j m with h | h
  · exact h1 i j hi hij h
  · rcases Nat.lt_or_ge i m with g | g
    · exact h3 i j hi g h hj
    · exact h2 i j g hij hj
theorem symM_holds {lt : α → α → Bool} (W : SWO lt) : ∀ (K : Nat) (d : Array α) (a m b : Nat), a < m → m < b → b ≤ d.size → b - a ≤ K → SortedIn lt a m d → SortedIn lt m b d → PermIn a b d (symM lt K d a m b) ∧ SortedIn lt a b (symM lt K d a m b)
  | 0, d, a, m, b, h1, h2, h3, h4, s1, s2 => by omega
  | K + 1, d, a, m, b, h1, h2, h3, h4, s1, s2 => by
    have asy : ∀ x y, lt x y = true → lt y x = false := fun x y h => by
      cases hh : lt y x with
      | false => rfl
      | true => have := W.trans x y x h hh; rw [W.irrefl] at this; cases this
    rw [symM]
    by_cases c1 : m - a = 1
    · rw [if_pos c1]
      have hin := bsN_in (fun h => lt d[h]! d[a]!) (b - m) m b (by omega)
      obtain ⟨p1, p2⟩ := bsN_spec (p := fun h => lt d[h]! d[a]!) (b - m) m b (by omega) (Nat.le_refl _) fun x y hy hyx hx hp => by
        rcases Nat.eq_or_lt_of_le hyx with rfl | hyx
        · exact hp
        · cases hq : lt d[y]! d[a]! with
          | true => rfl
          | false => have := W.ntrans _ _ _ (s2 y x hy hyx hx) hq; rw [this] at hp; cases hp
      generalize bsN (fun h => lt d[h]! d[a]!) (b - m) m b = r at hin p1 p2
      have hg := mvR_get d a (r - 1 - a) (by omega)
      refine ⟨mvR_perm d a a b _ (Nat.le_refl _) (by omega) h3, fun i j hi hij hj => ?_⟩
      rw [hg i, hg j]
      by_cases j1 : j < r - 1
      · rw [if_pos (by omega), if_pos (by omega)]
        exact s2 _ _ (by omega) (by omega) (by omega)
      · by_cases j2 : j = r - 1
        · rw [if_neg (by omega), if_pos (by omega), if_pos (by omega)]
          exact asy _ _ (p1 _ (by omega) (by omega))
        · rw [if_neg (by omega), if_neg (by omega)]
          by_cases i1 : i < r - 1
          · rw [if_pos (by omega)]
            exact s2 _ _ (by omega) (by omega) hj
          · by_cases i2 : i = r - 1
            · rw [if_neg (by omega), if_pos (by omega)]
              exact p2 _ (by omega) hj
            · rw [if_neg (by omega), if_neg (by omega)]
              exact s2 _ _ (by omega) hij hj
    · rw [if_neg c1]
      by_cases c2 : b - m = 1
      · rw [if_pos c2]
        have hin := bsN_in (fun h => !lt d[m]! d[h]!) (m - a) a m (by omega)
        obtain ⟨p1, p2⟩ := bsN_spec (p := fun h => !lt d[m]! d[h]!) (m - a) a m (by omega) (Nat.le_refl _) fun x y hy hyx hx hp => by
          rcases Nat.eq_or_lt_of_le hyx with rfl | hyx
          · exact hp
          · have q1 : lt d[m]! d[x]! = false := by simpa using hp
            have := W.ntrans _ _ _ q1 (s1 y x hy hyx hx)
            simpa using this
        generalize bsN (fun h => !lt d[m]! d[h]!) (m - a) a m = r at hin p1 p2
        have hg := mvL_get d m (m - r) (by omega) (by omega)
        refine ⟨mvL_perm d m a b _ (by omega) h2 h3, fun i j hi hij hj => ?_⟩
        rw [hg i, hg j]
        by_cases i1 : i < r
        · rw [if_neg (show ¬ i = m - (m - r) by omega), if_neg (show ¬ (m - (m - r) < i ∧ i ≤ m) by omega)]
          by_cases j1 : j < r
          · rw [if_neg (by omega), if_neg (by omega)]
            exact s1 _ _ hi hij (by omega)
          · by_cases j2 : j = r
            · rw [if_pos (by omega)]
              have := p1 i hi i1
              simpa using this
            · rw [if_neg (by omega), if_pos (by omega)]
              exact s1 _ _ hi (by omega) (by omega)
        · by_cases i2 : i = r
          · rw [if_pos (show i = m - (m - r) by omega), if_neg (show ¬ j = m - (m - r) by omega), if_pos (show m - (m - r) < j ∧ j ≤ m by omega)]
            have := p2 (j - 1) (by omega) (by omega)
            exact asy _ _ (by simpa using this)
          · rw [if_neg (show ¬ i = m - (m - r) by omega), if_neg (show ¬ j = m - (m - r) by omega), if_pos (show m - (m - r) < j ∧ j ≤ m by omega), if_pos (show m - (m - r) < i ∧ i ≤ m by omega)]
            exact s1 _ _ (by omega) (by omega) (by omega)
      · rw [if_neg c2]
        obtain ⟨mid, hmid⟩ : ∃ mid, (a + b) / 2 = mid := ⟨_, rfl⟩
        obtain ⟨s, hs0⟩ : ∃ s, symS lt d a m b = s := ⟨_, rfl⟩
        rw [hs0, hmid]
        dsimp only
        obtain ⟨i0, hi0⟩ : ∃ i0, (if mid < m then mid + m - b else a) = i0 := ⟨_, rfl⟩
        obtain ⟨j0, hj0⟩ : ∃ j0, (if mid < m then mid else m) = j0 := ⟨_, rfl⟩
        unfold symS at hs0
        rw [hmid, hi0, hj0] at hs0
        have hij0 : a ≤ i0 ∧ i0 ≤ j0 ∧ j0 ≤ m ∧ j0 ≤ mid ∧ mid + m ≤ b + i0 ∧ j0 - i0 ≤ b - a ∧ (i0 = a ∨ mid + m = b + i0) ∧ (j0 = m ∨ j0 = mid) := by
          rw [← hi0, ← hj0]; split <;> omega
        have hin := bsN_in (fun c => !lt d[mid + m - 1 - c]! d[c]!) (b - a) i0 j0 hij0.2.1
        obtain ⟨p1, p2⟩ := bsN_spec (p := fun c => !lt d[mid + m - 1 - c]! d[c]!) (b - a) i0 j0 hij0.2.1 (by omega) fun x y hy hyx hx hp => by
          rcases Nat.eq_or_lt_of_le hyx with rfl | hyx
          · exact hp
          · have q1 : lt d[mid + m - 1 - x]! d[x]! = false := by simpa using hp
            have q2 := W.ntrans _ _ _ q1 (s1 y x (by omega) hyx (by omega))
            have q3 := W.ntrans _ _ _ (s2 (mid + m - 1 - x) (mid + m - 1 - y) (by omega) (by omega) (by omega)) q2
            simpa using q3
        rw [hs0] at hin p1 p2
        clear hs0 hi0 hj0
        obtain ⟨t, ht⟩ : ∃ t, mid + m - s = t := ⟨_, rfl⟩
        rw [ht]
        have hst : a ≤ s ∧ s ≤ m ∧ s ≤ mid ∧ mid ≤ t ∧ m ≤ t ∧ t ≤ b := by omega
        -- behind the rotation
        obtain ⟨d1, hd1⟩ : ∃ d1, (if s < m ∧ m < t then rotL (t - s) d m (m - s) (t - m) else d) = d1 := ⟨_, rfl⟩
        rw [hd1]
        have g1 : ∀ x, d1[x]! = if s ≤ x ∧ x < mid then d[x + (m - s)]! else if mid ≤ x ∧ x < t then d[x - (t - m)]! else d[x]! := by
          intro x
          rw [← hd1]
          by_cases c : s < m ∧ m < t
          · rw [if_pos c, rotL_get m _ d _ _ (by omega) (by omega) (by omega) (by omega) (by omega)]
            by_cases x1 : s ≤ x ∧ x < mid
            · rw [if_pos x1, if_pos (by omega)]
            · rw [if_neg x1, if_neg (by omega)]
              by_cases x2 : mid ≤ x ∧ x < t
              · rw [if_pos x2, if_pos (by omega)]
              · rw [if_neg x2, if_neg (by omega)]
          · rw [if_neg c]
            by_cases x1 : s ≤ x ∧ x < mid
            · rw [if_pos x1]; congr 1; omega
            · rw [if_neg x1]
              by_cases x2 : mid ≤ x ∧ x < t
              · rw [if_pos x2]; congr 1; omega
              · rw [if_neg x2]
        have q1 : PermIn a b d d1 := by
          rw [← hd1]
          split
          · exact rotL_perm a b m _ d _ _ (by omega) (by omega) h3
          · exact permIn_refl _ _ _
        have z1 : d1.size = d.size := q1.1
        have s11 : SortedIn lt a s d1 := fun i j hi hij hj => by
          rw [g1 i, g1 j, if_neg (by omega), if_neg (by omega), if_neg (by omega), if_neg (by omega)]
          exact s1 i j hi hij (by omega)
        have s12 : SortedIn lt s mid d1 := fun i j hi hij hj => by
          rw [g1 i, g1 j, if_pos (by omega), if_pos (by omega)]
          exact s2 _ _ (by omega) (by omega) (by omega)
        have s13 : SortedIn lt mid t d1 := fun i j hi hij hj => by
          rw [g1 i, g1 j, if_neg (by omega), if_pos (by omega), if_neg (by omega), if_pos (by omega)]
          exact s1 _ _ (by omega) (by omega) (by omega)
        have s14 : SortedIn lt t b d1 := fun i j hi hij hj => by
          rw [g1 i, g1 j, if_neg (by omega), if_neg (by omega), if_neg (by omega), if_neg (by omega)]
          exact s2 _ _ (by omega) hij hj
        have cross : ∀ x y, a ≤ x → x < mid → mid ≤ y → y < b → lt d1[y]! d1[x]! = false := fun x y hx hxm hy hyb => by
          rw [g1 x, g1 y]
          by_cases x1 : x < s
          · rw [if_neg (show ¬ (s ≤ y ∧ y < mid) by omega), if_neg (show ¬ (s ≤ x ∧ x < mid) by omega), if_neg (show ¬ (mid ≤ x ∧ x < t) by omega)]
            by_cases y1 : y < t
            · rw [if_pos (by omega)]
              exact s1 _ _ hx (by omega) (by omega)
            · rw [if_neg (by omega)]
              have k1 : lt d[mid + m - 1 - (s - 1)]! d[s - 1]! = false := by
                have := p1 (s - 1) (by omega) (by omega)
                simpa using this
              rw [show mid + m - 1 - (s - 1) = t by omega] at k1
              have k2 : lt d[t]! d[x]! = false := by
                rcases Nat.lt_or_ge x (s - 1) with c | c
                · exact W.ntrans _ _ _ k1 (s1 x (s - 1) hx c (by omega))
                · rw [show x = s - 1 by omega]; exact k1
              rcases Nat.lt_or_ge t y with c | c
              · exact W.ntrans _ _ _ (s2 t y (by omega) c hyb) k2
              · rw [show y = t by omega]; exact k2
          · rw [if_neg (show ¬ (s ≤ y ∧ y < mid) by omega), if_pos (show s ≤ x ∧ x < mid by omega)]
            by_cases y1 : y < t
            · rw [if_pos (by omega)]
              have k1 : lt d[mid + m - 1 - s]! d[s]! = true := by
                have := p2 s (Nat.le_refl _) (by omega)
                simpa using this
              rw [show mid + m - 1 - s = t - 1 by omega] at k1
              have k2 : lt d[s]! d[t - 1]! = false := asy _ _ k1
              have k3 : lt d[s]! d[x + (m - s)]! = false := by
                rcases Nat.lt_or_ge (x + (m - s)) (t - 1) with c | c
                · cases hq : lt d[s]! d[x + (m - s)]! with
                  | false => rfl
                  | true =>
                    have h7 := s2 (x + (m - s)) (t - 1) (by omega) c (by omega)
                    have h8 := W.trans _ _ _ k1 hq
                    rw [h7] at h8; cases h8
                · rw [show x + (m - s) = t - 1 by omega]; exact k2
              rcases Nat.lt_or_ge s (y - (t - m)) with c | c
              · cases hq : lt d[y - (t - m)]! d[x + (m - s)]! with
                | false => rfl
                | true =>
                  have h7 := s1 s (y - (t - m)) (by omega) c (by omega)
                  -- lt y x, not lt y s, not lt s x
                  have h8 := W.ntrans _ _ _ h7 k3
                  rw [h8] at hq; cases hq
              · rw [show y - (t - m) = s by omega]; exact k3
            · rw [if_neg (by omega)]
              rcases Nat.lt_or_ge (x + (m - s)) y with c | c
              · exact s2 _ _ (by omega) c hyb
              · omega
        -- the two halves
        obtain ⟨d2, hd2⟩ : ∃ d2, (if a < s ∧ s < mid then symM lt K d1 a s mid else d1) = d2 := ⟨_, rfl⟩
        rw [hd2]
        have r2 : PermIn a mid d1 d2 ∧ SortedIn lt a mid d2 := by
          rw [← hd2]
          by_cases c : a < s ∧ s < mid
          · rw [if_pos c]
            exact symM_holds W K d1 a s mid c.1 c.2 (by omega) (by omega) s11 s12
          · rw [if_neg c]
            refine ⟨permIn_refl _ _ _, ?_⟩
            by_cases e : a < s
            · exact fun i j hi hij hj => s11 i j hi hij (by omega)
            · exact fun i j hi hij hj => s12 i j (by omega) hij hj
        have z2 : d2.size = d.size := r2.1.1.trans z1
        have out2 : ∀ i, mid ≤ i → d2[i]! = d1[i]! := fun i hi => r2.1.2.1 i (.inr hi)
        have r3 : PermIn mid b d2 (if mid < t ∧ t < b then symM lt K d2 mid t b else d2) ∧ SortedIn lt mid b (if mid < t ∧ t < b then symM lt K d2 mid t b else d2) := by
          have s23 : SortedIn lt mid t d2 := fun i j hi hij hj => by rw [out2 i hi, out2 j (by omega)]; exact s13 i j hi hij hj
          have s24 : SortedIn lt t b d2 := fun i j hi hij hj => by rw [out2 i (by omega), out2 j (by omega)]; exact s14 i j hi hij hj
          by_cases c : mid < t ∧ t < b
          · rw [if_pos c]
            exact symM_holds W K d2 mid t b c.1 c.2 (by omega) (by omega) s23 s24
          · rw [if_neg c]
            refine ⟨permIn_refl _ _ _, ?_⟩
            by_cases e : mid < t
            · exact fun i j hi hij hj => s23 i j hi hij (by omega)
            · exact fun i j hi hij hj => s24 i j (by omega) hij hj
        generalize (if mid < t ∧ t < b then symM lt K d2 mid t b else d2) = d3 at r3
        have out3 : ∀ i, i < mid → d3[i]! = d2[i]! := fun i hi => r3.1.2.1 i (.inl hi)
        refine ⟨permIn_trans _ _ _ _ _ q1 (permIn_trans _ _ _ _ _ (permIn_mono _ _ a mid a b (Nat.le_refl _) (by omega) (by omega) r2.1) (permIn_mono _ _ mid b a b (by omega) (Nat.le_refl _) (by omega) r3.1)), ?_⟩
        refine sorted_join (m := mid) (fun i j hi hij hj => by rw [out3 i (by omega), out3 j hj]; exact r2.2 i j hi hij hj) r3.2 fun x y hx hxm hy hyb => ?_
        rw [out3 x hxm]
        have c2 : ∀ y, mid ≤ y → y < b → lt d2[y]! d2[x]! = false := fun y hy hyb => by
          rw [out2 y hy]
          exact permIn_all d1 d2 a mid (fun v => lt d1[y]! v = false) (by omega) r2.1 (fun i hi him => cross i y hi him hy hyb) x hx hxm
        exact permIn_all d2 d3 mid b (fun v => lt v d2[x]! = false) (by omega) r3.1 c2 y hy hyb
end
end Go.Proofs.Ytcpmmkennnjalaa.Q
end
section
namespace Go.Proofs.Ytcpmmkennnjalaa.Q
open Go.Sort
set_option linter.unusedVariables false
set_option linter.unusedSimpArgs false
/-! ### the stable sort: blocks, then merges of blocks -/
section
variable {α : Type} [Inhabited α]
theorem sorted_out {lt : α → α → Bool} {a b lo hi : Nat} {d d' : Array α} (h : PermIn a b d d') (ho : hi ≤ a ∨ b ≤ lo) (hs : SortedIn lt lo hi d) : SortedIn lt lo hi d' := fun i j hi' hij hj => by
  rw [h.2.1 i (by omega), h.2.1 j (by omega)]
  exact hs i j hi' hij hj
theorem sorted_sub {lt : α → α → Bool} {lo hi lo' hi' : Nat} {d : Array α} (hs : SortedIn lt lo hi d) (h1 : lo ≤ lo') (h2 : hi' ≤ hi) : SortedIn lt lo' hi' d := fun i j a b c => hs i j (by omega) b (by omega)
def Inv1 (lt : α → α → Bool) (d : Array α) (a : Nat) (dk : Array α) : Prop := PermIn 0 d.size d dk ∧ ∃ q, a = q * 20 ∧ ∀ k, k < q → SortedIn lt (k * 20) (k * 20 + 20) dk
/-- all blocks are sorted -/
def InvB (lt : α → α → Bool) (d : Array α) (s : Nat) (dk : Array α) : Prop := PermIn 0 d.size d dk ∧ ∀ x, SortedIn lt (x * s) (min (x * s + s) d.size) dk
def Inv3 (lt : α → α → Bool) (d : Array α) (s a : Nat) (dk : Array α) : Prop := PermIn 0 d.size d dk ∧ ∃ q, a = q * (2 * s) ∧ (∀ k, k < q → SortedIn lt (k * (2 * s)) (k * (2 * s) + 2 * s) dk) ∧ ∀ x, 2 * q ≤ x → SortedIn lt (x * s) (min (x * s + s) d.size) dk
variable {lt : α → α → Bool} (W : SWO lt) {d dk : Array α}
theorem Inv1.start : Inv1 lt d 0 d := ⟨permIn_refl _ _ _, 0, by omega, fun k h => by omega⟩
theorem Inv1.size {a : Nat} (h : Inv1 lt d a dk) : dk.size = d.size := h.1.1
theorem InvB.size {a : Nat} (h : InvB lt d a dk) : dk.size = d.size := h.1.1
theorem Inv3.size {s a : Nat} (h : Inv3 lt d s a dk) : dk.size = d.size := h.1.1
include W
theorem Inv1.next {a : Nat} (h : Inv1 lt d a dk) (hb : a + 20 ≤ d.size) : Inv1 lt d (a + 20) (insertionSort lt dk a (a + 20)) := by
  obtain ⟨hp, q, rfl, hs⟩ := h
  have hz := hp.1
  obtain ⟨k1, k2⟩ := insertionSort_holds W dk (q * 20) (q * 20 + 20) (by omega) (by omega)
  refine ⟨permIn_trans _ _ _ _ _ hp (permIn_mono _ _ _ _ _ _ (by omega) hb (by omega) k1), q + 1, by omega, fun k hk => ?_⟩
  rcases Nat.lt_or_ge k q with c | c
  · exact sorted_out k1 (by omega) (hs k c)
  · obtain rfl : k = q := by omega
    exact k2
theorem Inv1.done {a : Nat} (h : Inv1 lt d a dk) (ha : a ≤ d.size) (hb : d.size < a + 20) : InvB lt d 20 (insertionSort lt dk a d.size) := by
  obtain ⟨hp, q, rfl, hs⟩ := h
  have hz := hp.1
  obtain ⟨k1, k2⟩ := insertionSort_holds W dk (q * 20) d.size ha (by omega)
  refine ⟨permIn_trans _ _ _ _ _ hp (permIn_mono _ _ _ _ _ _ (by omega) (Nat.le_refl _) (by omega) k1), fun x => ?_⟩
  rcases Nat.lt_or_ge x q with c | c
  · exact sorted_sub (sorted_out k1 (by omega) (hs x c)) (Nat.le_refl _) (Nat.min_le_left _ _)
  · rcases Nat.lt_or_ge q x with c2 | c2
    · intro i j h1 h2 h3
      have := Nat.min_le_right (x * 20 + 20) d.size
      omega
    · obtain rfl : x = q := by omega
      exact sorted_sub k2 (Nat.le_refl _) (Nat.min_le_right _ _)
omit W in
theorem InvB.start {s : Nat} (h : InvB lt d s dk) : Inv3 lt d s 0 dk := ⟨h.1, 0, by omega, fun k hk => by omega, fun x _ => h.2 x⟩
omit W in
theorem InvB.done {s : Nat} (h : InvB lt d s dk) (hs : d.size ≤ s) : PermIn 0 d.size d dk ∧ SortedIn lt 0 d.size dk := by
  refine ⟨h.1, ?_⟩
  have := h.2 0
  rw [Nat.zero_mul, Nat.zero_add, Nat.min_eq_right hs] at this
  exact this
omit W in
theorem inv3_parts {s a b : Nat} (h : Inv3 lt d s a dk) (hb : b ≤ a + 2 * s) (hbn : b ≤ d.size) (hm : a + s < b) (hx : b = a + 2 * s ∨ b = d.size) : SortedIn lt a (a + s) dk ∧ SortedIn lt (a + s) b dk := by
  obtain ⟨hp, q, rfl, h1, h2⟩ := h
  have e1 : 2 * q * s = q * (2 * s) := by rw [Nat.mul_comm 2 q, Nat.mul_assoc]
  have e2 : (2 * q + 1) * s = q * (2 * s) + s := by rw [Nat.add_mul, e1, Nat.one_mul]
  have a1 := h2 (2 * q) (Nat.le_refl _)
  have a2 := h2 (2 * q + 1) (by omega)
  rw [e1] at a1
  rw [e2] at a2
  exact ⟨sorted_sub a1 (Nat.le_refl _) (by omega), sorted_sub a2 (Nat.le_refl _) (by omega)⟩
theorem Inv3.next {s a K : Nat} (h : Inv3 lt d s a dk) (hs : 0 < s) (hb : a + 2 * s ≤ d.size) (hK : 2 * s ≤ K) : Inv3 lt d s (a + 2 * s) (symM lt K dk a (a + s) (a + 2 * s)) := by
  have hz := h.size
  obtain ⟨p1, p2⟩ := inv3_parts h (Nat.le_refl _) hb (by omega) (.inl rfl)
  obtain ⟨k1, k2⟩ := symM_holds W K dk a (a + s) (a + 2 * s) (by omega) (by omega) (by omega) (by omega) p1 p2
  obtain ⟨hp, q, rfl, h1, h2⟩ := h
  refine ⟨permIn_trans _ _ _ _ _ hp (permIn_mono _ _ _ _ _ _ (by omega) hb (by omega) k1), q + 1, by rw [Nat.add_mul, Nat.one_mul], fun k hk => ?_, fun x hx => ?_⟩
  · rcases Nat.lt_or_ge k q with c | c
    · have := Nat.mul_le_mul_right (2 * s) (show k + 1 ≤ q from c)
      rw [Nat.add_mul, Nat.one_mul] at this
      exact sorted_out k1 (.inl this) (h1 k c)
    · obtain rfl : k = q := by omega
      exact k2
  · have := Nat.mul_le_mul_right s hx
    have e : 2 * (q + 1) * s = q * (2 * s) + 2 * s := by rw [Nat.mul_add, Nat.add_mul, Nat.mul_comm 2 q, Nat.mul_assoc]
    rw [e] at this
    exact sorted_out k1 (.inr this) (h2 x (by omega))
theorem Inv3.last {s a K : Nat} (h : Inv3 lt d s a dk) (hs : 0 < s) (hb : d.size < a + 2 * s) (hm : a + s < d.size) (hK : d.size ≤ K) : InvB lt d (2 * s) (symM lt K dk a (a + s) d.size) := by
  have hz := h.size
  obtain ⟨p1, p2⟩ := inv3_parts h (Nat.le_of_lt hb) (Nat.le_refl _) hm (.inr rfl)
  obtain ⟨k1, k2⟩ := symM_holds W K dk a (a + s) d.size (by omega) (by omega) (by omega) (by omega) p1 p2
  obtain ⟨hp, q, rfl, h1, h2⟩ := h
  refine ⟨permIn_trans _ _ _ _ _ hp (permIn_mono _ _ _ _ _ _ (by omega) (Nat.le_refl _) (by omega) k1), fun x => ?_⟩
  rcases Nat.lt_or_ge x q with c | c
  · have := Nat.mul_le_mul_right (2 * s) (show x + 1 ≤ q from c)
    rw [Nat.add_mul, Nat.one_mul] at this
    exact sorted_sub (sorted_out k1 (.inl this) (h1 x c)) (Nat.le_refl _) (Nat.min_le_left _ _)
  · rcases Nat.lt_or_ge q x with c2 | c2
    · have := Nat.mul_le_mul_right (2 * s) (show q + 1 ≤ x from c2)
      rw [Nat.add_mul, Nat.one_mul] at this
      intro i j h1 h2 h3
      omega
    · obtain rfl : x = q := by omega
      exact sorted_sub k2 (Nat.le_refl _) (Nat.min_le_right _ _)
omit W in
theorem Inv3.skip {s a : Nat} (h : Inv3 lt d s a dk) (hs : 0 < s) (hm : d.size ≤ a + s) : InvB lt d (2 * s) dk := by
  obtain ⟨hp, q, rfl, h1, h2⟩ := h
  refine ⟨hp, fun x => ?_⟩
  rcases Nat.lt_or_ge x q with c | c
  · exact sorted_sub (h1 x c) (Nat.le_refl _) (Nat.min_le_left _ _)
  · rcases Nat.lt_or_ge q x with c2 | c2
    · have := Nat.mul_le_mul_right (2 * s) (show q + 1 ≤ x from c2)
      rw [Nat.add_mul, Nat.one_mul] at this
      intro i j h1 h2 h3
      omega
    · obtain rfl : x = q := by omega
      have a1 := h2 (2 * x) (Nat.le_refl _)
      rw [show 2 * x * s = x * (2 * s) by rw [Nat.mul_comm 2 x, Nat.mul_assoc]] at a1
      exact sorted_sub a1 (Nat.le_refl _) (by omega)
end
end Go.Proofs.Ytcpmmkennnjalaa.Q
end
