/- In any Eulerian automaton that has a reset word, whatever set of states, neither empty nor all, is led into by more states with a word of at most n - 1 letters, and its shortest reset word has at most n^2 - 3n + 3 letters; in any circular one at most (n - 1)^2. (At most 9 states) (text 8 of 42) -/

section
namespace Go.Proofs.Ytcpmmkennnjalaa.Q
set_option linter.unusedVariables false
set_option linter.unusedSectionVars false
set_option linter.unusedSimpArgs false
/-! ### more functions than a span has: a relation; skew pairs (Frankl) -/
def sumL {ι : Type} (I : List ι) (f : ι → Int) : Int := (I.map f).sum
theorem sumL_nil {ι : Type} (f : ι → Int) : sumL [] f = 0 := rfl
theorem sumL_cons {ι : Type} (i : ι) (I : List ι) (f : ι → Int) : sumL (i :: I) f = f i + sumL I f := by simp [sumL]
theorem sumL_append {ι : Type} (I J : List ι) (f : ι → Int) : sumL (I ++ J) f = sumL I f + sumL J f := by simp [sumL]
theorem sumL_add {ι : Type} (I : List ι) (f g : ι → Int) : sumL I (fun i => f i + g i) = sumL I f + sumL I g := by
  induction I with
  | nil => rfl
  | cons i I ih => rw [sumL_cons, sumL_cons, sumL_cons, ih]; omega
theorem sumL_mul {ι : Type} (I : List ι) (f : ι → Int) (a : Int) : sumL I (fun i => a * f i) = a * sumL I f := by
  induction I with
  | nil => simp [sumL]
  | cons i I ih => rw [sumL_cons, sumL_cons, ih, Int.mul_add]
theorem sumL_congr {ι : Type} {I : List ι} {f g : ι → Int} (h : ∀ i ∈ I, f i = g i) : sumL I f = sumL I g := by
  unfold sumL; rw [List.map_congr_left h]
theorem sumL_zero {ι : Type} {I : List ι} {f : ι → Int} (h : ∀ i ∈ I, f i = 0) : sumL I f = 0 := by
  induction I with
  | nil => rfl
  | cons i I ih => rw [sumL_cons, h i List.mem_cons_self, ih fun j hj => h j (List.mem_cons_of_mem _ hj)]; rfl
/-- f is a combination of the functions of a list. -/
inductive InSpan {X : Type} : List (X → Int) → (X → Int) → Prop
  | nil {f : X → Int} (h : ∀ x, f x = 0) : InSpan [] f
  | cons {b : X → Int} {B : List (X → Int)} {f g : X → Int} (a : Int) (hg : InSpan B g) (h : ∀ x, f x = a * b x + g x) : InSpan (b :: B) f
theorem InSpan.congr {X : Type} {B : List (X → Int)} {f g : X → Int} (h : InSpan B f) (e : ∀ x, g x = f x) : InSpan B g := by
  cases h with
  | nil h => exact .nil fun x => by rw [e, h]
  | cons a hg h => exact .cons a hg fun x => by rw [e, h]
theorem InSpan.zero {X : Type} : ∀ B : List (X → Int), InSpan B fun _ => 0
  | [] => .nil fun _ => rfl
  | b :: B => .cons 0 (InSpan.zero B) fun x => by simp
theorem InSpan.add {X : Type} {B : List (X → Int)} {f g : X → Int} (h : InSpan B f) (k : InSpan B g) : InSpan B fun x => f x + g x := by
  induction h generalizing g with
  | nil h => cases k with | nil k => exact .nil fun x => by rw [h, k]; rfl
  | cons a hg h ih => cases k with | cons c kg k => exact .cons (a + c) (ih kg) fun x => by rw [h, k, Int.add_mul]; omega
theorem InSpan.smul {X : Type} {B : List (X → Int)} {f : X → Int} (h : InSpan B f) (a : Int) : InSpan B fun x => a * f x := by
  induction h with
  | nil h => exact .nil fun x => by rw [h, Int.mul_zero]
  | cons c hg h ih => exact .cons (a * c) ih fun x => by rw [h, Int.mul_add, Int.mul_assoc]
theorem InSpan.mem {X : Type} {B : List (X → Int)} {b : X → Int} (h : b ∈ B) : InSpan B b := by
  induction B with
  | nil => cases h
  | cons c B ih =>
    rcases List.mem_cons.1 h with rfl | h
    · exact .cons 1 (InSpan.zero B) fun x => by omega
    · exact .cons 0 (ih h) fun x => by omega
theorem InSpan.sum {X ι : Type} {B : List (X → Int)} (I : List ι) (c : ι → Int) (f : ι → X → Int) (h : ∀ i ∈ I, InSpan B (f i)) : InSpan B fun x => sumL I fun i => c i * f i x := by
  induction I with
  | nil => exact InSpan.zero B
  | cons i I ih => exact (((h i List.mem_cons_self).smul (c i)).add (ih fun j hj => h j (List.mem_cons_of_mem _ hj))).congr fun x => by rw [sumL_cons]
/-- A linear map on functions takes a span into a span. -/
theorem InSpan.map {X Y : Type} {B : List (X → Int)} {B' : List (Y → Int)} (F : (X → Int) → Y → Int) (hc : ∀ f g : X → Int, (∀ x, f x = g x) → ∀ y, F f y = F g y) (h0 : ∀ y, F (fun _ => 0) y = 0)
    (hl : ∀ (a : Int) (f g : X → Int) y, F (fun x => a * f x + g x) y = a * F f y + F g y) (hB : ∀ b ∈ B, InSpan B' (F b)) {f : X → Int} (h : InSpan B f) : InSpan B' (F f) := by
  induction h with
  | nil h => exact (InSpan.zero B').congr fun y => by rw [hc _ _ h, h0]
  | @cons b B f g a hg h ih => exact (((hB b List.mem_cons_self).smul a).add (ih fun c hcB => hB c (List.mem_cons_of_mem _ hcB))).congr fun y => by rw [hc _ _ h, hl]
theorem InSpan.trans {X : Type} {B B' : List (X → Int)} (hB : ∀ b ∈ B, InSpan B' b) {f : X → Int} (h : InSpan B f) : InSpan B' f :=
  InSpan.map (fun f => f) (fun _ _ h => h) (fun _ => rfl) (fun _ _ _ _ => rfl) hB h
theorem InSpan.mul {X : Type} {B B' : List (X → Int)} (g : X → Int) (hB : ∀ b ∈ B, InSpan B' fun x => g x * b x) {f : X → Int} (h : InSpan B f) : InSpan B' fun x => g x * f x :=
  InSpan.map (fun f x => g x * f x) (fun _ _ h x => by rw [h]) (fun _ => Int.mul_zero _) (fun a f k x => by rw [Int.mul_add, ← Int.mul_assoc, Int.mul_comm (g x) a, Int.mul_assoc]) hB h
theorem split_mem {ι : Type} {k : ι} {I : List ι} (h : k ∈ I) : ∃ I1 I2, I = I1 ++ k :: I2 := List.append_of_mem h
/-- More functions than the span's list is long: a relation. -/
theorem depend {X ι : Type} [DecidableEq ι] (B : List (X → Int)) : ∀ (I : List ι) (f : ι → X → Int), I.Nodup → B.length < I.length → (∀ i ∈ I, InSpan B (f i)) →
    ∃ c : ι → Int, (∃ i ∈ I, c i ≠ 0) ∧ ∀ x, sumL I (fun i => c i * f i x) = 0 := by
  induction B with
  | nil =>
    intro I f hn hl hs
    obtain ⟨i, hi⟩ := List.exists_mem_of_length_pos hl
    refine ⟨fun _ => 1, ⟨i, hi, by simp⟩, fun x => sumL_zero fun j hj => ?_⟩
    cases hs j hj with | nil h => rw [h, Int.mul_zero]
  | cons b B ih =>
    intro I f hn hl hs
    have hch : ∀ i, ∃ (a : Int) (g : X → Int), i ∈ I → InSpan B g ∧ ∀ x, f i x = a * b x + g x := by
      intro i
      by_cases hi : i ∈ I
      · have := hs i hi
        cases this with | cons a hg h => exact ⟨a, _, fun _ => ⟨hg, h⟩⟩
      · exact ⟨0, fun _ => 0, fun h => absurd h hi⟩
    have hch' : ∃ (a : ι → Int) (g : ι → X → Int), ∀ i ∈ I, InSpan B (g i) ∧ ∀ x, f i x = a i * b x + g i x :=
      ⟨fun i => (hch i).choose, fun i => (hch i).choose_spec.choose, fun i hi => (hch i).choose_spec.choose_spec hi⟩
    obtain ⟨a, g, hag⟩ := hch'
    by_cases hz : ∀ i ∈ I, a i = 0
    · exact ih I f hn (by simp at hl; omega) fun i hi => (hag i hi).1.congr fun x => by rw [(hag i hi).2, hz i hi]; omega
    · obtain ⟨k, hk⟩ := Classical.not_forall.1 hz
      obtain ⟨hkI, hk0⟩ := Classical.not_imp.1 hk
      obtain ⟨I1, I2, rfl⟩ := split_mem hkI
      rw [List.nodup_append] at hn
      obtain ⟨n1, n2, n3⟩ := hn
      obtain ⟨n4, n5⟩ := List.nodup_cons.1 n2
      have hkn : k ∉ I1 ++ I2 := by
        intro h
        rcases List.mem_append.1 h with h | h
        · exact n3 k h k List.mem_cons_self rfl
        · exact n4 h
      have hsub : ∀ i ∈ I1 ++ I2, i ∈ I1 ++ k :: I2 := by
        intro i h
        rcases List.mem_append.1 h with h | h
        · exact List.mem_append_left _ h
        · exact List.mem_append_right _ (List.mem_cons_of_mem _ h)
      obtain ⟨c, ⟨i0, hi0, hc0⟩, hc⟩ := ih (I1 ++ I2) (fun i x => a k * f i x - a i * f k x) (by
          rw [List.nodup_append]
          exact ⟨n1, n5, fun x hx y hy => n3 x hx y (List.mem_cons_of_mem _ hy)⟩) (by simp at hl ⊢; omega) (fun i hi => by
          have h1 := hag i (hsub i hi)
          have h2 := hag k hkI
          refine (((h1.1.smul (a k)).add (h2.1.smul (- a i)))).congr fun x => ?_
          show a k * f i x - a i * f k x = _
          rw [h1.2, h2.2, Int.mul_add, Int.mul_add, Int.neg_mul, ← Int.mul_assoc, ← Int.mul_assoc, Int.mul_comm (a k) (a i)]
          omega)
      refine ⟨fun i => if i = k then - sumL (I1 ++ I2) (fun j => c j * a j) else c i * a k, ⟨i0, hsub _ hi0, ?_⟩, fun x => ?_⟩
      · have : i0 ≠ k := fun e => hkn (e ▸ hi0)
        simp only [if_neg this]
        exact Int.mul_ne_zero hc0 hk0
      · rw [sumL_append, sumL_cons]
        simp only [if_true]
        have e1 : ∀ J : List ι, (∀ i ∈ J, i ∈ I1 ++ I2) → sumL J (fun i => (if i = k then - sumL (I1 ++ I2) (fun j => c j * a j) else c i * a k) * f i x) = sumL J (fun i => c i * (a k * f i x - a i * f k x)) + sumL J (fun i => c i * a i) * f k x := by
          intro J hJ
          rw [Int.mul_comm _ (f k x), ← sumL_mul, ← sumL_add]
          refine sumL_congr fun i hi => ?_
          have : i ≠ k := fun e => hkn (e ▸ hJ i hi)
          rw [if_neg this, Int.mul_sub, ← Int.mul_assoc, ← Int.mul_assoc, Int.mul_comm (f k x) (c i * a i)]
          omega
        have h1 := e1 I1 (fun i hi => List.mem_append_left _ hi)
        have h2 := e1 I2 (fun i hi => List.mem_append_right _ hi)
        have h3 := hc x
        rw [sumL_append] at h3
        rw [sumL_append] at h1 h2 ⊢
        rw [h1, h2, Int.neg_mul, Int.add_mul]
        omega
/-! the functions of a set: on (e1, e2) the product of e2 - t e1 + t^2 -/
def monX (a b : Nat) : Int × Int → Int := fun x => x.1 ^ a * x.2 ^ b
def degX (r : Nat) : List (Int × Int → Int) := (List.range (r + 1)).map fun a => monX a (r - a)
def basX : Nat → List (Int × Int → Int)
  | 0 => degX 0
  | r + 1 => basX r ++ degX (r + 1)
theorem basX_length (r : Nat) : 2 * (basX r).length = (r + 1) * (r + 2) := by
  induction r with
  | zero => rfl
  | succ r ih =>
    have : (r + 1 + 1) * (r + 1 + 2) = (r + 1) * (r + 2) + 2 * (r + 2) := by
      rw [show r + 1 + 2 = r + 3 from rfl, show r + 1 + 1 = r + 2 from rfl]
      simp only [Nat.add_mul, Nat.mul_add]; omega
    rw [this, ← ih]
    simp [basX, degX]; omega
theorem mem_basX {a b r : Nat} (h : a + b ≤ r) : monX a b ∈ basX r := by
  induction r with
  | zero =>
    obtain rfl : a = 0 := by omega
    obtain rfl : b = 0 := by omega
    exact List.mem_cons_self
  | succ r ih =>
    by_cases h' : a + b ≤ r
    · exact List.mem_append_left _ (ih h')
    · refine List.mem_append_right _ (List.mem_map.2 ⟨a, List.mem_range.2 (by omega), ?_⟩)
      rw [show r + 1 - a = b by omega]
theorem basX_form {r : Nat} {f : Int × Int → Int} (h : f ∈ basX r) : ∃ a b, a + b ≤ r ∧ f = monX a b := by
  induction r with
  | zero =>
    obtain ⟨a, ha, rfl⟩ := List.mem_map.1 h
    exact ⟨a, _, by have := List.mem_range.1 ha; omega, rfl⟩
  | succ r ih =>
    rcases List.mem_append.1 h with h | h
    · obtain ⟨a, b, h1, h2⟩ := ih h
      exact ⟨a, b, by omega, h2⟩
    · obtain ⟨a, ha, rfl⟩ := List.mem_map.1 h
      exact ⟨a, _, by have := List.mem_range.1 ha; omega, rfl⟩
def setX : List Int → Int × Int → Int
  | [] => fun _ => 1
  | t :: T => fun x => (x.2 - t * x.1 + t * t) * setX T x
theorem setX_span (T : List Int) : InSpan (basX T.length) (setX T) := by
  induction T with
  | nil => exact (InSpan.mem (mem_basX (a := 0) (b := 0) (by simp))).congr fun x => by simp [setX, monX]
  | cons t T ih =>
    have e1 : InSpan (basX (T.length + 1)) fun x => x.1 * setX T x := InSpan.mul (fun x => x.1) (fun b hb => by
      obtain ⟨a, b, h1, rfl⟩ := basX_form hb
      exact (InSpan.mem (mem_basX (a := a + 1) (b := b) (by omega))).congr fun x => by
        simp only [monX, Int.pow_succ]; rw [Int.mul_comm _ x.1, Int.mul_assoc]) ih
    have e2 : InSpan (basX (T.length + 1)) fun x => x.2 * setX T x := InSpan.mul (fun x => x.2) (fun b hb => by
      obtain ⟨a, b, h1, rfl⟩ := basX_form hb
      exact (InSpan.mem (mem_basX (a := a) (b := b + 1) (by omega))).congr fun x => by
        simp only [monX, Int.pow_succ]; rw [Int.mul_comm _ x.2, ← Int.mul_assoc, Int.mul_comm x.2, Int.mul_assoc]) ih
    have e3 : InSpan (basX (T.length + 1)) (setX T) := InSpan.trans (fun b hb => InSpan.mem (by
      obtain ⟨a, b, h1, rfl⟩ := basX_form hb
      exact mem_basX (by omega))) ih
    refine ((e2.add (e1.smul (- t))).add (e3.smul (t * t))).congr fun x => ?_
    simp only [setX]
    rw [Int.add_mul, Int.sub_mul, Int.neg_mul, Int.mul_assoc t x.1]
    omega
theorem setX_at (T : List Int) (p q : Int) : setX T (p + q, p * q) = 0 ↔ p ∈ T ∨ q ∈ T := by
  induction T with
  | nil => simp [setX]
  | cons t T ih =>
    have e : p * q - t * (p + q) + t * t = (p - t) * (q - t) := by
      rw [Int.sub_mul, Int.mul_sub, Int.mul_sub, Int.mul_add, Int.mul_comm p t]; omega
    simp only [setX]
    rw [Int.mul_eq_zero, ih, e, Int.mul_eq_zero, List.mem_cons, List.mem_cons, Int.sub_eq_zero, Int.sub_eq_zero]
    constructor
    · rintro ((h | h) | (h | h)) <;> simp [h]
    · rintro ((h | h) | (h | h)) <;> simp [h]
theorem range_last {m : Nat} {c : Nat → Int} (h : ∃ i ∈ List.range m, c i ≠ 0) : ∃ i, i < m ∧ c i ≠ 0 ∧ ∀ j, j < m → i < j → c j = 0 := by
  induction m with
  | zero => obtain ⟨i, hi, _⟩ := h; simp at hi
  | succ m ih =>
    by_cases hm : c m = 0
    · obtain ⟨i, hi, hc⟩ := h
      have : i ≠ m := fun e => hc (e ▸ hm)
      obtain ⟨k, h1, h2, h3⟩ := ih ⟨i, by simp at hi ⊢; omega, hc⟩
      refine ⟨k, by omega, h2, fun j hj hk => ?_⟩
      by_cases hjm : j = m
      · rw [hjm]; exact hm
      · exact h3 j (by omega) hk
    · exact ⟨m, by omega, hm, fun j hj hk => by omega⟩
theorem sumL_single {m i : Nat} {f : Nat → Int} (hi : i < m) (h : ∀ j, j < m → j ≠ i → f j = 0) : sumL (List.range m) f = f i := by
  induction m with
  | zero => omega
  | succ m ih =>
    rw [List.range_succ, sumL_append, sumL_cons, sumL_nil]
    by_cases hm : i = m
    · subst hm
      rw [sumL_zero fun j hj => h j (by have := List.mem_range.1 hj; omega) (by have := List.mem_range.1 hj; omega)]; omega
    · rw [ih (by omega) fun j hj => h j (by omega), h m (by omega) (by omega)]; omega
/-- Skew pairs and sets: no more than the pairs of r + 2 things. -/
theorem skew {L r : Nat} (T : Nat → List Int) (p q : Nat → Int) (hT : ∀ i, i < L → (T i).length = r) (hd : ∀ i, i < L → p i ∉ T i ∧ q i ∉ T i)
    (hs : ∀ i j, i < L → j < i → p i ∈ T j ∨ q i ∈ T j) : 2 * L ≤ (r + 1) * (r + 2) := by
  rw [← basX_length]
  apply Classical.byContradiction
  intro hn
  obtain ⟨c, hc, hx⟩ := depend (basX r) (List.range L) (fun i => setX (T i)) List.nodup_range (by simp; omega) (fun i hi => by
    have := setX_span (T i)
    rwa [hT i (List.mem_range.1 hi)] at this)
  obtain ⟨i, hi, hci, hj⟩ := range_last hc
  have h1 := hx (p i + q i, p i * q i)
  rw [sumL_single hi fun j hjL hne => ?_] at h1
  · rcases Int.mul_eq_zero.1 h1 with h | h
    · exact hci h
    · have := (setX_at (T i) (p i) (q i)).1 h
      have := hd i hi
      simp_all
  · rcases Nat.lt_or_ge j i with h | h
    · show c j * setX (T j) (p i + q i, p i * q i) = 0
      rw [(setX_at (T j) (p i) (q i)).2 (hs i j hi h), Int.mul_zero]
    · rw [hj j hjL (by omega), Int.zero_mul]
end Go.Proofs.Ytcpmmkennnjalaa.Q
end
