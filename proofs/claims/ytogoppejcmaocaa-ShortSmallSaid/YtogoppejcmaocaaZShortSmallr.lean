/- The law ShortSmall holds: every automaton with at most 4 states and 2 letters that has a reset word has one of at most (n - 1)^2 letters, Reset finds one exactly if Shortest does, and none that is shorter; no bound on the arguments beyond their types'. (text 18 of 32) -/
import Derived.Test.YtogoppejcmaocaaZShortSmallj
import Derived.Test.YtogoppejcmaocaaZShortSmallh
import Derived.Test.YtogoppejcmaocaaZShortSmallq
/-! Part MMask -/
section
namespace Go.Proofs.Ytogoppejcmaocaa.Q
open Go.RowKit Go.Proofs.YtogoppejcmaocaaW.PrintWords Go.Proofs.YtogoppejcmaocaaW.PrintLast Go.Proofs.YtogoppejcmaocaaW.PrintMore
set_option linter.unusedVariables false
/-! ### sets of states as numbers -/
/-- The set to which letter x leads, from the states below p. -/
def mvA (f : Nat → Nat → Nat) (x s : Nat) : Nat → Nat
  | 0 => 0
  | p + 1 => if s.testBit p then mvA f x s p ||| 2 ^ (f p x) else mvA f x s p
def mv (f : Nat → Nat → Nat) (n s x : Nat) : Nat := mvA f x s n
theorem mvA_bit (f : Nat → Nat → Nat) (x s t : Nat) : ∀ p, (mvA f x s p).testBit t = true ↔ ∃ u, u < p ∧ s.testBit u = true ∧ f u x = t
  | 0 => by simp [mvA]
  | p + 1 => by
    unfold mvA
    split
    · rename_i h
      rw [Nat.testBit_or, Bool.or_eq_true, mvA_bit f x s t p, Nat.testBit_two_pow, decide_eq_true_iff]
      constructor
      · rintro (⟨u, h1, h2, h3⟩ | h1)
        · exact ⟨u, by omega, h2, h3⟩
        · exact ⟨p, by omega, h, h1⟩
      · rintro ⟨u, h1, h2, h3⟩
        by_cases hu : u < p
        · exact Or.inl ⟨u, hu, h2, h3⟩
        · obtain rfl : u = p := by omega
          exact Or.inr h3
    · rename_i h
      rw [mvA_bit f x s t p]
      constructor
      · rintro ⟨u, h1, h2, h3⟩; exact ⟨u, by omega, h2, h3⟩
      · rintro ⟨u, h1, h2, h3⟩
        by_cases hu : u < p
        · exact ⟨u, hu, h2, h3⟩
        · obtain rfl : u = p := by omega
          exact absurd h2 h
theorem mvA_lt {f : Nat → Nat → Nat} {x s n : Nat} (hf : ∀ u, u < n → f u x < n) : ∀ p, p ≤ n → mvA f x s p < 2 ^ n
  | 0, _ => Nat.two_pow_pos n
  | p + 1, hp => by
    have ih := mvA_lt (f := f) (x := x) (s := s) hf p (by omega)
    unfold mvA
    split
    · exact Nat.or_lt_two_pow ih (Nat.pow_lt_pow_right (by decide : 1 < 2) (hf p (by omega)))
    · exact ih
theorem mv_bit {f : Nat → Nat → Nat} {n s x t : Nat} : (mv f n s x).testBit t = true ↔ ∃ u, u < n ∧ s.testBit u = true ∧ f u x = t := mvA_bit f x s t n
theorem bits_or_u16_nat (a b : Nat) (ha : a < 65536) (hb : b < 65536) : Go.bits .or .u16 (a : Int) (b : Int) = ((a ||| b : Nat) : Int) := by
  have hx : a ||| b < 2 ^ 16 := Nat.or_lt_two_pow ha hb
  have h1 : (BitVec.ofInt 16 (a : Int)).toNat = a := by
    rw [BitVec.ofInt_natCast, BitVec.toNat_ofNat]; exact Nat.mod_eq_of_lt (by omega)
  have h2 : (BitVec.ofInt 16 (b : Int)).toNat = b := by
    rw [BitVec.ofInt_natCast, BitVec.toNat_ofNat]; exact Nat.mod_eq_of_lt (by omega)
  show IntKind.u16.wrap ((BitVec.ofInt 16 (a : Int) ||| BitVec.ofInt 16 (b : Int)).toNat : Int) = _
  rw [BitVec.toNat_or, h1, h2, IntKind.wrap_u16]
  omega
theorem bit_test {s p : Nat} (hp : p ≤ 16) (hs : s < 65536) : (Go.bits .and .u16 (shr .u16 (s : Int) (p : Int)) 1 = 1) ↔ s.testBit p = true := by
  have e1 : shr .u16 (s : Int) (p : Int) = ((s / 2 ^ p : Nat) : Int) := by
    unfold shr
    have : min (p : Int).toNat IntKind.u16.bits = p := by show min p 16 = p; omega
    rw [this]
    norm_cast
  have hlt : s / 2 ^ p < 65536 := Nat.lt_of_le_of_lt (Nat.div_le_self _ _) hs
  have e2 := bits_and_u16_nat (s / 2 ^ p) 1 hlt (by omega)
  have e3 : (((1 : Nat) : Int)) = 1 := rfl
  rw [e3] at e2
  rw [e1, e2, Nat.and_one_is_mod, Nat.testBit_eq_decide_div_mod_eq]
  simp only [decide_eq_true_iff]
  omega
theorem wrap_small {z : Nat} (h : z < 65536) : IntKind.u16.wrap (z : Int) = (z : Int) := by
  rw [IntKind.wrap_u16]; omega
theorem pow_cast (t : Nat) : (2 : Int) ^ t = ((2 ^ t : Nat) : Int) := by norm_cast
theorem shl_one {t : Nat} (ht : t < 16) : shl .u16 1 (t : Int) = ((2 ^ t : Nat) : Int) := by
  unfold shl
  have h1 : min (t : Int).toNat IntKind.u16.bits = t := by show min t 16 = t; omega
  rw [h1, Int.one_mul, pow_cast]
  exact wrap_small (Nat.lt_of_lt_of_le (Nat.pow_lt_pow_right (by decide : 1 < 2) ht) (by decide))
section
variable {rows : List (List Int)} {n m : Nat} (V : VA rows n m) (hn : n ≤ 12)
include V hn
theorem to_loop {s x : Nat} (hs : s < 2 ^ n) (hx : x < m) : ∀ (e p : Nat), p + e = n → Ev (fun k => short_set_to.l0 k (s : Int) (x : Int) ((mvA (nx rows) x s p : Nat) : Int) rows (n : Int) (p : Int)) ((mv (nx rows) n s x : Nat) : Int)
  | 0, p, he => by
    obtain rfl : p = n := by omega
    exact Ev.step (f := fun _ => some ((mvA (nx rows) x s p : Nat) : Int)) (fun k => by rw [short_set_to.l0, if_neg (by omega)]) (Ev.ret rfl)
  | e + 1, p, he => by
    have hp : p < n := by omega
    have hlen : rows.length = n := V.len
    have hrow : ((rd_L1 rows (p : Int)).length : Int) = m := by rw [V.row p hp]
    have h16 : s < 65536 := Nat.lt_of_lt_of_le hs (Nat.le_trans (Nat.pow_le_pow_right (by decide : 0 < 2) (show n ≤ 16 by omega)) (by decide))
    have ht := V.nxLt hp hx
    have hE := V.nxE hp hx
    have hml := mvA_lt (f := nx rows) (x := x) (s := s) (n := n) (fun u hu => V.nxLt hu hx) p (by omega)
    have h17 : mvA (nx rows) x s p < 65536 := Nat.lt_of_lt_of_le hml (Nat.le_trans (Nat.pow_le_pow_right (by decide : 0 < 2) (show n ≤ 16 by omega)) (by decide))
    have h2t : 2 ^ (nx rows p x) < 65536 := Nat.lt_of_lt_of_le (Nat.pow_lt_pow_right (by decide : 1 < 2) (show nx rows p x < 16 by omega)) (by decide)
    have ih := to_loop hs hx e (p + 1) (by omega)
    by_cases hb : s.testBit p = true
    · refine Ev.step (fun k => by rw [short_set_to.l0, if_pos (by omega), if_pos (by omega), if_pos (by rw [hlen]; omega), if_pos ((bit_test (by omega) h16).2 hb), if_pos (by omega), if_pos (by rw [hrow]; omega), hE, if_pos (by omega), shl_one (by omega), bits_or_u16_nat _ _ h17 h2t, wrapS (by omega)]) ?_
      have e1 : mvA (nx rows) x s p ||| 2 ^ (nx rows p x) = mvA (nx rows) x s (p + 1) := by rw [mvA, if_pos hb]
      rw [e1]
      exact ih
    · refine Ev.step (fun k => by rw [short_set_to.l0, if_pos (by omega), if_pos (by omega), if_pos (by rw [hlen]; omega), if_neg (fun h => hb ((bit_test (by omega) h16).1 h)), wrapS (by omega)]) ?_
      have e1 : mvA (nx rows) x s p = mvA (nx rows) x s (p + 1) := by rw [mvA, if_neg hb]
      rw [e1]
      exact ih
theorem set_to {s x : Nat} (hs : s < 2 ^ n) (hx : x < m) : Ev (fun k => short_set_to.f k (s : Int) rows (x : Int)) ((mv (nx rows) n s x : Nat) : Int) := by
  have := to_loop V hn hs hx n 0 (by omega)
  have hlen : rows.length = n := V.len
  simpa [short_set_to.f, hlen, mvA] using this
end
end Go.Proofs.Ytogoppejcmaocaa.Q
end
/-! Part MSmall4 -/
section
namespace Go.Proofs.Ytogoppejcmaocaa.Q
set_option linter.unusedVariables false
set_option linter.unusedSectionVars false
/-! ### the automata with four states and two letters -/
namespace Four
def im (t s : Nat) : Nat := Nat.land (Nat.shiftRight t s) 15
/-- If set s is among those of r, both of its images are added. -/
noncomputable def st (ta tb r s s4 acc : Nat) : Nat :=
  Nat.rec acc (fun _ _ => Nat.lor acc (Nat.lor (Nat.shiftLeft 1 (im ta s4)) (Nat.shiftLeft 1 (im tb s4)))) (Nat.land (Nat.shiftRight r s) 1)
noncomputable def step (ta tb r : Nat) : Nat :=
  st ta tb r 1 4 (st ta tb r 2 8 (st ta tb r 3 12 (st ta tb r 4 16 (st ta tb r 5 20 (st ta tb r 6 24 (st ta tb r 7 28 (st ta tb r 8 32 (st ta tb r 9 36 (st ta tb r 10 40 (st ta tb r 11 44 (st ta tb r 12 48 (st ta tb r 13 52 (st ta tb r 14 56 (st ta tb r 15 60 r))))))))))))))
/-- Within k more letters one state is met, or nothing new is. -/
noncomputable def ok1 (ta tb k : Nat) : Nat → Bool :=
  Nat.rec (fun r => Nat.rec (Nat.beq (step ta tb r) r) (fun _ _ => true) (Nat.land r 278)) (fun _ ih r => Nat.rec (ih (step ta tb r)) (fun _ _ => true) (Nat.land r 278)) k
def dig (a p : Nat) : Nat := Nat.land (Nat.shiftRight a (Nat.mul 2 p)) 3
def bitI (a s p : Nat) : Nat := Nat.mul (Nat.land (Nat.shiftRight s p) 1) (Nat.shiftLeft 1 (dig a p))
def img (a s : Nat) : Nat := Nat.lor (bitI a s 0) (Nat.lor (bitI a s 1) (Nat.lor (bitI a s 2) (bitI a s 3)))
noncomputable def tab (a : Nat) (n : Nat) : Nat := Nat.rec 0 (fun s ih => Nat.lor ih (Nat.shiftLeft (img a s) (Nat.mul 4 s))) n
noncomputable def okb (ta : Nat) (n : Nat) : Bool := Nat.rec true (fun b ih => and (ok1 ta (tab b 16) 9 32768) ih) n
noncomputable def oka (lo n : Nat) : Bool := Nat.rec true (fun a ih => and (okb (tab (Nat.add lo a) 16) 256) ih) n
theorem okb_all (ta : Nat) : ∀ n, okb ta n = true → ∀ b, b < n → ok1 ta (tab b 16) 9 32768 = true
  | 0, _, b, hb => by omega
  | n + 1, h, b, hb => by
    have h' : (ok1 ta (tab n 16) 9 32768 && okb ta n) = true := h
    rw [Bool.and_eq_true] at h'
    rcases Nat.lt_or_ge b n with h1 | h1
    · exact okb_all ta n h'.2 b h1
    · obtain rfl : b = n := by omega
      exact h'.1
theorem oka_all (lo : Nat) : ∀ n, oka lo n = true → ∀ a, a < n → ∀ b, b < 256 → ok1 (tab (lo + a) 16) (tab b 16) 9 32768 = true
  | 0, _, a, ha => by omega
  | n + 1, h, a, ha => by
    have h' : (okb (tab (lo + n) 16) 256 && oka lo n) = true := h
    rw [Bool.and_eq_true] at h'
    rcases Nat.lt_or_ge a n with h1 | h1
    · exact oka_all lo n h'.2 a h1
    · obtain rfl : a = n := by omega
      exact okb_all _ 256 h'.1
/-! #### what is computed -/
theorem low_bit (r s : Nat) : Nat.land (Nat.shiftRight r s) 1 = (r.testBit s).toNat := by
  show (r >>> s) &&& 1 = _
  rw [Nat.and_one_is_mod, Nat.shiftRight_eq_div_pow, Nat.toNat_testBit]
theorem one_shl (t u : Nat) : (Nat.shiftLeft 1 t).testBit u = decide (t = u) := by
  show (1 <<< t).testBit u = _
  rw [Nat.one_shiftLeft, Nat.testBit_two_pow]
theorem st_bit (ta tb r s s4 acc t : Nat) : (st ta tb r s s4 acc).testBit t = true ↔ acc.testBit t = true ∨ (r.testBit s = true ∧ (im ta s4 = t ∨ im tb s4 = t)) := by
  unfold st
  rw [low_bit]
  cases h : r.testBit s with
  | false =>
    show acc.testBit t = true ↔ _
    simp
  | true =>
    show (acc ||| (Nat.shiftLeft 1 (im ta s4) ||| Nat.shiftLeft 1 (im tb s4))).testBit t = true ↔ _
    rw [Nat.testBit_or, Nat.testBit_or, one_shl, one_shl]
    simp
theorem step_bit (ta tb r t : Nat) : (step ta tb r).testBit t = true ↔ r.testBit t = true ∨ ∃ s, 1 ≤ s ∧ s < 16 ∧ r.testBit s = true ∧ (im ta (4 * s) = t ∨ im tb (4 * s) = t) := by
  unfold step
  simp only [st_bit]
  constructor
  · intro h
    have pk : ∀ s, 1 ≤ s → s < 16 → (r.testBit s = true ∧ (im ta (4 * s) = t ∨ im tb (4 * s) = t)) → r.testBit t = true ∨ ∃ s, 1 ≤ s ∧ s < 16 ∧ r.testBit s = true ∧ (im ta (4 * s) = t ∨ im tb (4 * s) = t) := fun s h1 h2 h3 => Or.inr ⟨s, h1, h2, h3.1, h3.2⟩
    rcases h with (((((((((((((((h | h) | h) | h) | h) | h) | h) | h) | h) | h) | h) | h) | h) | h) | h) | h)
    · exact Or.inl h
    · exact pk 15 (by decide) (by decide) h
    · exact pk 14 (by decide) (by decide) h
    · exact pk 13 (by decide) (by decide) h
    · exact pk 12 (by decide) (by decide) h
    · exact pk 11 (by decide) (by decide) h
    · exact pk 10 (by decide) (by decide) h
    · exact pk 9 (by decide) (by decide) h
    · exact pk 8 (by decide) (by decide) h
    · exact pk 7 (by decide) (by decide) h
    · exact pk 6 (by decide) (by decide) h
    · exact pk 5 (by decide) (by decide) h
    · exact pk 4 (by decide) (by decide) h
    · exact pk 3 (by decide) (by decide) h
    · exact pk 2 (by decide) (by decide) h
    · exact pk 1 (by decide) (by decide) h
  · rintro (h | ⟨s, h1, h2, h3⟩)
    · simp only [h, true_or]
    · have : s = 1 ∨ s = 2 ∨ s = 3 ∨ s = 4 ∨ s = 5 ∨ s = 6 ∨ s = 7 ∨ s = 8 ∨ s = 9 ∨ s = 10 ∨ s = 11 ∨ s = 12 ∨ s = 13 ∨ s = 14 ∨ s = 15 := by omega
      rcases this with rfl | rfl | rfl | rfl | rfl | rfl | rfl | rfl | rfl | rfl | rfl | rfl | rfl | rfl | rfl <;> simp only [Nat.reduceMul] at h3 <;> simp only [h3, and_self, or_true, true_or]
def single (t : Nat) : Prop := t = 1 ∨ t = 2 ∨ t = 4 ∨ t = 8
theorem land_278 (r : Nat) : Nat.land r 278 = 0 ↔ ∀ t, single t → r.testBit t = false := by
  show r &&& 278 = 0 ↔ _
  constructor
  · intro h t ht
    have h1 := congrArg (fun z => Nat.testBit z t) h
    simp only [Nat.testBit_and, Nat.zero_testBit] at h1
    have h2 : (278 : Nat).testBit t = true := by rcases ht with rfl | rfl | rfl | rfl <;> decide
    rwa [h2, Bool.and_true] at h1
  · intro h
    refine Nat.eq_of_testBit_eq fun t => ?_
    rw [Nat.testBit_and, Nat.zero_testBit]
    by_cases ht : single t
    · rw [h t ht, Bool.false_and]
    · have h2 : (278 : Nat).testBit t = false := by
        rcases Nat.lt_or_ge t 9 with h3 | h3
        · have : t = 0 ∨ t = 1 ∨ t = 2 ∨ t = 3 ∨ t = 4 ∨ t = 5 ∨ t = 6 ∨ t = 7 ∨ t = 8 := by omega
          unfold single at ht
          rcases this with rfl | rfl | rfl | rfl | rfl | rfl | rfl | rfl | rfl <;> first | decide | (exfalso; omega)
        · exact Nat.testBit_lt_two_pow (Nat.lt_of_lt_of_le (by decide : 278 < 2 ^ 9) (Nat.pow_le_pow_right (by decide) h3))
      rw [h2, Bool.and_false]
section
variable {g : Nat → Nat → Nat} {ta tb : Nat}
theorem ok1_sound (hg : ∀ s, 1 ≤ s → s < 16 → (1 ≤ g s 0 ∧ g s 0 < 16) ∧ (1 ≤ g s 1 ∧ g s 1 < 16) ∧ im ta (4 * s) = g s 0 ∧ im tb (4 * s) = g s 1) {v : List Nat} (hv : Wd 2 v) (hs : single (run g 15 v)) :
    ∀ (k j r : Nat), (∀ t, r.testBit t = true → 1 ≤ t ∧ t < 16 ∧ ∃ w, Wd 2 w ∧ w.length ≤ j ∧ run g 15 w = t) → (∀ w, Wd 2 w → w.length ≤ j → r.testBit (run g 15 w) = true) → ok1 ta tb k r = true → ∃ w, Wd 2 w ∧ w.length ≤ j + k ∧ single (run g 15 w) := by
  have one : ∀ (j r : Nat), (∀ t, r.testBit t = true → 1 ≤ t ∧ t < 16 ∧ ∃ w, Wd 2 w ∧ w.length ≤ j ∧ run g 15 w = t) → Nat.land r 278 ≠ 0 → ∃ w, Wd 2 w ∧ w.length ≤ j ∧ single (run g 15 w) := by
    intro j r hA h
    have : ∃ t, single t ∧ r.testBit t = true := by
      refine Classical.byContradiction fun hn => h ((land_278 r).2 fun t ht => ?_)
      cases hb : r.testBit t with
      | false => rfl
      | true => exact absurd ⟨t, ht, hb⟩ hn
    obtain ⟨t, ht, hb⟩ := this
    obtain ⟨_, _, w, hw, hl, he⟩ := hA t hb
    exact ⟨w, hw, hl, by rw [he]; exact ht⟩
  intro k
  induction k with
  | zero =>
    intro j r hA hB h
    by_cases h0 : Nat.land r 278 = 0
    · exfalso
      have h' : (Nat.rec (Nat.beq (step ta tb r) r) (fun _ _ => true) (Nat.land r 278) : Bool) = true := h
      rw [h0] at h'
      have e : step ta tb r = r := Nat.eq_of_beq_eq_true h'
      have all : ∀ w, Wd 2 w → r.testBit (run g 15 w) = true := by
        intro w
        induction w using snoc_ind with
        | h0 => intro _; exact hB [] (Wd.nil 2) (Nat.zero_le _)
        | h1 w x ih =>
          intro hw
          have h1 := ih hw.left
          obtain ⟨p1, p2, _⟩ := hA _ h1
          obtain ⟨_, _, q1, q2⟩ := hg _ p1 p2
          have hx : x < 2 := hw.right x (by simp)
          rw [run_snoc, ← e, step_bit]
          refine Or.inr ⟨_, p1, p2, h1, ?_⟩
          have : x = 0 ∨ x = 1 := by omega
          rcases this with rfl | rfl
          · exact Or.inl q1
          · exact Or.inr q2
      have := (land_278 r).1 h0 _ hs
      rw [all v hv] at this
      cases this
    · obtain ⟨w, hw, hl, hx⟩ := one j r hA h0
      exact ⟨w, hw, by omega, hx⟩
  | succ k ih =>
    intro j r hA hB h
    by_cases h0 : Nat.land r 278 = 0
    · have h' : (Nat.rec (ok1 ta tb k (step ta tb r)) (fun _ _ => true) (Nat.land r 278) : Bool) = true := h
      rw [h0] at h'
      obtain ⟨w, hw, hl, hx⟩ := ih (j + 1) (step ta tb r) (fun t ht => by
        rcases (step_bit ta tb r t).1 ht with h1 | ⟨s, s1, s2, s3, s4⟩
        · obtain ⟨p1, p2, w, hw, hl, he⟩ := hA t h1
          exact ⟨p1, p2, w, hw, by omega, he⟩
        · obtain ⟨_, _, w, hw, hl, he⟩ := hA s s3
          obtain ⟨q0, q1, q2, q3⟩ := hg s s1 s2
          rcases s4 with h4 | h4
          · rw [q2] at h4; subst h4
            exact ⟨q0.1, q0.2, w ++ [0], hw.app (Wd.one (by decide)), by simp; omega, by rw [run_snoc, he]⟩
          · rw [q3] at h4; subst h4
            exact ⟨q1.1, q1.2, w ++ [1], hw.app (Wd.one (by decide)), by simp; omega, by rw [run_snoc, he]⟩) (fun w => by
        induction w using snoc_ind with
        | h0 => intro _ _; exact (step_bit ta tb r _).2 (Or.inl (hB [] (Wd.nil 2) (Nat.zero_le _)))
        | h1 w x _ =>
          intro hw hl
          have hl' : w.length ≤ j := by simp at hl; exact hl
          have h1 := hB w hw.left hl'
          obtain ⟨p1, p2, _⟩ := hA _ h1
          obtain ⟨_, _, q1, q2⟩ := hg _ p1 p2
          have hx : x < 2 := hw.right x (by simp)
          rw [run_snoc, step_bit]
          refine Or.inr ⟨_, p1, p2, h1, ?_⟩
          have : x = 0 ∨ x = 1 := by omega
          rcases this with rfl | rfl
          · exact Or.inl q1
          · exact Or.inr q2) h'
      exact ⟨w, hw, by omega, hx⟩
    · obtain ⟨w, hw, hl, hx⟩ := one j r hA h0
      exact ⟨w, hw, by omega, hx⟩
end
/-! #### the tables -/
noncomputable def tabOk (a : Nat) (n : Nat) : Bool := Nat.rec true (fun s ih => and (Nat.beq (im (tab a 16) (Nat.mul 4 s)) (img a s)) ih) n
noncomputable def tabsOk (n : Nat) : Bool := Nat.rec true (fun a ih => and (tabOk a 16) ih) n
theorem tabs_ok : tabsOk 256 = true := by decide +kernel
theorem tabOk_all (a : Nat) : ∀ n, tabOk a n = true → ∀ s, s < n → im (tab a 16) (4 * s) = img a s
  | 0, _, b, hb => by omega
  | n + 1, h, b, hb => by
    have h' : (Nat.beq (im (tab a 16) (Nat.mul 4 n)) (img a n) && tabOk a n) = true := h
    rw [Bool.and_eq_true] at h'
    rcases Nat.lt_or_ge b n with h1 | h1
    · exact tabOk_all a n h'.2 b h1
    · obtain rfl : b = n := by omega
      exact Nat.eq_of_beq_eq_true h'.1
theorem tabsOk_all : ∀ n, tabsOk n = true → ∀ a, a < n → ∀ s, s < 16 → im (tab a 16) (4 * s) = img a s
  | 0, _, b, hb => by omega
  | n + 1, h, b, hb => by
    have h' : (tabOk n 16 && tabsOk n) = true := h
    rw [Bool.and_eq_true] at h'
    rcases Nat.lt_or_ge b n with h1 | h1
    · exact tabsOk_all n h'.2 b h1
    · obtain rfl : b = n := by omega
      exact tabOk_all _ 16 h'.1
theorem bitI_eq (a s p : Nat) : bitI a s p = if s.testBit p then 2 ^ dig a p else 0 := by
  unfold bitI
  rw [low_bit]
  show (s.testBit p).toNat * (1 <<< dig a p) = _
  rw [Nat.one_shiftLeft]
  cases s.testBit p <;> simp
/-- The four states to which a letter leads, as a number. -/
def enc (f : Nat → Nat → Nat) (x : Nat) : Nat := f 0 x + 4 * f 1 x + 16 * f 2 x + 64 * f 3 x
theorem dig_eq (a p : Nat) : dig a p = a / 4 ^ p % 4 := by
  show (a >>> (2 * p)) &&& 3 = _
  rw [show (3 : Nat) = 2 ^ 2 - 1 from rfl, Nat.and_two_pow_sub_one_eq_mod, Nat.shiftRight_eq_div_pow, Nat.pow_mul]
theorem img_mv {f : Nat → Nat → Nat} {x : Nat} (h : ∀ s, s < 4 → f s x < 4) (s : Nat) : img (enc f x) s = mv f 4 s x := by
  have h0 := h 0 (by decide)
  have h1 := h 1 (by decide)
  have h2 := h 2 (by decide)
  have h3 := h 3 (by decide)
  have d0 : dig (enc f x) 0 = f 0 x := by rw [dig_eq]; unfold enc; omega
  have d1 : dig (enc f x) 1 = f 1 x := by rw [dig_eq]; unfold enc; omega
  have d2 : dig (enc f x) 2 = f 2 x := by rw [dig_eq]; unfold enc; omega
  have d3 : dig (enc f x) 3 = f 3 x := by rw [dig_eq]; unfold enc; omega
  refine Nat.eq_of_testBit_eq fun t => ?_
  rw [Bool.eq_iff_iff, mv_bit]
  unfold img
  simp only [bitI_eq, d0, d1, d2, d3]
  have lor : ∀ a b : Nat, Nat.lor a b = a ||| b := fun _ _ => rfl
  simp only [lor, Nat.testBit_or]
  have one : ∀ p : Nat, ((if s.testBit p = true then 2 ^ f p x else 0).testBit t = true) ↔ (s.testBit p = true ∧ f p x = t) := by
    intro p
    cases s.testBit p <;> simp [Nat.testBit_two_pow]
  simp only [Bool.or_eq_true, one]
  constructor
  · rintro (h | h | h | h)
    · exact ⟨0, by decide, h⟩
    · exact ⟨1, by decide, h⟩
    · exact ⟨2, by decide, h⟩
    · exact ⟨3, by decide, h⟩
  · rintro ⟨u, hu, h⟩
    have : u = 0 ∨ u = 1 ∨ u = 2 ∨ u = 3 := by omega
    rcases this with rfl | rfl | rfl | rfl
    · exact Or.inl h
    · exact Or.inr (Or.inl h)
    · exact Or.inr (Or.inr (Or.inl h))
    · exact Or.inr (Or.inr (Or.inr h))
end Four
end Go.Proofs.Ytogoppejcmaocaa.Q
end
/-! Part MSmall4a -/
section
namespace Go.Proofs.Ytogoppejcmaocaa.Q
namespace Four
set_option maxRecDepth 100000 in
theorem all_a : oka 0 64 = true := by decide +kernel
end Four
end Go.Proofs.Ytogoppejcmaocaa.Q
end
/-! Part MSmall4b -/
section
namespace Go.Proofs.Ytogoppejcmaocaa.Q
namespace Four
set_option maxRecDepth 100000 in
theorem all_b : oka 64 64 = true := by decide +kernel
end Four
end Go.Proofs.Ytogoppejcmaocaa.Q
end
/-! Part MSmall4c -/
section
namespace Go.Proofs.Ytogoppejcmaocaa.Q
namespace Four
set_option maxRecDepth 100000 in
theorem all_c : oka 128 64 = true := by decide +kernel
end Four
end Go.Proofs.Ytogoppejcmaocaa.Q
end
/-! Part MSmall4d -/
section
namespace Go.Proofs.Ytogoppejcmaocaa.Q
namespace Four
set_option maxRecDepth 100000 in
theorem all_d : oka 192 64 = true := by decide +kernel
end Four
end Go.Proofs.Ytogoppejcmaocaa.Q
end
