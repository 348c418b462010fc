/- In any Eulerian automaton that has a reset word, whatever set of states, neither empty nor all, is led into by more states with a word of at most n - 1 letters, and its shortest reset word has at most n^2 - 3n + 3 letters; in any circular one at most (n - 1)^2. (At most 9 states) (text 18 of 42) -/
import Derived.Test.YtcpmmkennnjalaaZTopKarik
import Derived.Test.YtcpmmkennnjalaaZTopKaril
import Derived.Test.YtcpmmkennnjalaaZTopKariq
section
namespace Go.Proofs.Ytcpmmkennnjalaa.Q
open Go.RowKit Go.Proofs.YtcpmmkennnjalaaW.PrintWords Go.Proofs.YtcpmmkennnjalaaW.PrintLast Go.Proofs.YtcpmmkennnjalaaW.PrintMore
set_option linter.unusedVariables false
/-! ### sets of states as numbers -/
/-- The set to which letter x leads, from the states below p. -/
def mvA (f : Nat → Nat → Nat) (x s : Nat) : Nat → Nat
  | 0 => 0
  | p + 1 => if s.testBit p then mvA f x s p ||| 2 ^ (f p x) else mvA f x s p
def mv (f : Nat → Nat → Nat) (n s x : Nat) : Nat := mvA f x s n
theorem mvA_bit (f : Nat → Nat → Nat) (x s t : Nat) : ∀ p, (mvA f x s p).testBit t = true ↔ ∃ u, u < p ∧ s.testBit u = true ∧ f u x = t
  | 0 => by simp [mvA]
  | p + 1 => by
    unfold mvA
    split
    · rename_i h
      rw [Nat.testBit_or, Bool.or_eq_true, mvA_bit f x s t p, Nat.testBit_two_pow, decide_eq_true_iff]
      constructor
      · rintro (⟨u, h1, h2, h3⟩ | h1)
        · exact ⟨u, by omega, h2, h3⟩
        · exact ⟨p, by omega, h, h1⟩
      · rintro ⟨u, h1, h2, h3⟩
        by_cases hu : u < p
        · exact Or.inl ⟨u, hu, h2, h3⟩
        · obtain rfl : u = p := by omega
          exact Or.inr h3
    · rename_i h
      rw [mvA_bit f x s t p]
      constructor
      · rintro ⟨u, h1, h2, h3⟩; exact ⟨u, by omega, h2, h3⟩
      · rintro ⟨u, h1, h2, h3⟩
        by_cases hu : u < p
        · exact ⟨u, hu, h2, h3⟩
        · obtain rfl : u = p := by omega
          exact absurd h2 h
theorem mvA_lt {f : Nat → Nat → Nat} {x s n : Nat} (hf : ∀ u, u < n → f u x < n) : ∀ p, p ≤ n → mvA f x s p < 2 ^ n
  | 0, _ => Nat.two_pow_pos n
  | p + 1, hp => by
    have ih := mvA_lt (f := f) (x := x) (s := s) hf p (by omega)
    unfold mvA
    split
    · exact Nat.or_lt_two_pow ih (Nat.pow_lt_pow_right (by decide : 1 < 2) (hf p (by omega)))
    · exact ih
theorem mv_bit {f : Nat → Nat → Nat} {n s x t : Nat} : (mv f n s x).testBit t = true ↔ ∃ u, u < n ∧ s.testBit u = true ∧ f u x = t := mvA_bit f x s t n
theorem bits_or_u16_nat (a b : Nat) (ha : a < 65536) (hb : b < 65536) : Go.bits .or .u16 (a : Int) (b : Int) = ((a ||| b : Nat) : Int) := by
  have hx : a ||| b < 2 ^ 16 := Nat.or_lt_two_pow ha hb
  have h1 : (BitVec.ofInt 16 (a : Int)).toNat = a := by
    rw [BitVec.ofInt_natCast, BitVec.toNat_ofNat]; exact Nat.mod_eq_of_lt (by omega)
  have h2 : (BitVec.ofInt 16 (b : Int)).toNat = b := by
    rw [BitVec.ofInt_natCast, BitVec.toNat_ofNat]; exact Nat.mod_eq_of_lt (by omega)
  show IntKind.u16.wrap ((BitVec.ofInt 16 (a : Int) ||| BitVec.ofInt 16 (b : Int)).toNat : Int) = _
  rw [BitVec.toNat_or, h1, h2, IntKind.wrap_u16]
  omega
theorem bit_test {s p : Nat} (hp : p ≤ 16) (hs : s < 65536) : (Go.bits .and .u16 (shr .u16 (s : Int) (p : Int)) 1 = 1) ↔ s.testBit p = true := by
  have e1 : shr .u16 (s : Int) (p : Int) = ((s / 2 ^ p : Nat) : Int) := by
    unfold shr
    have : min (p : Int).toNat IntKind.u16.bits = p := by show min p 16 = p; omega
    rw [this]
    norm_cast
  have hlt : s / 2 ^ p < 65536 := Nat.lt_of_le_of_lt (Nat.div_le_self _ _) hs
  have e2 := bits_and_u16_nat (s / 2 ^ p) 1 hlt (by omega)
  have e3 : (((1 : Nat) : Int)) = 1 := rfl
  rw [e3] at e2
  rw [e1, e2, Nat.and_one_is_mod, Nat.testBit_eq_decide_div_mod_eq]
  simp only [decide_eq_true_iff]
  omega
theorem wrap_small {z : Nat} (h : z < 65536) : IntKind.u16.wrap (z : Int) = (z : Int) := by
  rw [IntKind.wrap_u16]; omega
theorem pow_cast (t : Nat) : (2 : Int) ^ t = ((2 ^ t : Nat) : Int) := by norm_cast
theorem shl_one {t : Nat} (ht : t < 16) : shl .u16 1 (t : Int) = ((2 ^ t : Nat) : Int) := by
  unfold shl
  have h1 : min (t : Int).toNat IntKind.u16.bits = t := by show min t 16 = t; omega
  rw [h1, Int.one_mul, pow_cast]
  exact wrap_small (Nat.lt_of_lt_of_le (Nat.pow_lt_pow_right (by decide : 1 < 2) ht) (by decide))
section
variable {rows : List (List Int)} {n m : Nat} (V : VA rows n m) (hn : n ≤ 12)
include V hn
theorem to_loop {s x : Nat} (hs : s < 2 ^ n) (hx : x < m) : ∀ (e p : Nat), p + e = n → Ev (fun k => short_set_to.l0 k (s : Int) (x : Int) ((mvA (nx rows) x s p : Nat) : Int) rows (n : Int) (p : Int)) ((mv (nx rows) n s x : Nat) : Int)
  | 0, p, he => by
    obtain rfl : p = n := by omega
    exact Ev.step (f := fun _ => some ((mvA (nx rows) x s p : Nat) : Int)) (fun k => by rw [short_set_to.l0, if_neg (by omega)]) (Ev.ret rfl)
  | e + 1, p, he => by
    have hp : p < n := by omega
    have hlen : rows.length = n := V.len
    have hrow : ((rd_L1 rows (p : Int)).length : Int) = m := by rw [V.row p hp]
    have h16 : s < 65536 := Nat.lt_of_lt_of_le hs (Nat.le_trans (Nat.pow_le_pow_right (by decide : 0 < 2) (show n ≤ 16 by omega)) (by decide))
    have ht := V.nxLt hp hx
    have hE := V.nxE hp hx
    have hml := mvA_lt (f := nx rows) (x := x) (s := s) (n := n) (fun u hu => V.nxLt hu hx) p (by omega)
    have h17 : mvA (nx rows) x s p < 65536 := Nat.lt_of_lt_of_le hml (Nat.le_trans (Nat.pow_le_pow_right (by decide : 0 < 2) (show n ≤ 16 by omega)) (by decide))
    have h2t : 2 ^ (nx rows p x) < 65536 := Nat.lt_of_lt_of_le (Nat.pow_lt_pow_right (by decide : 1 < 2) (show nx rows p x < 16 by omega)) (by decide)
    have ih := to_loop hs hx e (p + 1) (by omega)
    by_cases hb : s.testBit p = true
    · refine Ev.step (fun k => by rw [short_set_to.l0, if_pos (by omega), if_pos (by omega), if_pos (by rw [hlen]; omega), if_pos ((bit_test (by omega) h16).2 hb), if_pos (by omega), if_pos (by rw [hrow]; omega), hE, if_pos (by omega), shl_one (by omega), bits_or_u16_nat _ _ h17 h2t, wrapS (by omega)]) ?_
      have e1 : mvA (nx rows) x s p ||| 2 ^ (nx rows p x) = mvA (nx rows) x s (p + 1) := by rw [mvA, if_pos hb]
      rw [e1]
      exact ih
    · refine Ev.step (fun k => by rw [short_set_to.l0, if_pos (by omega), if_pos (by omega), if_pos (by rw [hlen]; omega), if_neg (fun h => hb ((bit_test (by omega) h16).1 h)), wrapS (by omega)]) ?_
      have e1 : mvA (nx rows) x s p = mvA (nx rows) x s (p + 1) := by rw [mvA, if_neg hb]
      rw [e1]
      exact ih
theorem set_to {s x : Nat} (hs : s < 2 ^ n) (hx : x < m) : Ev (fun k => short_set_to.f k (s : Int) rows (x : Int)) ((mv (nx rows) n s x : Nat) : Int) := by
  have := to_loop V hn hs hx n 0 (by omega)
  have hlen : rows.length = n := V.len
  simpa [short_set_to.f, hlen, mvA] using this
end
end Go.Proofs.Ytcpmmkennnjalaa.Q
end
