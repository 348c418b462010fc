/- In an Eulerian automaton of at most MaxSmall states that has a reset word, Extend of each set that is neither empty nor contains all states is a word of at most n - 1 letters whose preimage has more states. (text 32 of 44) -/
import Derived.Test.YtcpmmkennnjalaaZEulerKarim
import Derived.Test.YtcpmmkennnjalaaZEulerKaril
import Derived.Test.YtcpmmkennnjalaaZEulerKarize
section
namespace Go.Proofs.Ytcpmmkennnjalaa.Q
open Go.RowKit Go.Proofs.YtcpmmkennnjalaaW.PrintWords Go.Proofs.YtcpmmkennnjalaaW.PrintLast Go.Proofs.YtcpmmkennnjalaaW.PrintMore
set_option linter.unusedVariables false
/-! ### sets of states as numbers -/
/-- The set to which letter x leads, from the states below p. -/
def mvA (f : Nat → Nat → Nat) (x s : Nat) : Nat → Nat
  | 0 => 0
  | p + 1 => if s.testBit p then mvA f x s p ||| 2 ^ (f p x) else mvA f x s p
def mv (f : Nat → Nat → Nat) (n s x : Nat) : Nat := mvA f x s n
theorem bits_or_u16_nat (a b : Nat) (ha : a < 65536) (hb : b < 65536) : Go.bits .or .u16 (a : Int) (b : Int) = ((a ||| b : Nat) : Int) := by
  have hx : a ||| b < 2 ^ 16 := Nat.or_lt_two_pow ha hb
  have h1 : (BitVec.ofInt 16 (a : Int)).toNat = a := by
    rw [BitVec.ofInt_natCast, BitVec.toNat_ofNat]; exact Nat.mod_eq_of_lt (by omega)
  have h2 : (BitVec.ofInt 16 (b : Int)).toNat = b := by
    rw [BitVec.ofInt_natCast, BitVec.toNat_ofNat]; exact Nat.mod_eq_of_lt (by omega)
  show IntKind.u16.wrap ((BitVec.ofInt 16 (a : Int) ||| BitVec.ofInt 16 (b : Int)).toNat : Int) = _
  rw [BitVec.toNat_or, h1, h2, IntKind.wrap_u16]
  omega
theorem bit_test {s p : Nat} (hp : p ≤ 16) (hs : s < 65536) : (Go.bits .and .u16 (shr .u16 (s : Int) (p : Int)) 1 = 1) ↔ s.testBit p = true := by
  have e1 : shr .u16 (s : Int) (p : Int) = ((s / 2 ^ p : Nat) : Int) := by
    unfold shr
    have : min (p : Int).toNat IntKind.u16.bits = p := by show min p 16 = p; omega
    rw [this]
    norm_cast
  have hlt : s / 2 ^ p < 65536 := Nat.lt_of_le_of_lt (Nat.div_le_self _ _) hs
  have e2 := bits_and_u16_nat (s / 2 ^ p) 1 hlt (by omega)
  have e3 : (((1 : Nat) : Int)) = 1 := rfl
  rw [e3] at e2
  rw [e1, e2, Nat.and_one_is_mod, Nat.testBit_eq_decide_div_mod_eq]
  simp only [decide_eq_true_iff]
  omega
theorem wrap_small {z : Nat} (h : z < 65536) : IntKind.u16.wrap (z : Int) = (z : Int) := by
  rw [IntKind.wrap_u16]; omega
theorem pow_cast (t : Nat) : (2 : Int) ^ t = ((2 ^ t : Nat) : Int) := by norm_cast
theorem shl_one {t : Nat} (ht : t < 16) : shl .u16 1 (t : Int) = ((2 ^ t : Nat) : Int) := by
  unfold shl
  have h1 : min (t : Int).toNat IntKind.u16.bits = t := by show min t 16 = t; omega
  rw [h1, Int.one_mul, pow_cast]
  exact wrap_small (Nat.lt_of_lt_of_le (Nat.pow_lt_pow_right (by decide : 1 < 2) ht) (by decide))
section
variable {rows : List (List Int)} {n m : Nat} (V : VA rows n m) (hn : n ≤ 12)
include V hn
end
end Go.Proofs.Ytcpmmkennnjalaa.Q
end
