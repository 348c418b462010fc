/- In any Eulerian automaton that has a reset word, whatever set of states, neither empty nor all, is led into by more states with a word of at most n - 1 letters, and its shortest reset word has at most n^2 - 3n + 3 letters; in any circular one at most (n - 1)^2. (At most 9 states) (text 17 of 42) -/
import Derived.Test.YtcpmmkennnjalaaZTopKarij
import Derived.Lib.BitFns
section
namespace Go.Proofs.Ytcpmmkennnjalaa.Q
open Go.RowKit Go.Proofs.YtcpmmkennnjalaaW.PrintWords Go.Proofs.YtcpmmkennnjalaaW.PrintLast Go.Proofs.YtcpmmkennnjalaaW.PrintMore
set_option linter.unusedVariables false
set_option linter.unusedSimpArgs false
/-! ### how many states a set has -/
def short_set_size.f (a0 : Int) : Option Int := if 0 ≤ a0 ∧ a0 ≤ 65535 then some ((Lib.onesCount (a0 / 256).toNat : Int) + (Lib.onesCount (a0 % 256).toNat : Int)) else none
theorem bits_and_u16_nat (a b : Nat) (ha : a < 65536) (hb : b < 65536) : Go.bits .and .u16 (a : Int) (b : Int) = ((a &&& b : Nat) : Int) := by
  have hx : a &&& b < 2 ^ 16 := Nat.and_lt_two_pow _ (by omega)
  have h1 : (BitVec.ofInt 16 (a : Int)).toNat = a := by
    rw [BitVec.ofInt_natCast, BitVec.toNat_ofNat]; exact Nat.mod_eq_of_lt (by omega)
  have h2 : (BitVec.ofInt 16 (b : Int)).toNat = b := by
    rw [BitVec.ofInt_natCast, BitVec.toNat_ofNat]; exact Nat.mod_eq_of_lt (by omega)
  show IntKind.u16.wrap ((BitVec.ofInt 16 (a : Int) &&& BitVec.ofInt 16 (b : Int)).toNat : Int) = _
  rw [BitVec.toNat_and, h1, h2, IntKind.wrap_u16]
  omega
theorem and_byte (a0 : Int) (h0 : 0 ≤ a0) (h1 : a0 ≤ 65535) : Go.bits .and .u16 a0 255 = a0 % 256 := by
  have h := bits_and_u16_nat a0.toNat 255 (by omega) (by omega)
  rw [Int.toNat_of_nonneg h0] at h
  refine h.trans ?_
  have : a0.toNat &&& 255 = a0.toNat % 2 ^ 8 := Nat.and_two_pow_sub_one_eq_mod a0.toNat 8
  rw [this]
  omega
set_option maxHeartbeats 4000000 in
set_option maxRecDepth 100000 in
theorem ones_calls (a0 : Int) (w : World) (h0 : 0 ≤ a0) (h1 : a0 ≤ 65535) :
    Calls Try.prog 86 #[.int .u16 a0] w fun e w' => e = .returned (.int .i64 ((Lib.onesCount (a0 / 256).toNat : Int) + (Lib.onesCount (a0 % 256).toNat : Int))) ∧ Drawn0 w w' := by
  have hb : Go.bits .and .u16 a0 255 = a0 % 256 := and_byte a0 h0 h1
  have i0 : 0 ≤ a0 / 256 := by omega
  have i1 : a0 / 256 ≤ 255 := by omega
  have j0 : 0 ≤ a0 % 256 := by omega
  have j1 : a0 % 256 ≤ 255 := by omega
  go_enter Try.func86, Try.ntmps86
  go_wp2
  simp only [List.append_eq, List.cons_append, List.nil_append]
  go_quiet (fail)
  have e1 : Lib.pop8 (a0 / 256) = (Lib.onesCount (a0 / 256).toNat : Int) := by
    have := Lib.pop8_eq ⟨(a0 / 256).toNat, by omega⟩
    simpa only [Int.toNat_of_nonneg i0] using this
  have e2 : Lib.pop8 (a0 % 256) = (Lib.onesCount (a0 % 256).toNat : Int) := by
    have := Lib.pop8_eq ⟨(a0 % 256).toNat, by omega⟩
    simpa only [Int.toNat_of_nonneg j0] using this
  have l1 := Lib.onesCount_le8 ⟨(a0 / 256).toNat, by omega⟩
  have l2 := Lib.onesCount_le8 ⟨(a0 % 256).toNat, by omega⟩
  simp only at l1 l2
  rw [e1, e2, Int.emod_eq_of_lt (by omega) (by omega)]
  obtain ⟨s, hs⟩ : ∃ s : Int, (Lib.onesCount (a0 / 256).toNat : Int) + (Lib.onesCount (a0 % 256).toNat : Int) = s := ⟨_, rfl⟩
  rw [hs]
  have HS := Aside0.mk hs
  clear hs
  go_wp2
  go_ret
  exact ⟨by rw [HS.out]; rfl, ⟨⟨_, rfl⟩⟩⟩
set_option maxHeartbeats 4000000 in
set_option maxRecDepth 100000 in
theorem short_set_size.calls (a0 : Int) (r : Int) (w : World) (h : short_set_size.f a0 = some r) :
    Calls Try.prog 60 #[.int .u16 a0] w fun e w' => e = .returned (.int .i64 r) ∧ Drawn0 w w' := by
  unfold short_set_size.f at h
  by_cases c : 0 ≤ a0 ∧ a0 ≤ 65535
  · rw [if_pos c] at h
    obtain rfl := Option.some.inj h
    obtain ⟨h0, h1⟩ := c
    clear h
    generalize hs : (Lib.onesCount (a0 / 256).toNat : Int) + (Lib.onesCount (a0 % 256).toNat : Int) = s
    have hc := fun w => ones_calls a0 w h0 h1
    simp only [hs] at hc
    have HC := Aside0.mk hc
    clear hc hs
    go_enter Try.func60, Try.ntmps60
    go_wp2_with (go_at_call 86; refine (HC.out _).mono ?_; rintro e w1 ⟨rfl, hd⟩; have HD := Aside0.mk hd; clear hd)
    go_ret
    exact ⟨rfl, HD.out⟩
  · rw [if_neg c] at h; cases h
end Go.Proofs.Ytcpmmkennnjalaa.Q
end
