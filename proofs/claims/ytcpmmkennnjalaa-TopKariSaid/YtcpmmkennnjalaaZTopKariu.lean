/- In any Eulerian automaton that has a reset word, whatever set of states, neither empty nor all, is led into by more states with a word of at most n - 1 letters, and its shortest reset word has at most n^2 - 3n + 3 letters; in any circular one at most (n - 1)^2. (At most 9 states) (text 21 of 42) -/
import Derived.Test.YtcpmmkennnjalaaZTopKarim
import Derived.Sort.Grow
section
namespace Go.Proofs.Ytcpmmkennnjalaa.Q
open Go.RowKit Go.Sort Go.Proofs.YtcpmmkennnjalaaW.PrintWords Go.Proofs.YtcpmmkennnjalaaW.PrintLast Go.Proofs.YtcpmmkennnjalaaW.PrintMore
set_option linter.unusedVariables false
set_option linter.unusedSimpArgs false
set_option maxHeartbeats 1000000 in
theorem fresh1_grow (k : Nat) (s1 s2 : Int) (A1 A2 : Option Addr) (c1 c2 : Nat) (w1 w2 : List Int) (r : Int) (w : World) (hr1 : Kd.C (Kd.int .i64) w A1 w1.length w1) (hc1 : w1.length ≤ c1) (hr2 : Kd.C (Kd.int .i64) w A2 w2.length w2) (hc2 : w2.length ≤ c2) (h : slices_Compare_int_int.f k w1 w2 = some r) :
    Calls Try.prog 76 #[.agg #[.int .u16 s1, .slice A1 w1.length c1], .agg #[.int .u16 s2, .slice A2 w2.length c2]] w fun e w' => e = .returned (.int .i64 r) ∧ ∃ q os', w' = grow (w.drewN q) os' := by
  have HR1 := Aside0.mk hr1
  have HC1 := Aside0.mk hc1
  have HR2 := Aside0.mk hr2
  have HC2 := Aside0.mk hc2
  have H := Aside0.mk h
  clear hr1 hc1 hr2 hc2 h
  go_enter Try.func76, Try.ntmps76
  go_wp2_with fail
  refine (slices_Compare_int_int.calls k _ _ w1 _ _ w2 r _ (Kd.C_below HR1.out (below_alloc (below_alloc (Below.refl _ w) _) _)) HC1.out (Kd.C_below HR2.out (below_alloc (below_alloc (Below.refl _ w) _) _)) HC2.out H.out).mono ?_
  rintro e w3 ⟨rfl, n, rfl⟩
  go_wp2
  go_ret
  exact ⟨by first | rfl | simp, n, _, by rw [alloc_eq_grow, alloc_eq_grow, grow_grow]; rfl⟩
end Go.Proofs.Ytcpmmkennnjalaa.Q
end
