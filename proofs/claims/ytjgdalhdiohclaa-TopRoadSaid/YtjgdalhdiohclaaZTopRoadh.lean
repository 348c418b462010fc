/- Part of the proof of TopRoad (text 8 of 33) -/
import Derived.Test.YtjgdalhdiohclaaZTopRoadg
set_option linter.unusedVariables false
set_option linter.unusedSimpArgs false
set_option linter.unusedSectionVars false
set_option maxRecDepth 100000
set_option maxHeartbeats 8000000
open Go.RowKit Go.Proofs.YtjgdalhdiohclaaW.PrintWords Go.Proofs.YtjgdalhdiohclaaW.PrintLast Go.Proofs.YtjgdalhdiohclaaW.PrintMore
section
namespace Go.Proofs.Ytjgdalhdiohclaa.Q
attribute [local go_sem] max2_int min2_int max_two min_two max_three min_three max_four min_four
def mizmazetop_times.l0 : Nat → List Int → Int → Int → Int → Option (Int)
 | 0, _, _, _, _ => none
 | k + 1, x0, x1, x5, x6 => if x6 < (x0.length : Int) then (if 0 ≤ x6 then (if (rd x0 x6) = x1 then (mizmazetop_times.l0 k x0 x1 (wrap64 (x5 + 1)) (wrap64 (x6 + 1))) else (mizmazetop_times.l0 k x0 x1 x5 (wrap64 (x6 + 1)))) else (none)) else (some x5)
def mizmazetop_times.f (k : Nat) (l0 : List Int) (a1 : Int) : Option (Int) := mizmazetop_times.l0 k l0 a1 0 0
theorem mizmazetop_times.calls (k : Nat) (A0 : Option Addr) (c0 : Nat) (l0 : List Int) (a1 : Int) (r : Int) (w : World) (hr0 : Kd.C (Kd.int .i64) w A0 l0.length l0) (hc0 : l0.length ≤ c0) (h : mizmazetop_times.f k l0 a1 = some r) :
  Calls Try.prog 98 #[.slice A0 l0.length c0, .int .i64 a1] w fun e w' => e = .returned (.int .i64 r) ∧ Drawn0 w w' := by
 have HR0 := am hr0
 have HC0 := am hc0
 clear hr0 hc0
 have H : (mizmazetop_times.l0 k l0 a1 0 0) = some r := h
 clear h
 have H' := am H
 clear H
 go_enter Try.func98, Try.ntmps98
 go_wp2
 go_loopg [5, 6] k (fun kq v5 v6 w' => ∃ (x5_1 : Int) (x6_1 : Int), v5 = .int .i64 x5_1 ∧ v6 = .int .i64 x6_1 ∧ Aside0 (mizmazetop_times.l0 kq l0 a1 x5_1 x6_1 = some r) ∧ Aside0 (kq ≤ k) ∧ Drawn0 w w')
 case atStart => exact ⟨(0), (0), zz3, zz3, H', ⟨Nat.le_refl _⟩, by repeat (first | exact Drawn0.refl _ | apply Drawn0.step)⟩
 case round =>
  clear H'
  (try clear p2)
  obtain ⟨x5_1, x6_1, rfl, rfl, HA, HK1, ⟨m1, rfl⟩⟩ := hrel
  cases gk with
  | zero => exact absurd HA.out (by simp [mizmazetop_times.l0])
  | succ k1 =>
   have H := HA.out
   clear HA
   simp only [mizmazetop_times.l0] at H
   by_cases c3 : x6_1 < (l0.length : Int)
   ·rw [if_pos c3] at H
    have c3b0 : decide (x6_1 < (l0.length : Int)) = true := decide_eq_true c3
    clear c3
    by_cases c4 : 0 ≤ x6_1
    ·rw [if_pos c4] at H
     have c4b0 : decide (0 ≤ x6_1) = true := decide_eq_true c4
     clear c4
     by_cases c5 : (rd l0 x6_1) = a1
     ·rw [if_pos c5] at H
      have c5b0 : ((rd l0 x6_1) == a1) = true := beq_iff_eq.mpr c5
      have c5b1 : ((rd l0 x6_1) != a1) = false := bne_eq_false_iff_eq.mpr c5
      clear c5
      have H' := am H
      clear H
      have p821 : 0 ≤ (x6_1 : Int) := od zz2
      have q821 : x6_1 < (l0.length : Int) := od zz2
      obtain ⟨ad821, e821, hx821_0⟩ := Kd.at_int HR0.out x6_1 p821 q821
      cases e821
      replace p821 := eq_true p821
      replace q821 := eq_true q821
      go_wp2
      go_roundg k1
      case measure => have := HK1.out; omega
      case rel => exact ⟨(wrap64 (x5_1 + 1)), (wrap64 (x6_1 + 1)), zz3, zz3, H', ⟨by have := HK1.out; omega⟩, by repeat (first | exact Drawn0.refl _ | apply Drawn0.step)⟩
     ·rw [if_neg c5] at H
      have c5b0 : ((rd l0 x6_1) == a1) = false := beq_eq_false_iff_ne.mpr c5
      have c5b1 : ((rd l0 x6_1) != a1) = true := bne_iff_ne.mpr c5
      have H' := am H
      clear H
      have p821 : 0 ≤ (x6_1 : Int) := od zz2
      have q821 : x6_1 < (l0.length : Int) := od zz2
      obtain ⟨ad821, e821, hx821_0⟩ := Kd.at_int HR0.out x6_1 p821 q821
      cases e821
      replace p821 := eq_true p821
      replace q821 := eq_true q821
      go_wp2
      go_roundg k1
      case measure => have := HK1.out; omega
      case rel => exact ⟨(x5_1), (wrap64 (x6_1 + 1)), zz3, zz3, H', ⟨by have := HK1.out; omega⟩, by repeat (first | exact Drawn0.refl _ | apply Drawn0.step)⟩
    ·rw [if_neg c4] at H
     exact absurd H (by simp)
   ·rw [if_neg c3] at H
    have c3b0 : decide (x6_1 < (l0.length : Int)) = false := decide_eq_false c3
    clear c3
    obtain rfl := Option.some.inj H
    go_wp2
    go_ret
    exact ⟨by first | rfl | (simp; done) | (simp [*]; done), by repeat (first | exact Drawn0.refl _ | apply Drawn0.step)⟩
end Go.Proofs.Ytjgdalhdiohclaa.Q
end
section
namespace Go.Proofs.Ytjgdalhdiohclaa.Q
attribute [local go_sem] max2_int min2_int max_two min_two max_three min_three max_four min_four
mutual
def mizmazetop_alike.j0 : Nat → Bool → List (List Int) → List (List Int) → Option (Bool)
 | 0, _, _, _ => none
 | k + 1, x31, x823000, x824000 => if x31 = true then (some false) else (mizmazetop_alike.l0 k 0 x823000 x824000)
def mizmazetop_alike.l0 : Nat → Int → List (List Int) → List (List Int) → Option (Bool)
 | 0, _, _, _ => none
 | k + 1, x5, x823000, x824000 => if x5 < (x823000.length : Int) then (mizmazetop_alike.l1 k x5 0 x823000 x824000) else (some true)
def mizmazetop_alike.l1 : Nat → Int → Int → List (List Int) → List (List Int) → Option (Bool)
 | 0, _, _, _, _ => none
 | k + 1, x5, x6, x823000, x824000 => if x6 < (x823000.length : Int) then (if 0 ≤ x5 then (if x5 < (x823000.length : Int) then ((mizmazetop_times.f k (rd_L1 x823000 x5) x6).bind fun t828 => (if x5 < (x824000.length : Int) then ((mizmazetop_times.f k (rd_L1 x824000 x5) x6).bind fun t830 => (if t828 = t830 then (mizmazetop_alike.l1 k x5 (wrap64 (x6 + 1)) x823000 x824000) else (some false))) else (none))) else (none)) else (none)) else (mizmazetop_alike.l0 k (wrap64 (x5 + 1)) x823000 x824000)
end
def mizmazetop_alike.f (k : Nat) (l0_0 : List (List Int)) (l1_0 : List (List Int)) : Option (Bool) := (mizmazetop_valid.f k l1_0).bind fun t824 => (if t824 = true then (if (l0_0.length : Int) = (l1_0.length : Int) then (if 0 < (l0_0.length : Int) then (if 0 < (l1_0.length : Int) then (mizmazetop_alike.j0 k (((rd_L1 l0_0 0).length : Int) != ((rd_L1 l1_0 0).length : Int)) l0_0 l1_0) else (none)) else (none)) else (mizmazetop_alike.j0 k true l0_0 l1_0)) else (mizmazetop_alike.j0 k true l0_0 l1_0))
def mizmazetop_alike.T1 : Bool × List (List Nat × List Nat) := (true, [([], []), ([0], [0]), ([1], [1]), ([2, 1], [2]), ([3], [3]), ([4, 3], [3, 4]), ([5, 3], [3, 5]), ([3], [3]), ([7, 3], [3, 7]), ([8, 3], [3, 8]), ([6, 9, 3], [3, 6, 9]), ([3, 10], [3, 10]), ([11, 3], [11]), ([12], [12]), ([13, 12], [12, 13]), ([14, 12], [12, 14]), ([15, 12], [12, 15]), ([16, 12], [12, 16]), ([12], [12]), ([18, 12], [12, 18]), ([19, 12], [12, 19]), ([20, 12], [12, 20]), ([21, 12], [12, 21]), ([17, 22, 12], [12, 17, 22]), ([12, 23], [12, 23])])
def mizmazetop_alike.B1 : List Nat := [0, 1, 3, 7, 15, 31, 63, 15, 143, 399, 1023, 2047, 4095, 8191, 16383, 32767, 65535, 131071, 8191, 270335, 794623, 1843199, 3940351, 8388607, 16777215]
theorem mizmazetop_alike.tab1 : rtab .any (opsOf Try.f59 1) = mizmazetop_alike.T1 := by kernel_rfl
theorem mizmazetop_alike.bits1 : waitsOk mizmazetop_alike.T1.2 mizmazetop_alike.B1 = true := by kernel_rfl
def mizmazetop_alike.T9 : Bool × List (List Nat × List Nat) := (true, [([], []), ([0], [0]), ([], []), ([1, 2], [1, 2]), ([3], [3]), ([], []), ([4, 5], [4, 5]), ([], []), ([7], [7]), ([], []), ([8, 9], [8, 9]), ([10], [10]), ([], []), ([11, 12, 6], [11, 12]), ([6, 13], [6, 13])])
def mizmazetop_alike.B9 : List Nat := [0, 1, 0, 7, 15, 0, 63, 0, 128, 0, 896, 1920, 0, 8191, 16383]
theorem mizmazetop_alike.tab9 : rtab .any (opsOf Try.f59 9) = mizmazetop_alike.T9 := by kernel_rfl
theorem mizmazetop_alike.bits9 : waitsOk mizmazetop_alike.T9.2 mizmazetop_alike.B9 = true := by kernel_rfl
def ta0 : Array Bool := #[true, false, false, false, false, false, false, false, false, false, false, false, false, false, false, false, false, false, false, false, false, false, false, false, false]
def ta1 : Array Bool := #[true, true, false, false, false, false, false, false, false, false, false, false, false, false, false, false, false, false, false, false, false, false, false, false, false]
def ta2 : Array Bool := #[true, true, true, false, false, false, false, false, false, false, false, false, false, false, false, false, false, false, false, false, false, false, false, false, false]
def ta3 : Array Bool := #[true, true, true, true, false, false, false, false, false, false, false, false, false, false, false, false, false, false, false, false, false, false, false, false, false]
def ta4 : Array Bool := #[true, true, true, true, true, false, false, false, false, false, false, false, false, false, false, false, false, false, false, false, false, false, false, false, false]
def ta5 : Array Bool := #[true, true, true, true, true, false, false, true, false, false, false, false, false, false, false, false, false, false, false, false, false, false, false, false, false]
def ta6 : Array Bool := #[true, true, true, true, true, true, false, true, false, false, false, false, false, false, false, false, false, false, false, false, false, false, false, false, false]
def ta7 : Array Bool := #[true, true, true, true, true, true, true, true, false, false, false, false, false, false, false, false, false, false, false, false, false, false, false, false, false]
def ta8 : Array Bool := #[true, true, true, true, true, true, true, true, true, false, false, false, false, false, false, false, false, false, false, false, false, false, false, false, false]
def ta9 : Array Bool := #[true, true, true, true, true, true, true, true, true, true, false, false, false, false, false, false, false, false, false, false, false, false, false, false, false]
def ta10 : Array Bool := #[true, true, true, true, true, true, true, true, true, true, true, false, false, false, false, false, false, false, false, false, false, false, false, false, false]
def ta11 : Array Bool := #[true, true, true, true, true, true, true, true, true, true, true, true, false, false, false, false, false, false, false, false, false, false, false, false, false]
def ta12 : Array Bool := #[true, true, true, true, true, true, true, true, true, true, true, true, true, false, false, false, false, false, false, false, false, false, false, false, false]
def ta13 : Array Bool := #[true, true, true, true, true, true, true, true, true, true, true, true, true, true, false, false, false, false, false, false, false, false, false, false, false]
def ta14 : Array Bool := #[true, true, true, true, true, true, true, true, true, true, true, true, true, true, false, false, false, false, true, false, false, false, false, false, false]
def ta15 : Array Bool := #[true, true, true, true, true, true, true, true, true, true, true, true, true, true, true, false, false, false, true, false, false, false, false, false, false]
def ta16 : Array Bool := #[true, true, true, true, true, true, true, true, true, true, true, true, true, true, true, true, false, false, true, false, false, false, false, false, false]
def ta17 : Array Bool := #[true, true, true, true, true, true, true, true, true, true, true, true, true, true, true, true, true, false, true, false, false, false, false, false, false]
def ta18 : Array Bool := #[true, true, true, true, true, true, true, true, true, true, true, true, true, true, true, true, true, true, true, false, false, false, false, false, false]
def ta19 : Array Bool := #[true, true, true, true, true, true, true, true, true, true, true, true, true, true, true, true, true, true, true, true, false, false, false, false, false]
def ta20 : Array Bool := #[true, true, true, true, true, true, true, true, true, true, true, true, true, true, true, true, true, true, true, true, true, false, false, false, false]
def ta21 : Array Bool := #[true, true, true, true, true, true, true, true, true, true, true, true, true, true, true, true, true, true, true, true, true, true, false, false, false]
def ta22 : Array Bool := #[true, true, true, true, true, true, true, true, true, true, true, true, true, true, true, true, true, true, true, true, true, true, true, false, false]
def ta23 : Array Bool := #[true, true, true, true, true, true, true, true, true, true, true, true, true, true, true, true, true, true, true, true, true, true, true, true, false]
def ta24 : Array Bool := #[true, true, true, true, true, true, true, true, true, true, true, true, true, true, true, true, true, true, true, true, true, true, true, true, true]
def ta25 : Array Bool := #[true, true, true, true, true, true, true, true, true, true, true, true, true, true, true, false, false, false, false, false, false, false, false, false, false]
def ta26 : Array Bool := #[true, true, true, true, true, true, true, true, true, true, true, true, true, true, true, true, false, false, false, false, false, false, false, false, false]
def ta27 : Array Bool := #[true, true, true, true, true, true, true, true, true, true, true, true, true, true, true, true, true, false, false, false, false, false, false, false, false]
def ta28 : Array Bool := #[true, true, true, true, true, true, true, true, true, true, true, true, true, true, true, true, true, true, false, false, false, false, false, false, false]
def ta29 : Array Bool := #[true, true, true, true, true, true, false, false, false, false, false, false, false, false, false, false, false, false, false, false, false, false, false, false, false]
def ta30 : Array Bool := #[true, true, true, true, true, true, true, false, false, false, false, false, false, false, false, false, false, false, false, false, false, false, false, false, false]
def ta31 : Array Bool := #[true, false, false, false, false, false, false, false, false, false, false, false, false, false, false]
def ta32 : Array Bool := #[true, false, true, false, false, false, false, false, false, false, false, false, false, false, false]
def ta33 : Array Bool := #[true, false, true, false, false, true, false, false, false, false, false, false, false, false, false]
def ta34 : Array Bool := #[true, false, true, false, false, true, false, true, false, false, false, false, false, false, false]
def ta35 : Array Bool := #[true, false, true, false, false, true, false, true, false, true, false, false, false, false, false]
def ta36 : Array Bool := #[true, false, true, false, false, true, false, true, false, true, false, false, true, false, false]
def ta37 : Array Bool := #[true, true, true, false, false, true, false, true, false, true, false, false, true, false, false]
def ta38 : Array Bool := #[true, true, true, true, false, true, false, true, false, true, false, false, true, false, false]
def ta39 : Array Bool := #[true, true, true, true, true, true, false, true, false, true, false, false, true, false, false]
def ta40 : Array Bool := #[true, true, true, true, true, true, false, true, true, true, false, false, true, false, false]
def ta41 : Array Bool := #[true, true, true, true, true, true, false, true, true, true, true, false, true, false, false]
def ta42 : Array Bool := #[true, true, true, true, true, true, false, true, true, true, true, true, true, false, false]
def ta43 : Array Bool := #[true, true, true, true, true, true, true, true, true, true, true, true, true, false, false]
def ta44 : Array Bool := #[true, true, true, true, true, true, true, true, true, true, true, true, true, true, false]
def ta45 : Array Bool := #[true, true, true, true, true, true, true, true, true, true, true, true, true, true, true]
theorem mizmazetop_alike.calls (k : Nat) (A0_0 : Option Addr) (c0_0 : Nat) (l0_0 : List (List Int)) (A1_0 : Option Addr) (c1_0 : Nat) (l1_0 : List (List Int)) (r : Bool) (w : World) (hr0_0 : Kd.C (Kd.slice 3 (Kd.int .i64)) w A0_0 l0_0.length l0_0) (hc0_0 : l0_0.length ≤ c0_0) (hr1_0 : Kd.C (Kd.slice 3 (Kd.int .i64)) w A1_0 l1_0.length l1_0) (hc1_0 : l1_0.length ≤ c1_0) (h : mizmazetop_alike.f k l0_0 l1_0 = some r) :
    Calls Try.prog 59 #[.agg #[.slice A0_0 l0_0.length c0_0], .agg #[.slice A1_0 l1_0.length c1_0]] w fun e w' => e = .returned (.bool r) ∧ Below w.heap.size w w' := by
 have hu24 := Try.underlying24
 have HR0_0 := am hr0_0
 have HC0_0 := am hc0_0
 clear hr0_0 hc0_0
 have HR1_0 := am hr1_0
 have HC1_0 := am hc1_0
 clear hr1_0 hc1_0
 have HB := am (Below.refl w.heap.size w)
 have H : ((mizmazetop_valid.f k l1_0).bind fun t824 => (if t824 = true then (if (l0_0.length : Int) = (l1_0.length : Int) then (if 0 < (l0_0.length : Int) then (if 0 < (l1_0.length : Int) then (mizmazetop_alike.j0 k (((rd_L1 l0_0 0).length : Int) != ((rd_L1 l1_0 0).length : Int)) l0_0 l1_0) else (none)) else (none)) else (mizmazetop_alike.j0 k true l0_0 l1_0)) else (mizmazetop_alike.j0 k true l0_0 l1_0))) = some r := h
 clear h
 have HC3 := am H
 clear H
 go_enter Try.func59, Try.ntmps59
 go_upto_region 1 with (first | ((with_reducible refine gate_dst (N := 2) rfl ?_); (try (refine gate_guard (by rfl) ?_; dsimp only)); refine box_event zz5 (N := 2) zz5 (cs := #[.slice A0_0 l0_0.length c0_0]) (t := 24) zz6 ?_; intro gb822 hg w4 hbox hb; have BK822 := am (hbox); have GW822 := am ((by rw [hg]; exact (below_size (bw HB.out)) : w.heap.size ≤ gb822)); have GE822 := am ((by rw [hg]; exact (below_size (bw HB.out)) : w.heap.size ≤ gb822)); replace HB := am (below_step (bw HB.out) hb); clear hb hbox hg) | ((with_reducible refine gate_dst (N := 3) rfl ?_); (try (refine gate_guard (by rfl) ?_; dsimp only)); refine box_event zz5 (N := 3) zz5 (cs := #[.slice A1_0 l1_0.length c1_0]) (t := 24) zz6 ?_; intro gb823 hg w5 hbox hb; have BK823 := am (hbox); have GW823 := am ((by rw [hg]; exact (below_size (bs HB.out)) : w.heap.size ≤ gb823)); have GE823 := am ((by rw [hg]; exact (below_size (bs HB.out)) : w.heap.size ≤ gb823)); replace HB := am (below_step (bs HB.out) hb); have NB822_823 := am ((by rw [hg]; exact Nat.ne_of_lt (blk_lt (g := gb822) (o := .cells #[.slice A0_0 l0_0.length c0_0] 24 (0, 0)) (kb BK822.out)) : gb822 ≠ gb823)); have NB823_822 := am ((by rw [hg]; exact Nat.ne_of_gt (blk_lt (g := gb822) (o := .cells #[.slice A0_0 l0_0.length c0_0] 24 (0, 0)) (kb BK822.out)) : gb823 ≠ gb822)); replace BK822 := am (blk_below (g := gb822) (o := .cells #[.slice A0_0 l0_0.length c0_0] 24 (0, 0)) (kb BK822.out) hb); clear hb hbox hg))
 (try simp only [Act.put, List.setIfInBounds_toArray, List.set_cons_zero, List.set_cons_succ])
 go_cut [31] (fun v31 wc => ∃ (kq : Nat) (x31_2 : Bool), v31 = .bool x31_2 ∧ Aside0 (mizmazetop_alike.j0 kq x31_2 l0_0 l1_0 = some r) ∧ Aside0 (kq ≤ k) ∧ Aside0 (wc.heap[gb822]? = some (.cells #[(.slice A0_0 l0_0.length c0_0)] 24 (0, 0))) ∧ Aside0 (wc.heap[gb823]? = some (.cells #[(.slice A1_0 l1_0.length c1_0)] 24 (0, 0))) ∧ Aside0 (Below w.heap.size w wc))
 case first =>
  have H := HC3.out
  clear HC3
  replace H := Option.bind_eq_some_iff.mp H
  obtain ⟨t824, A60, H⟩ := H
  replace H : (if t824 = true then (if (l0_0.length : Int) = (l1_0.length : Int) then (if 0 < (l0_0.length : Int) then (if 0 < (l1_0.length : Int) then (mizmazetop_alike.j0 k (((rd_L1 l0_0 0).length : Int) != ((rd_L1 l1_0 0).length : Int)) l0_0 l1_0) else (none)) else (none)) else (mizmazetop_alike.j0 k true l0_0 l1_0)) else (mizmazetop_alike.j0 k true l0_0 l1_0)) = some r := H
  have A6 := am A60
  clear A60
  by_cases c7 : t824 = true
  rotate_left
  ·replace c7 := Bool.eq_false_iff.mpr c7
   subst c7
   have H1 : (mizmazetop_alike.j0 k true l0_0 l1_0) = some r := by rw [if_neg (show ¬ (false = true) by decide)] at H; exact H
   clear H
   have H := H1
   clear H1
   have H' := am H
   clear H
   try go_wp2
   replace BK822 := am (blk_drew BK822.out)
   replace BK823 := am (blk_drew BK823.out)
   replace HB := am (bd HB.out)
   refine start_ (n := 25) (S := fun w' => w'.cell? ⟨gb823, 0, none⟩ = some (.slice A1_0 l1_0.length c1_0)) (ds := []) #[false, false, false, false, false, false, false, false, false, false, false, false, false, false, false, false, false, false, false, false, false, false, false, false, false] (by kernel_rfl) rfl rfl ((blk_cell BK823.out 0).trans rfl) (fun hHeld => ?_); refine with_tabW mizmazetop_alike.tab1 mizmazetop_alike.bits1 (fun HT_ HW_ => ?_)
   generalize w5.drew = w15 at BK822 BK823 HB hHeld ⊢
   refine tv_ 0 7 ta0 HT_ HW_ hHeld ?_
   refine one_ (i := 1) (N := some 8) ta1 rfl rfl (one_of HT_.out (by kernel_rfl)) (by decide) (fun K hK => ?_)
   refine goes_ Try.func54 (by kernel_rfl) rfl #[.agg #[.slice A1_0 l1_0.length c1_0]] (by rfl) rfl rfl zz1 ?_
   with_reducible refine (mizmazetop_valid.calls k _ _ l1_0 false _ ?side1 ?side2 A6.out).mono ?_
   (case side1 => exact kc (Kd.C_below HR1_0.out HB.out))
   (case side2 => exact HC1_0.out)
   rintro e w16 ⟨rfl, hb⟩
   refine ⟨_, rfl, ?_⟩
   replace BK822 := am (blk_below (g := gb822) (o := .cells #[.slice A0_0 l0_0.length c0_0] 24 (0, 0)) (kb BK822.out) hb)
   replace BK823 := am (blk_below (g := gb823) (o := .cells #[.slice A1_0 l1_0.length c1_0] 24 (0, 0)) (kb BK823.out) hb)
   replace HB := am (below_step (bs HB.out) hb)
   (try clear hb)
   (try clear hb2)
   (try clear hk)
   (try clear hi)
   refine hK.out _ _ ((blk_cell BK823.out 0).trans rfl) (fun hHeld => ?_)
   clear hK K
   refine nm_ 8 ?_
   refine pv_ 2 9 ta2 HT_ ?_
   refine pv_ 3 10 ta3 HT_ ?_
   refine pu_ 4 11 ta4 HT_ ?_
   refine pu_ 5 12 ta29 HT_ ?_
   refine pu_ 6 13 ta30 HT_ ?_
   refine pu_ 7 14 ta7 HT_ ?_
   refine pu_ 8 15 ta8 HT_ ?_
   refine pu_ 9 16 ta9 HT_ ?_
   refine pu_ 10 17 ta10 HT_ ?_
   refine pv_ 11 18 ta11 HT_ ?_
   refine pv_ 12 19 ta12 HT_ ?_
   refine pu_ 13 20 ta13 HT_ ?_
   refine pu_ 14 21 ta25 HT_ ?_
   refine pu_ 15 22 ta26 HT_ ?_
   refine pu_ 16 23 ta27 HT_ ?_
   refine pu_ 17 24 ta28 HT_ ?_
   refine pu_ 18 25 ta18 HT_ ?_
   refine pu_ 19 26 ta19 HT_ ?_
   refine pu_ 20 27 ta20 HT_ ?_
   refine pu_ 21 28 ta21 HT_ ?_
   refine pu_ 22 29 ta22 HT_ ?_
   refine pu_ 23 30 ta23 HT_ ?_
   refine pv_ 24 31 ta24 HT_ ?_
   refine done_ (done_of HT_.out (by kernel_rfl)) ?_
   try go_wp2
   go_meet
   case rel => exact ⟨_, (true), zz3, H', ⟨by first | omega | exact Nat.le_refl _⟩, ⟨kb BK822.out⟩, ⟨kb BK823.out⟩, ⟨bs HB.out⟩⟩
  subst c7
  have H1 : (if (l0_0.length : Int) = (l1_0.length : Int) then (if 0 < (l0_0.length : Int) then (if 0 < (l1_0.length : Int) then (mizmazetop_alike.j0 k (((rd_L1 l0_0 0).length : Int) != ((rd_L1 l1_0 0).length : Int)) l0_0 l1_0) else (none)) else (none)) else (mizmazetop_alike.j0 k true l0_0 l1_0)) = some r := by rw [if_pos rfl] at H; exact H
  clear H
  have H := H1
  clear H1
  by_cases c8 : (l0_0.length : Int) = (l1_0.length : Int)
  rotate_left
  ·rw [if_neg c8] at H
   have c8b0 : ((l0_0.length : Int) == (l1_0.length : Int)) = false := beq_eq_false_iff_ne.mpr c8
   have c8b1 : ((l0_0.length : Int) != (l1_0.length : Int)) = true := bne_iff_ne.mpr c8
   have c8b2 : (l0_0.length == l1_0.length) = false := by first | simpa using c8 | (simp at c8 ⊢; omega)
   (first | rw [c8b0] | (simp only [i64_w, i32_w]; rw [c8b0]) | skip)
   have H' := am H
   clear H
   try go_wp2
   replace BK822 := am (blk_drew BK822.out)
   replace BK823 := am (blk_drew BK823.out)
   replace HB := am (bd HB.out)
   refine start_ (n := 25) (S := fun w' => w'.cell? ⟨gb823, 0, none⟩ = some (.slice A1_0 l1_0.length c1_0) ∧ w'.cell? ⟨gb822, 0, none⟩ = some (.slice A0_0 l0_0.length c0_0)) (ds := []) #[false, false, false, false, false, false, false, false, false, false, false, false, false, false, false, false, false, false, false, false, false, false, false, false, false] (by kernel_rfl) rfl rfl ⟨(blk_cell BK823.out 0).trans rfl, (blk_cell BK822.out 0).trans rfl⟩ (fun hHeld => ?_); refine with_tabW mizmazetop_alike.tab1 mizmazetop_alike.bits1 (fun HT_ HW_ => ?_)
   generalize w5.drew = w13 at BK822 BK823 HB hHeld ⊢
   refine tv_ 0 7 ta0 HT_ HW_ hHeld ?_
   refine one_ (i := 1) (N := some 8) ta1 rfl rfl (one_of HT_.out (by kernel_rfl)) (by decide) (fun K hK => ?_)
   refine goes_ Try.func54 (by kernel_rfl) rfl #[.agg #[.slice A1_0 l1_0.length c1_0]] (by rfl) rfl rfl zz1 ?_
   with_reducible refine (mizmazetop_valid.calls k _ _ l1_0 true _ ?side1 ?side2 A6.out).mono ?_
   (case side1 => exact kc (Kd.C_below HR1_0.out HB.out))
   (case side2 => exact HC1_0.out)
   rintro e w14 ⟨rfl, hb⟩
   refine ⟨_, rfl, ?_⟩
   replace BK822 := am (blk_below (g := gb822) (o := .cells #[.slice A0_0 l0_0.length c0_0] 24 (0, 0)) (kb BK822.out) hb)
   replace BK823 := am (blk_below (g := gb823) (o := .cells #[.slice A1_0 l1_0.length c1_0] 24 (0, 0)) (kb BK823.out) hb)
   replace HB := am (below_step (bs HB.out) hb)
   (try clear hb)
   (try clear hb2)
   (try clear hk)
   (try clear hi)
   refine hK.out _ _ ⟨(blk_cell BK823.out 0).trans rfl, (blk_cell BK822.out 0).trans rfl⟩ (fun hHeld => ?_)
   clear hK K
   refine nm_ 8 ?_
   refine pv_ 2 9 ta2 HT_ ?_
   refine pv_ 3 10 ta3 HT_ ?_
   refine pv_ 4 11 ta4 HT_ ?_
   refine pv_ 7 14 ta5 HT_ ?_
   refine tv_ 5 12 ta6 HT_ HW_ hHeld ?_
   refine pv_ 6 13 ta7 HT_ ?_
   refine tv_ 8 15 ta8 HT_ HW_ hHeld ?_
   refine pv_ 9 16 ta9 HT_ ?_
   refine pv_ 10 17 ta10 HT_ ?_
   refine pv_ 11 18 ta11 HT_ ?_
   refine pv_ 12 19 ta12 HT_ ?_
   refine pu_ 13 20 ta13 HT_ ?_
   refine pu_ 14 21 ta25 HT_ ?_
   refine pu_ 15 22 ta26 HT_ ?_
   refine pu_ 16 23 ta27 HT_ ?_
   refine pu_ 17 24 ta28 HT_ ?_
   refine pu_ 18 25 ta18 HT_ ?_
   refine pu_ 19 26 ta19 HT_ ?_
   refine pu_ 20 27 ta20 HT_ ?_
   refine pu_ 21 28 ta21 HT_ ?_
   refine pu_ 22 29 ta22 HT_ ?_
   refine pu_ 23 30 ta23 HT_ ?_
   refine pv_ 24 31 ta24 HT_ ?_
   refine done_ (done_of HT_.out (by kernel_rfl)) ?_
   try go_wp2
   go_meet
   case rel => exact ⟨_, (true), zz3, H', ⟨by first | omega | exact Nat.le_refl _⟩, ⟨kb BK822.out⟩, ⟨kb BK823.out⟩, ⟨bs HB.out⟩⟩
  rw [if_pos c8] at H
  have c8b0 : ((l0_0.length : Int) == (l1_0.length : Int)) = true := beq_iff_eq.mpr c8
  have c8b1 : ((l0_0.length : Int) != (l1_0.length : Int)) = false := bne_eq_false_iff_eq.mpr c8
  have c8b2 : (l0_0.length == l1_0.length) = true := by first | simpa using c8 | (simp at c8 ⊢; omega)
  clear c8
  (first | rw [c8b0] | (simp only [i64_w, i32_w]; rw [c8b0]) | skip)
  by_cases c9 : 0 < (l0_0.length : Int)
  rotate_left
  ·rw [if_neg c9] at H
   exact absurd H (by simp)
  rw [if_pos c9] at H
  have c9b0 : decide (0 < (l0_0.length : Int)) = true := decide_eq_true c9
  have c9b1 : decide (0 < l0_0.length) = true := decide_eq_true (by omega)
  clear c9
  by_cases c10 : 0 < (l1_0.length : Int)
  rotate_left
  ·rw [if_neg c10] at H
   exact absurd H (by simp)
  rw [if_pos c10] at H
  have c10b0 : decide (0 < (l1_0.length : Int)) = true := decide_eq_true c10
  have c10b1 : decide (0 < l1_0.length) = true := decide_eq_true (by omega)
  clear c10
  have H' := am H
  clear H
  try go_wp2
  replace BK822 := am (blk_drew BK822.out)
  replace BK823 := am (blk_drew BK823.out)
  replace HB := am (bd HB.out)
  have p825 : 0 ≤ (0 : Int) := (by omega)
  have q825 : 0 < (l0_0.length : Int) := od zz2
  obtain ⟨ad825, A825_0, c825_0, e825, hx825_0, hl825_0, hi825_0⟩ := at_L1 HR0_0.out 0 p825 q825
  have hw825_0 := hx825_0
  (try rw [show ((0 : Int)).toNat = 0 from rfl] at hw825_0)
  (try rw [show 0 * 1 = 0 from rfl] at hw825_0)
  (try rw [Addr.add_zero'] at hw825_0)
  cases e825
  have qi825 : (0 < l0_0.length) = True := eq_true (by omega)
  (try rw [show ((0 : Int)).toNat = 0 from rfl] at hx825_0)
  (try rw [Addr.add_zero'] at hx825_0)
  replace hx825_0 := (HB.out.cell (World.block_lt_of_cell? w _ hx825_0)).trans hx825_0
  have HR825_0 := am hi825_0
  have HC825_0 := am hl825_0
  clear hi825_0 hl825_0
  replace p825 := eq_true p825
  replace q825 := eq_true q825
  have p826 : 0 ≤ (0 : Int) := (by omega)
  have q826 : 0 < (l1_0.length : Int) := od zz2
  obtain ⟨ad826, A826_0, c826_0, e826, hx826_0, hl826_0, hi826_0⟩ := at_L1 HR1_0.out 0 p826 q826
  have hw826_0 := hx826_0
  (try rw [show ((0 : Int)).toNat = 0 from rfl] at hw826_0)
  (try rw [show 0 * 1 = 0 from rfl] at hw826_0)
  (try rw [Addr.add_zero'] at hw826_0)
  cases e826
  have qi826 : (0 < l1_0.length) = True := eq_true (by omega)
  (try rw [show ((0 : Int)).toNat = 0 from rfl] at hx826_0)
  (try rw [Addr.add_zero'] at hx826_0)
  replace hx826_0 := (HB.out.cell (World.block_lt_of_cell? w _ hx826_0)).trans hx826_0
  have HR826_0 := am hi826_0
  have HC826_0 := am hl826_0
  clear hi826_0 hl826_0
  replace p826 := eq_true p826
  replace q826 := eq_true q826
  refine start_ (n := 25) (S := fun w' => w'.cell? ⟨gb823, 0, none⟩ = some (.slice (some ad826) l1_0.length c1_0) ∧ w'.cell? ⟨gb822, 0, none⟩ = some (.slice (some ad825) l0_0.length c0_0) ∧ w'.cell? ad825 = some (.slice A825_0 (rd_L1 l0_0 0).length c825_0) ∧ w'.cell? ad826 = some (.slice A826_0 (rd_L1 l1_0 0).length c826_0)) (ds := []) #[false, false, false, false, false, false, false, false, false, false, false, false, false, false, false, false, false, false, false, false, false, false, false, false, false] (by kernel_rfl) rfl rfl ⟨(blk_cell BK823.out 0).trans rfl, (blk_cell BK822.out 0).trans rfl, ((HB.out.cell (World.block_lt_of_cell? w _ hw825_0)).trans hw825_0), ((HB.out.cell (World.block_lt_of_cell? w _ hw826_0)).trans hw826_0)⟩ (fun hHeld => ?_); refine with_tabW mizmazetop_alike.tab1 mizmazetop_alike.bits1 (fun HT_ HW_ => ?_)
  generalize w5.drew = w11 at BK822 BK823 HB HR825_0 HR826_0 hx825_0 hx826_0 hHeld ⊢
  refine tv_ 0 7 ta0 HT_ HW_ hHeld ?_
  refine one_ (i := 1) (N := some 8) ta1 rfl rfl (one_of HT_.out (by kernel_rfl)) (by decide) (fun K hK => ?_)
  refine goes_ Try.func54 (by kernel_rfl) rfl #[.agg #[.slice (some ad826) l1_0.length c1_0]] (by rfl) rfl rfl zz1 ?_
  with_reducible refine (mizmazetop_valid.calls k _ _ l1_0 true _ ?side1 ?side2 A6.out).mono ?_
  (case side1 => exact kc (Kd.C_below HR1_0.out HB.out))
  (case side2 => exact HC1_0.out)
  rintro e w12 ⟨rfl, hb⟩
  refine ⟨_, rfl, ?_⟩
  replace BK822 := am (blk_below (g := gb822) (o := .cells #[.slice (some ad825) l0_0.length c0_0] 24 (0, 0)) (kb BK822.out) hb)
  replace BK823 := am (blk_below (g := gb823) (o := .cells #[.slice (some ad826) l1_0.length c1_0] 24 (0, 0)) (kb BK823.out) hb)
  replace HB := am (below_step (bs HB.out) hb)
  (try clear hb)
  (try clear hb2)
  (try clear hk)
  (try clear hi)
  refine hK.out _ _ ⟨(blk_cell BK823.out 0).trans rfl, (blk_cell BK822.out 0).trans rfl, ((HB.out.cell (World.block_lt_of_cell? w _ hw825_0)).trans hw825_0), ((HB.out.cell (World.block_lt_of_cell? w _ hw826_0)).trans hw826_0)⟩ (fun hHeld => ?_)
  clear hK K
  refine nm_ 8 ?_
  refine pv_ 2 9 ta2 HT_ ?_
  refine pv_ 3 10 ta3 HT_ ?_
  refine pv_ 4 11 ta4 HT_ ?_
  refine pv_ 7 14 ta5 HT_ ?_
  refine tv_ 5 12 ta6 HT_ HW_ hHeld ?_
  refine pv_ 6 13 ta7 HT_ ?_
  refine tv_ 8 15 ta8 HT_ HW_ hHeld ?_
  refine pv_ 9 16 ta9 HT_ ?_
  refine pv_ 10 17 ta10 HT_ ?_
  refine pv_ 11 18 ta11 HT_ ?_
  refine pv_ 12 19 ta12 HT_ ?_
  refine pv_ 13 20 ta13 HT_ ?_
  refine pv_ 18 25 ta14 HT_ ?_
  refine tv_ 14 21 ta15 HT_ HW_ hHeld ?_
  refine pv_ 15 22 ta16 HT_ ?_
  refine tv_ 16 23 ta17 HT_ HW_ hHeld ?_
  refine pv_ 17 24 ta18 HT_ ?_
  refine tv_ 19 26 ta19 HT_ HW_ hHeld ?_
  refine pv_ 20 27 ta20 HT_ ?_
  refine tv_ 21 28 ta21 HT_ HW_ hHeld ?_
  refine pv_ 22 29 ta22 HT_ ?_
  refine pv_ 23 30 ta23 HT_ ?_
  refine pv_ 24 31 ta24 HT_ ?_
  refine done_ (done_of HT_.out (by kernel_rfl)) ?_
  try go_wp2
  go_meet
  case rel => exact ⟨_, ((((rd_L1 l0_0 0).length : Int) != ((rd_L1 l1_0 0).length : Int))), zz3, H', ⟨by first | omega | exact Nat.le_refl _⟩, ⟨kb BK822.out⟩, ⟨kb BK823.out⟩, ⟨bs HB.out⟩⟩
 case rest =>
  clear HC3
  (try clear c1); (try clear p2); (try clear c5); (try clear c7); (try clear c8); (try clear c8b0); (try clear c8b1); (try clear c8b2); (try clear c9); (try clear c10)
  obtain ⟨kq, x31_2, rfl, HA, HJ2, BK822, BK823, HB⟩ := hcut
  cases kq with
  | zero => exact absurd HA.out (by simp [mizmazetop_alike.j0])
  | succ kj2 =>
   have H := HA.out
   clear HA
   simp only [mizmazetop_alike.j0] at H
   by_cases c17 : x31_2 = true
   ·subst c17
    have H1 : (some false) = some r := by rw [if_pos rfl] at H; exact H
    clear H
    have H := H1
    clear H1
    obtain rfl := Option.some.inj H
    go_wp2
    go_ret
    exact ⟨by first | rfl | (simp [errW_none, errW_some] <;> rfl) | (simp [*, errW_none, errW_some] <;> rfl), bs HB.out⟩
   replace c17 := Bool.eq_false_iff.mpr c17
   subst c17
   have H1 : (mizmazetop_alike.l0 kj2 0 l0_0 l1_0) = some r := by rw [if_neg (show ¬ (false = true) by decide)] at H; exact H
   clear H
   have H := H1
   clear H1
   have H' := am H
   clear H
   go_wp2
   go_loopg [5] kj2 (fun kq v5 w' => ∃ (x5_2 : Int), v5 = .int .i64 x5_2 ∧ Aside0 (mizmazetop_alike.l0 kq x5_2 l0_0 l1_0 = some r) ∧ Aside0 (kq ≤ kj2) ∧ Aside0 (w'.heap[gb822]? = some (.cells #[(.slice A0_0 l0_0.length c0_0)] 24 (0, 0))) ∧ Aside0 (w'.heap[gb823]? = some (.cells #[(.slice A1_0 l1_0.length c1_0)] 24 (0, 0))) ∧ Aside0 (Below w.heap.size w w'))
   case atStart => exact ⟨(0), zz3, H', ⟨Nat.le_refl _⟩, ⟨kb BK822.out⟩, ⟨kb BK823.out⟩, ⟨bs HB.out⟩⟩
   case round =>
    clear H'
    (try clear c1); (try clear p2); (try clear c5); (try clear c7); (try clear c8); (try clear c8b0); (try clear c8b1); (try clear c8b2); (try clear c9); (try clear c10); (try clear c17); (try clear p2)
    obtain ⟨x5_2, rfl, HA, HK2, BK822, BK823, HB⟩ := hrel
    cases gk with
    | zero => exact absurd HA.out (by simp [mizmazetop_alike.l0])
    | succ k2 =>
     have H := HA.out
     clear HA
     simp only [mizmazetop_alike.l0] at H
     by_cases c18 : x5_2 < (l0_0.length : Int)
     rotate_left
     ·rw [if_neg c18] at H
      have c18b0 : decide (x5_2 < (l0_0.length : Int)) = false := decide_eq_false c18
      clear c18
      obtain rfl := Option.some.inj H
      have hnb36 := NB822_823.out
      have hnc36 := NB823_822.out
      have hcz37_0 : wr.cell? ⟨gb822, 0, none⟩ = some (.slice A0_0 l0_0.length c0_0) := (blk_cell BK822.out 0).trans rfl
      have hfz37_0 := blk_frozen BK822.out 0
      go_wp2
      go_ret
      exact ⟨by first | rfl | (simp [errW_none, errW_some] <;> rfl) | (simp [*, errW_none, errW_some] <;> rfl), bs HB.out⟩
     rw [if_pos c18] at H
     have c18b0 : decide (x5_2 < (l0_0.length : Int)) = true := decide_eq_true c18
     clear c18
     have H' := am H
     clear H
     have hnb19 := NB822_823.out
     have hnc19 := NB823_822.out
     have hcz20_0 : wr.cell? ⟨gb822, 0, none⟩ = some (.slice A0_0 l0_0.length c0_0) := (blk_cell BK822.out 0).trans rfl
     have hfz20_0 := blk_frozen BK822.out 0
     go_wp2
     go_loopg [6] k2 (fun kq v6 w' => ∃ (x6_3 : Int), v6 = .int .i64 x6_3 ∧ Aside0 (mizmazetop_alike.l1 kq x5_2 x6_3 l0_0 l1_0 = some r) ∧ Aside0 (kq ≤ k2) ∧ Aside0 (w'.heap[gb822]? = some (.cells #[(.slice A0_0 l0_0.length c0_0)] 24 (0, 0))) ∧ Aside0 (w'.heap[gb823]? = some (.cells #[(.slice A1_0 l1_0.length c1_0)] 24 (0, 0))) ∧ Aside0 (Below w.heap.size w w'))
     case atStart => exact ⟨(0), zz3, H', ⟨Nat.le_refl _⟩, ⟨kb BK822.out⟩, ⟨kb BK823.out⟩, ⟨bs HB.out⟩⟩
     case round =>
      clear H'
      (try clear c1); (try clear p2); (try clear c5); (try clear c7); (try clear c8); (try clear c8b0); (try clear c8b1); (try clear c8b2); (try clear c9); (try clear c10); (try clear c17); (try clear c18); (try clear c18b0); (try clear c19); (try clear hcz20_0); (try clear hfz20_0); (try clear p2)
      obtain ⟨x6_3, rfl, HA, HK3, BK822, BK823, HB⟩ := hrel
      cases gk with
      | zero => exact absurd HA.out (by simp [mizmazetop_alike.l1])
      | succ k3 =>
       have H := HA.out
       clear HA
       simp only [mizmazetop_alike.l1] at H
       by_cases c21 : x6_3 < (l0_0.length : Int)
       rotate_left
       ·rw [if_neg c21] at H
        have c21b0 : decide (x6_3 < (l0_0.length : Int)) = false := decide_eq_false c21
        clear c21
        have H' := am H
        clear H
        have hnb34 := NB822_823.out
        have hnc34 := NB823_822.out
        have hcz35_0 : wr.cell? ⟨gb822, 0, none⟩ = some (.slice A0_0 l0_0.length c0_0) := (blk_cell BK822.out 0).trans rfl
        have hfz35_0 := blk_frozen BK822.out 0
        go_wp2
        go_roundg k3
        case measure => have := HJ2.out; have := HK2.out; have := HK3.out; omega
        case rel => exact ⟨(wrap64 (x5_2 + 1)), zz3, H', ⟨by have := HJ2.out; have := HK2.out; have := HK3.out; omega⟩, ⟨kb BK822.out⟩, ⟨kb BK823.out⟩, ⟨bs HB.out⟩⟩
       rw [if_pos c21] at H
       have c21b0 : decide (x6_3 < (l0_0.length : Int)) = true := decide_eq_true c21
       clear c21
       by_cases c22 : 0 ≤ x5_2
       rotate_left
       ·rw [if_neg c22] at H
        exact absurd H (by simp)
       rw [if_pos c22] at H
       have c22b0 : decide (0 ≤ x5_2) = true := decide_eq_true c22
       clear c22
       by_cases c23 : x5_2 < (l0_0.length : Int)
       rotate_left
       ·rw [if_neg c23] at H
        exact absurd H (by simp)
       rw [if_pos c23] at H
       have c23b0 : decide (x5_2 < (l0_0.length : Int)) = true := decide_eq_true c23
       clear c23
       replace H := Option.bind_eq_some_iff.mp H
       obtain ⟨t828, A240, H⟩ := H
       replace H : (if x5_2 < (l1_0.length : Int) then ((mizmazetop_times.f k3 (rd_L1 l1_0 x5_2) x6_3).bind fun t830 => (if t828 = t830 then (mizmazetop_alike.l1 k3 x5_2 (wrap64 (x6_3 + 1)) l0_0 l1_0) else (some false))) else (none)) = some r := H
       have A24 := am A240
       clear A240
       by_cases c25 : x5_2 < (l1_0.length : Int)
       rotate_left
       ·rw [if_neg c25] at H
        exact absurd H (by simp)
       rw [if_pos c25] at H
       have c25b0 : decide (x5_2 < (l1_0.length : Int)) = true := decide_eq_true c25
       clear c25
       replace H := Option.bind_eq_some_iff.mp H
       obtain ⟨t830, A260, H⟩ := H
       replace H : (if t828 = t830 then (mizmazetop_alike.l1 k3 x5_2 (wrap64 (x6_3 + 1)) l0_0 l1_0) else (some false)) = some r := H
       have A26 := am A260
       clear A260
       by_cases c27 : t828 = t830
       rotate_left
       ·rw [if_neg c27] at H
        have c27b0 : (t828 == t830) = false := beq_eq_false_iff_ne.mpr c27
        have c27b1 : (t828 != t830) = true := bne_iff_ne.mpr c27
        obtain rfl := Option.some.inj H
        have hnb31 := NB822_823.out
        have hnc31 := NB823_822.out
        have hcz32_0 : wr.cell? ⟨gb822, 0, none⟩ = some (.slice A0_0 l0_0.length c0_0) := (blk_cell BK822.out 0).trans rfl
        have hfz32_0 := blk_frozen BK822.out 0
        try go_wp2
        replace BK822 := am (blk_drew BK822.out)
        replace BK823 := am (blk_drew BK823.out)
        replace HB := am (bd HB.out)
        have p827 : 0 ≤ (x5_2 : Int) := od zz2
        have q827 : x5_2 < (l0_0.length : Int) := od zz2
        obtain ⟨ad827, A827_0, c827_0, e827, hx827_0, hl827_0, hi827_0⟩ := at_L1 HR0_0.out x5_2 p827 q827
        have hw827_0 := hx827_0
        cases e827
        replace hx827_0 := (HB.out.cell (World.block_lt_of_cell? w _ hx827_0)).trans hx827_0
        have HR827_0 := am hi827_0
        have HC827_0 := am hl827_0
        clear hi827_0 hl827_0
        replace p827 := eq_true p827
        replace q827 := eq_true q827
        have p829 : 0 ≤ (x5_2 : Int) := od zz2
        have q829 : x5_2 < (l1_0.length : Int) := od zz2
        obtain ⟨ad829, A829_0, c829_0, e829, hx829_0, hl829_0, hi829_0⟩ := at_L1 HR1_0.out x5_2 p829 q829
        have hw829_0 := hx829_0
        cases e829
        replace hx829_0 := (HB.out.cell (World.block_lt_of_cell? w _ hx829_0)).trans hx829_0
        have HR829_0 := am hi829_0
        have HC829_0 := am hl829_0
        clear hi829_0 hl829_0
        replace p829 := eq_true p829
        replace q829 := eq_true q829
        refine start_ (n := 15) (S := fun w' => w'.cell? ⟨gb822, 0, none⟩ = some (.slice (some ad827) l0_0.length c0_0) ∧ w'.cell? ⟨gb823, 0, none⟩ = some (.slice (some ad829) l1_0.length c1_0) ∧ w'.cell? (ad827.add (x5_2).toNat) = some (.slice A827_0 (rd_L1 l0_0 x5_2).length c827_0) ∧ w'.cell? (ad829.add (x5_2).toNat) = some (.slice A829_0 (rd_L1 l1_0 x5_2).length c829_0)) (ds := []) #[false, false, false, false, false, false, false, false, false, false, false, false, false, false, false] (by kernel_rfl) rfl rfl ⟨(blk_cell BK822.out 0).trans rfl, (blk_cell BK823.out 0).trans rfl, ((HB.out.cell (World.block_lt_of_cell? w _ hw827_0)).trans hw827_0), ((HB.out.cell (World.block_lt_of_cell? w _ hw829_0)).trans hw829_0)⟩ (fun hHeld => ?_); refine with_tabW mizmazetop_alike.tab9 mizmazetop_alike.bits9 (fun HT_ HW_ => ?_)
        generalize wr.drew = w33 at BK822 BK823 HB HR827_0 HR829_0 hx827_0 hx829_0 hHeld ⊢
        refine pv_ 0 46 ta31 HT_ ?_
        refine pv_ 2 48 ta32 HT_ ?_
        refine pv_ 5 51 ta33 HT_ ?_
        refine pv_ 7 53 ta34 HT_ ?_
        refine pv_ 9 55 ta35 HT_ ?_
        refine pv_ 12 58 ta36 HT_ ?_
        refine tv_ 1 47 ta37 HT_ HW_ hHeld ?_
        refine pv_ 3 49 ta38 HT_ ?_
        refine tv_ 4 50 ta39 HT_ HW_ hHeld ?_
        refine tv_ 8 54 ta40 HT_ HW_ hHeld ?_
        refine pv_ 10 56 ta41 HT_ ?_
        refine tv_ 11 57 ta42 HT_ HW_ hHeld ?_
        refine one_ (i := 6) (N := some 52) ta43 rfl rfl (one_of HT_.out (by kernel_rfl)) (by decide) (fun K hK => ?_)
        refine goes_ Try.func98 (by kernel_rfl) rfl #[.slice A827_0 (rd_L1 l0_0 x5_2).length c827_0, .int .i64 x6_3] (by rfl) rfl rfl zz1 ?_
        with_reducible refine (mizmazetop_times.calls k3 _ _ (rd_L1 l0_0 x5_2) x6_3 t828 _ ?side1 ?side2 A24.out).mono ?_
        (case side1 => exact kc (Kd.C_below HR827_0.out HB.out))
        (case side2 => exact HC827_0.out)
        rintro e w' ⟨rfl, ⟨nd, rfl⟩⟩
        refine ⟨_, rfl, ?_⟩
        refine hK.out _ _ ⟨(blk_cell BK822.out 0).trans rfl, (blk_cell BK823.out 0).trans rfl, ((HB.out.cell (World.block_lt_of_cell? w _ hw827_0)).trans hw827_0), ((HB.out.cell (World.block_lt_of_cell? w _ hw829_0)).trans hw829_0)⟩ (fun hHeld => ?_)
        clear hK K
        refine nm_ 52 ?_
        refine one_ (i := 13) (N := some 59) ta44 rfl rfl (one_of HT_.out (by kernel_rfl)) (by decide) (fun K hK => ?_)
        refine goes_ Try.func98 (by kernel_rfl) rfl #[.slice A829_0 (rd_L1 l1_0 x5_2).length c829_0, .int .i64 x6_3] (by rfl) rfl rfl zz1 ?_
        with_reducible refine (mizmazetop_times.calls k3 _ _ (rd_L1 l1_0 x5_2) x6_3 t830 _ ?side1 ?side2 A26.out).mono ?_
        (case side1 => repeat (first | exact (Kd.C_below HR829_0.out (bs HB.out)) | (with_reducible refine Kd.C_alloc ?_ _) | (with_reducible refine Kd.C_drewN ?_ _) | (with_reducible refine Kd.C_drew ?_)))
        (case side2 => exact HC829_0.out)
        rintro e w' ⟨rfl, ⟨nd, rfl⟩⟩
        refine ⟨_, rfl, ?_⟩
        refine hK.out _ _ ⟨(blk_cell BK822.out 0).trans rfl, (blk_cell BK823.out 0).trans rfl, ((HB.out.cell (World.block_lt_of_cell? w _ hw827_0)).trans hw827_0), ((HB.out.cell (World.block_lt_of_cell? w _ hw829_0)).trans hw829_0)⟩ (fun hHeld => ?_)
        clear hK K
        refine nm_ 59 ?_
        refine pv_ 14 60 ta45 HT_ ?_
        refine done_ (done_of HT_.out (by kernel_rfl)) ?_
        try go_wp2
        go_ret
        exact ⟨by first | rfl | (simp [errW_none, errW_some] <;> rfl) | (simp [*, errW_none, errW_some] <;> rfl), bs HB.out⟩
       rw [if_pos c27] at H
       have c27b0 : (t828 == t830) = true := beq_iff_eq.mpr c27
       have c27b1 : (t828 != t830) = false := bne_eq_false_iff_eq.mpr c27
       clear c27
       have H' := am H
       clear H
       have hnb28 := NB822_823.out
       have hnc28 := NB823_822.out
       have hcz29_0 : wr.cell? ⟨gb822, 0, none⟩ = some (.slice A0_0 l0_0.length c0_0) := (blk_cell BK822.out 0).trans rfl
       have hfz29_0 := blk_frozen BK822.out 0
       try go_wp2
       replace BK822 := am (blk_drew BK822.out)
       replace BK823 := am (blk_drew BK823.out)
       replace HB := am (bd HB.out)
       have p827 : 0 ≤ (x5_2 : Int) := od zz2
       have q827 : x5_2 < (l0_0.length : Int) := od zz2
       obtain ⟨ad827, A827_0, c827_0, e827, hx827_0, hl827_0, hi827_0⟩ := at_L1 HR0_0.out x5_2 p827 q827
       have hw827_0 := hx827_0
       cases e827
       replace hx827_0 := (HB.out.cell (World.block_lt_of_cell? w _ hx827_0)).trans hx827_0
       have HR827_0 := am hi827_0
       have HC827_0 := am hl827_0
       clear hi827_0 hl827_0
       replace p827 := eq_true p827
       replace q827 := eq_true q827
       have p829 : 0 ≤ (x5_2 : Int) := od zz2
       have q829 : x5_2 < (l1_0.length : Int) := od zz2
       obtain ⟨ad829, A829_0, c829_0, e829, hx829_0, hl829_0, hi829_0⟩ := at_L1 HR1_0.out x5_2 p829 q829
       have hw829_0 := hx829_0
       cases e829
       replace hx829_0 := (HB.out.cell (World.block_lt_of_cell? w _ hx829_0)).trans hx829_0
       have HR829_0 := am hi829_0
       have HC829_0 := am hl829_0
       clear hi829_0 hl829_0
       replace p829 := eq_true p829
       replace q829 := eq_true q829
       refine start_ (n := 15) (S := fun w' => w'.cell? ⟨gb822, 0, none⟩ = some (.slice (some ad827) l0_0.length c0_0) ∧ w'.cell? ⟨gb823, 0, none⟩ = some (.slice (some ad829) l1_0.length c1_0) ∧ w'.cell? (ad827.add (x5_2).toNat) = some (.slice A827_0 (rd_L1 l0_0 x5_2).length c827_0) ∧ w'.cell? (ad829.add (x5_2).toNat) = some (.slice A829_0 (rd_L1 l1_0 x5_2).length c829_0)) (ds := []) #[false, false, false, false, false, false, false, false, false, false, false, false, false, false, false] (by kernel_rfl) rfl rfl ⟨(blk_cell BK822.out 0).trans rfl, (blk_cell BK823.out 0).trans rfl, ((HB.out.cell (World.block_lt_of_cell? w _ hw827_0)).trans hw827_0), ((HB.out.cell (World.block_lt_of_cell? w _ hw829_0)).trans hw829_0)⟩ (fun hHeld => ?_); refine with_tabW mizmazetop_alike.tab9 mizmazetop_alike.bits9 (fun HT_ HW_ => ?_)
       generalize wr.drew = w30 at BK822 BK823 HB HR827_0 HR829_0 hx827_0 hx829_0 hHeld ⊢
       refine pv_ 0 46 ta31 HT_ ?_
       refine pv_ 2 48 ta32 HT_ ?_
       refine pv_ 5 51 ta33 HT_ ?_
       refine pv_ 7 53 ta34 HT_ ?_
       refine pv_ 9 55 ta35 HT_ ?_
       refine pv_ 12 58 ta36 HT_ ?_
       refine tv_ 1 47 ta37 HT_ HW_ hHeld ?_
       refine pv_ 3 49 ta38 HT_ ?_
       refine tv_ 4 50 ta39 HT_ HW_ hHeld ?_
       refine tv_ 8 54 ta40 HT_ HW_ hHeld ?_
       refine pv_ 10 56 ta41 HT_ ?_
       refine tv_ 11 57 ta42 HT_ HW_ hHeld ?_
       refine one_ (i := 6) (N := some 52) ta43 rfl rfl (one_of HT_.out (by kernel_rfl)) (by decide) (fun K hK => ?_)
       refine goes_ Try.func98 (by kernel_rfl) rfl #[.slice A827_0 (rd_L1 l0_0 x5_2).length c827_0, .int .i64 x6_3] (by rfl) rfl rfl zz1 ?_
       with_reducible refine (mizmazetop_times.calls k3 _ _ (rd_L1 l0_0 x5_2) x6_3 t828 _ ?side1 ?side2 A24.out).mono ?_
       (case side1 => exact kc (Kd.C_below HR827_0.out HB.out))
       (case side2 => exact HC827_0.out)
       rintro e w' ⟨rfl, ⟨nd, rfl⟩⟩
       refine ⟨_, rfl, ?_⟩
       refine hK.out _ _ ⟨(blk_cell BK822.out 0).trans rfl, (blk_cell BK823.out 0).trans rfl, ((HB.out.cell (World.block_lt_of_cell? w _ hw827_0)).trans hw827_0), ((HB.out.cell (World.block_lt_of_cell? w _ hw829_0)).trans hw829_0)⟩ (fun hHeld => ?_)
       clear hK K
       refine nm_ 52 ?_
       refine one_ (i := 13) (N := some 59) ta44 rfl rfl (one_of HT_.out (by kernel_rfl)) (by decide) (fun K hK => ?_)
       refine goes_ Try.func98 (by kernel_rfl) rfl #[.slice A829_0 (rd_L1 l1_0 x5_2).length c829_0, .int .i64 x6_3] (by rfl) rfl rfl zz1 ?_
       with_reducible refine (mizmazetop_times.calls k3 _ _ (rd_L1 l1_0 x5_2) x6_3 t830 _ ?side1 ?side2 A26.out).mono ?_
       (case side1 => repeat (first | exact (Kd.C_below HR829_0.out (bs HB.out)) | (with_reducible refine Kd.C_alloc ?_ _) | (with_reducible refine Kd.C_drewN ?_ _) | (with_reducible refine Kd.C_drew ?_)))
       (case side2 => exact HC829_0.out)
       rintro e w' ⟨rfl, ⟨nd, rfl⟩⟩
       refine ⟨_, rfl, ?_⟩
       refine hK.out _ _ ⟨(blk_cell BK822.out 0).trans rfl, (blk_cell BK823.out 0).trans rfl, ((HB.out.cell (World.block_lt_of_cell? w _ hw827_0)).trans hw827_0), ((HB.out.cell (World.block_lt_of_cell? w _ hw829_0)).trans hw829_0)⟩ (fun hHeld => ?_)
       clear hK K
       refine nm_ 59 ?_
       refine pv_ 14 60 ta45 HT_ ?_
       refine done_ (done_of HT_.out (by kernel_rfl)) ?_
       try go_wp2
       go_roundg k3
       case measure => have := HJ2.out; have := HK2.out; have := HK3.out; omega
       case rel => exact ⟨(wrap64 (x6_3 + 1)), zz3, H', ⟨by have := HJ2.out; have := HK2.out; have := HK3.out; omega⟩, ⟨kb BK822.out⟩, ⟨kb BK823.out⟩, ⟨bs HB.out⟩⟩
end Go.Proofs.Ytjgdalhdiohclaa.Q
end
section
namespace Go.Proofs.Ytjgdalhdiohclaa.Q
attribute [local go_sem] max2_int min2_int max_two min_two max_three min_three max_four min_four
def mizmazetop_right.l0 : Nat → List Int → Int → List (List Int) → Option (Bool)
 | 0, _, _, _ => none
 | k + 1, x1, x5, x832000 => if x5 < (x1.length : Int) then (if 0 ≤ x5 then (if (rd x1 x5) < 0 then (some false) else (if 0 < (x832000.length : Int) then (if (rd x1 x5) ≥ ((rd_L1 x832000 0).length : Int) then (some false) else (mizmazetop_right.l0 k x1 (wrap64 (x5 + 1)) x832000)) else (none))) else (none)) else (some (decide ((x1.length : Int) ≤ 40000)))
def mizmazetop_right.f (k : Nat) (l0_0 : List (List Int)) (l1 : List Int) : Option (Bool) := mizmazetop_right.l0 k l1 0 l0_0
theorem mizmazetop_right.calls (k : Nat) (A0_0 : Option Addr) (c0_0 : Nat) (l0_0 : List (List Int)) (A1 : Option Addr) (c1 : Nat) (l1 : List Int) (r : Bool) (w : World) (hr0_0 : Kd.C (Kd.slice 3 (Kd.int .i64)) w A0_0 l0_0.length l0_0) (hc0_0 : l0_0.length ≤ c0_0) (hr1 : Kd.C (Kd.int .i64) w A1 l1.length l1) (hc1 : l1.length ≤ c1) (h : mizmazetop_right.f k l0_0 l1 = some r) :
  Calls Try.prog 60 #[.agg #[.slice A0_0 l0_0.length c0_0], .slice A1 l1.length c1] w fun e w' => e = .returned (.bool r) ∧ Below w.heap.size w w' := by
 have hu24 := Try.underlying24
 have HR0_0 := am hr0_0
 have HC0_0 := am hc0_0
 clear hr0_0 hc0_0
 have HR1 := am hr1
 have HC1 := am hc1
 clear hr1 hc1
 have HB := am (Below.refl w.heap.size w)
 have H : (mizmazetop_right.l0 k l1 0 l0_0) = some r := h
 clear h
 have H' := am H
 clear H
 go_enter Try.func60, Try.ntmps60
 go_wp2_with (first | ((with_reducible refine gate_dst (N := 2) rfl ?_); (try (refine gate_guard (by rfl) ?_; dsimp only)); refine box_event zz5 (N := 2) zz5 (cs := #[.slice A0_0 l0_0.length c0_0]) (t := 24) zz6 ?_; intro gb831 hg w3 hbox hb; have BK831 := am (hbox); have GW831 := am ((by rw [hg]; exact (below_size (bw HB.out)) : w.heap.size ≤ gb831)); have GE831 := am ((by rw [hg]; exact (below_size (bw HB.out)) : w.heap.size ≤ gb831)); replace HB := am (below_step (bw HB.out) hb); clear hb hbox hg))
 repeat (go_quiet (first | ((with_reducible refine gate_dst (N := 2) rfl ?_); (try (refine gate_guard (by rfl) ?_; dsimp only)); refine box_event zz5 (N := 2) zz5 (cs := #[.slice A0_0 l0_0.length c0_0]) (t := 24) zz6 ?_; intro gb831 hg w3 hbox hb; have BK831 := am (hbox); have GW831 := am ((by rw [hg]; exact (below_size (bw HB.out)) : w.heap.size ≤ gb831)); have GE831 := am ((by rw [hg]; exact (below_size (bw HB.out)) : w.heap.size ≤ gb831)); replace HB := am (below_step (bw HB.out) hb); clear hb hbox hg)); try go_wp2_with (first | ((with_reducible refine gate_dst (N := 2) rfl ?_); (try (refine gate_guard (by rfl) ?_; dsimp only)); refine box_event zz5 (N := 2) zz5 (cs := #[.slice A0_0 l0_0.length c0_0]) (t := 24) zz6 ?_; intro gb831 hg w3 hbox hb; have BK831 := am (hbox); have GW831 := am ((by rw [hg]; exact (below_size (bw HB.out)) : w.heap.size ≤ gb831)); have GE831 := am ((by rw [hg]; exact (below_size (bw HB.out)) : w.heap.size ≤ gb831)); replace HB := am (below_step (bw HB.out) hb); clear hb hbox hg)))
 go_loopg [5] k (fun kq v5 w' => ∃ (x5_1 : Int), v5 = .int .i64 x5_1 ∧ Aside0 (mizmazetop_right.l0 kq l1 x5_1 l0_0 = some r) ∧ Aside0 (kq ≤ k) ∧ Aside0 (w'.heap[gb831]? = some (.cells #[(.slice A0_0 l0_0.length c0_0)] 24 (0, 0))) ∧ Aside0 (Below w.heap.size w w'))
 case atStart => exact ⟨(0), zz3, H', ⟨Nat.le_refl _⟩, ⟨kb BK831.out⟩, ⟨bs HB.out⟩⟩
 case round =>
  clear H'
  (try clear c1); (try clear p2)
  obtain ⟨x5_1, rfl, HA, HK1, BK831, HB⟩ := hrel
  cases gk with
  | zero => exact absurd HA.out (by simp [mizmazetop_right.l0])
  | succ k1 =>
   have H := HA.out
   clear HA
   simp only [mizmazetop_right.l0] at H
   by_cases c4 : x5_1 < (l1.length : Int)
   ·rw [if_pos c4] at H
    have c4b0 : decide (x5_1 < (l1.length : Int)) = true := decide_eq_true c4
    clear c4
    by_cases c5 : 0 ≤ x5_1
    ·rw [if_pos c5] at H
     have c5b0 : decide (0 ≤ x5_1) = true := decide_eq_true c5
     clear c5
     by_cases c6 : (rd l1 x5_1) < 0
     ·rw [if_pos c6] at H
      have c6b0 : decide ((rd l1 x5_1) < 0) = true := decide_eq_true c6
      clear c6
      obtain rfl := Option.some.inj H
      have p832 : 0 ≤ (x5_1 : Int) := od zz2
      have q832 : x5_1 < (l1.length : Int) := od zz2
      obtain ⟨ad832, e832, hx832_0⟩ := Kd.at_int HR1.out x5_1 p832 q832
      cases e832
      replace hx832_0 := (HB.out.cell (World.block_lt_of_cell? w _ hx832_0)).trans hx832_0
      replace p832 := eq_true p832
      replace q832 := eq_true q832
      go_wp2
      repeat (go_quiet (fail); try go_wp2)
      go_ret
      exact ⟨by first | rfl | (simp [errW_none, errW_some] <;> rfl) | (simp [*, errW_none, errW_some] <;> rfl), bs HB.out⟩
     ·rw [if_neg c6] at H
      have c6b0 : decide ((rd l1 x5_1) < 0) = false := decide_eq_false c6
      clear c6
      by_cases c7 : 0 < (l0_0.length : Int)
      ·rw [if_pos c7] at H
       have c7b0 : decide (0 < (l0_0.length : Int)) = true := decide_eq_true c7
       have c7b1 : decide (0 < l0_0.length) = true := decide_eq_true (by omega)
       clear c7
       by_cases c8 : (rd l1 x5_1) ≥ ((rd_L1 l0_0 0).length : Int)
       ·rw [if_pos c8] at H
        have c8b0 : decide (((rd_L1 l0_0 0).length : Int) ≤ (rd l1 x5_1)) = true := decide_eq_true c8
        clear c8
        obtain rfl := Option.some.inj H
        have p832 : 0 ≤ (x5_1 : Int) := od zz2
        have q832 : x5_1 < (l1.length : Int) := od zz2
        obtain ⟨ad832, e832, hx832_0⟩ := Kd.at_int HR1.out x5_1 p832 q832
        cases e832
        replace hx832_0 := (HB.out.cell (World.block_lt_of_cell? w _ hx832_0)).trans hx832_0
        replace p832 := eq_true p832
        replace q832 := eq_true q832
        have p833 : 0 ≤ (x5_1 : Int) := od zz2
        have q833 : x5_1 < (l1.length : Int) := od zz2
        obtain ⟨ad833, e833, hx833_0⟩ := Kd.at_int HR1.out x5_1 p833 q833
        obtain rfl : ad832 = ad833 := (by injection e833)
        replace hx833_0 := (HB.out.cell (World.block_lt_of_cell? w _ hx833_0)).trans hx833_0
        replace p833 := eq_true p833
        replace q833 := eq_true q833
        have hcz9_0 : wr.cell? ⟨gb831, 0, none⟩ = some (.slice A0_0 l0_0.length c0_0) := (blk_cell BK831.out 0).trans rfl
        have hfz9_0 := blk_frozen BK831.out 0
        have p834 : 0 ≤ (0 : Int) := (by omega)
        have q834 : 0 < (l0_0.length : Int) := od zz2
        obtain ⟨ad834, A834_0, c834_0, e834, hx834_0, hl834_0, hi834_0⟩ := at_L1 HR0_0.out 0 p834 q834
        cases e834
        have qi834 : (0 < l0_0.length) = True := eq_true (by omega)
        (try rw [show ((0 : Int)).toNat = 0 from rfl] at hx834_0)
        (try rw [Addr.add_zero'] at hx834_0)
        replace hx834_0 := (HB.out.cell (World.block_lt_of_cell? w _ hx834_0)).trans hx834_0
        have HR834_0 := am hi834_0
        have HC834_0 := am hl834_0
        clear hi834_0 hl834_0
        replace p834 := eq_true p834
        replace q834 := eq_true q834
        go_wp2
        repeat (go_quiet (fail); try go_wp2)
        go_ret
        exact ⟨by first | rfl | (simp [errW_none, errW_some] <;> rfl) | (simp [*, errW_none, errW_some] <;> rfl), bs HB.out⟩
       ·rw [if_neg c8] at H
        have c8b0 : decide (((rd_L1 l0_0 0).length : Int) ≤ (rd l1 x5_1)) = false := decide_eq_false c8
        clear c8
        have H' := am H
        clear H
        have p832 : 0 ≤ (x5_1 : Int) := od zz2
        have q832 : x5_1 < (l1.length : Int) := od zz2
        obtain ⟨ad832, e832, hx832_0⟩ := Kd.at_int HR1.out x5_1 p832 q832
        cases e832
        replace hx832_0 := (HB.out.cell (World.block_lt_of_cell? w _ hx832_0)).trans hx832_0
        replace p832 := eq_true p832
        replace q832 := eq_true q832
        have p833 : 0 ≤ (x5_1 : Int) := od zz2
        have q833 : x5_1 < (l1.length : Int) := od zz2
        obtain ⟨ad833, e833, hx833_0⟩ := Kd.at_int HR1.out x5_1 p833 q833
        obtain rfl : ad832 = ad833 := (by injection e833)
        replace hx833_0 := (HB.out.cell (World.block_lt_of_cell? w _ hx833_0)).trans hx833_0
        replace p833 := eq_true p833
        replace q833 := eq_true q833
        have hcz10_0 : wr.cell? ⟨gb831, 0, none⟩ = some (.slice A0_0 l0_0.length c0_0) := (blk_cell BK831.out 0).trans rfl
        have hfz10_0 := blk_frozen BK831.out 0
        have p834 : 0 ≤ (0 : Int) := (by omega)
        have q834 : 0 < (l0_0.length : Int) := od zz2
        obtain ⟨ad834, A834_0, c834_0, e834, hx834_0, hl834_0, hi834_0⟩ := at_L1 HR0_0.out 0 p834 q834
        cases e834
        have qi834 : (0 < l0_0.length) = True := eq_true (by omega)
        (try rw [show ((0 : Int)).toNat = 0 from rfl] at hx834_0)
        (try rw [Addr.add_zero'] at hx834_0)
        replace hx834_0 := (HB.out.cell (World.block_lt_of_cell? w _ hx834_0)).trans hx834_0
        have HR834_0 := am hi834_0
        have HC834_0 := am hl834_0
        clear hi834_0 hl834_0
        replace p834 := eq_true p834
        replace q834 := eq_true q834
        go_wp2
        repeat (go_quiet (fail); try go_wp2)
        go_roundg k1
        case measure => have := HK1.out; omega
        case rel => exact ⟨(wrap64 (x5_1 + 1)), zz3, H', ⟨by have := HK1.out; omega⟩, ⟨kb BK831.out⟩, ⟨bs HB.out⟩⟩
      ·rw [if_neg c7] at H
       exact absurd H (by simp)
    ·rw [if_neg c5] at H
     exact absurd H (by simp)
   ·rw [if_neg c4] at H
    have c4b0 : decide (x5_1 < (l1.length : Int)) = false := decide_eq_false c4
    clear c4
    obtain rfl := Option.some.inj H
    go_wp2
    repeat (go_quiet (fail); try go_wp2)
    go_ret
    exact ⟨by first | rfl | (simp [errW_none, errW_some] <;> rfl) | (simp [*, errW_none, errW_some] <;> rfl), bs HB.out⟩
end Go.Proofs.Ytjgdalhdiohclaa.Q
end
section
namespace Go.Proofs.Ytjgdalhdiohclaa.Q
attribute [local go_sem] max2_int min2_int max_two min_two max_three min_three max_four min_four
def mizmazetop_joined.l0 : Nat → List (List Int) → List Int → Int → Option (List Int)
 | 0, _, _, _ => none
 | k + 1, x0, x3, x4 => if x4 < (x0.length : Int) then (if 0 ≤ x4 then (if x3.length + (rd_L1 x0 x4).length < 17592186044416 then (mizmazetop_joined.l0 k x0 (x3 ++ (rd_L1 x0 x4)) (wrap64 (x4 + 1))) else (none)) else (none)) else (some x3)
def mizmazetop_joined.f (k : Nat) (l0 : List (List Int)) : Option (List Int) := mizmazetop_joined.l0 k l0 ([] : List Int) 0
theorem mizmazetop_joined.calls (k : Nat) (A0 : Option Addr) (c0 : Nat) (l0 : List (List Int)) (r : List Int) (w : World) (hr0 : Kd.C (Kd.slice 3 (Kd.int .i64)) w A0 l0.length l0) (hc0 : l0.length ≤ c0) (h : mizmazetop_joined.f k l0 = some r) :
  Calls Try.prog 61 #[.slice A0 l0.length c0] w fun e w' => ∃ v0_ : Value, e = .returned (v0_) ∧ Kd.R (Kd.int .i64) 3 w' w.heap.size (fun _ => True) v0_ r ∧ Below w.heap.size w w' := by
 have HR0 := am hr0
 have HC0 := am hc0
 clear hr0 hc0
 have HB := am (Below.refl w.heap.size w)
 have H : (mizmazetop_joined.l0 k l0 ([] : List Int) 0) = some r := h
 clear h
 have H' := am H
 clear H
 go_enter Try.func61, Try.ntmps61
 go_wp2
 go_loopg [3, 4] k (fun kq v3 v4 w' => ∃ (x3_1 : List Int) (x4_1 : Int), v4 = .int .i64 x4_1 ∧ Aside0 (mizmazetop_joined.l0 kq l0 x3_1 x4_1 = some r) ∧ Aside0 (kq ≤ k) ∧ Aside0 (Kd.R (Kd.int .i64) 3 w' w.heap.size (fun _ => True) v3 x3_1) ∧ Aside0 (Below w.heap.size w w'))
 case atStart => exact ⟨(([] : List Int)), (0), zz3, H', ⟨Nat.le_refl _⟩, ⟨by first | exact Kd.R_nil _ _ _ _ _ | exact Kd.N_nil _ _ _ _ _ | exact Kd.V_nil _ _ _ _ _ | exact Kd.Q_nil _ _ _ _ _ | exact Kd.S_nil _ _ _ _ _⟩, ⟨bw HB.out⟩⟩
 case round =>
  clear H'
  obtain ⟨x3_1, x4_1, rfl, HA, HK1, HO_3, HB⟩ := hrel
  cases gk with
  | zero => exact absurd HA.out (by simp [mizmazetop_joined.l0])
  | succ k1 =>
   have H := HA.out
   clear HA
   simp only [mizmazetop_joined.l0] at H
   by_cases c2 : x4_1 < (l0.length : Int)
   ·rw [if_pos c2] at H
    have c2b0 : decide (x4_1 < (l0.length : Int)) = true := decide_eq_true c2
    clear c2
    by_cases c3 : 0 ≤ x4_1
    ·rw [if_pos c3] at H
     have c3b0 : decide (0 ≤ x4_1) = true := decide_eq_true c3
     clear c3
     by_cases c4 : x3_1.length + (rd_L1 l0 x4_1).length < 17592186044416
     ·rw [if_pos c4] at H
      have LMc4 := am c4
      clear c4
      obtain ⟨y836, hy836⟩ : ∃ y_ : List Int, y_ = (x3_1 ++ (rd_L1 l0 x4_1)) := ⟨_, rfl⟩
      replace H : (mizmazetop_joined.l0 k1 l0 y836 (wrap64 (x4_1 + 1))) = some r := by first | (rw [hy836]; with_reducible exact H) | (have H2_ := (Option.bind_some _ _).symm.trans H; rw [hy836]; with_reducible exact H2_) | (have H2_ := (Option.bind_some _ _).symm.trans H; with_reducible exact H2_) | with_reducible exact H | (rw [hy836]; exact H) | exact H
      have Ny836 := am hy836
      clear hy836
      have H' := am H
      clear H
      have p835 : 0 ≤ (x4_1 : Int) := od zz2
      have q835 : x4_1 < (l0.length : Int) := od zz2
      obtain ⟨ad835, A835_0, c835_0, e835, hx835_0, hl835_0, hi835_0⟩ := at_L1 HR0.out x4_1 p835 q835
      cases e835
      replace hx835_0 := (HB.out.cell (World.block_lt_of_cell? w _ hx835_0)).trans hx835_0
      have HR835_0 := am hi835_0
      have HC835_0 := am hl835_0
      clear hi835_0 hl835_0
      replace p835 := eq_true p835
      replace q835 := eq_true q835
      go_wp2_with (first | ((with_reducible refine gate_builtin (b := .append) (xs := #[.tmp 11, .tmp 15]) rfl ?_); at_builtin; refine Kd.R_append_rows (Kd.int .i64) (w0 := w) w.heap.size rfl (.tmp 11) (.tmp 15) 28 3 (.int .i64 0) 8 rfl Try.underlying28 info3 rfl (by decide) (by omega) u3 x3_1 (rd_L1 l0 x4_1) _ _ _ (fun _ => True) (fun _ => False) rfl rfl ?aO ?aR (fun _ _ h => h) (fun _ h => h.elim) ?aF ?aB ?aS ?aL ?_; (case aR => exact kc (Kd.C_below HR835_0.out HB.out)); (case aB => exact (bw HB.out)); (case aF => exact (fun _ _ => trivial)); (case aO => exact (kR HO_3.out)); (case aS => exact (below_size (bw HB.out))); (case aL => have := LMc4.out; omega); intro v837 w5 ho hb hg hat; rw [← Ny836.out] at ho; have n0_ := am (hb); have n1_ := am (ho); clear HB; clear HO_3; have HB := n0_; have HO838 := n1_; clear n0_ n1_; clear ho hb hg hat))
      go_roundg k1
      case measure => have := HK1.out; omega
      case rel => exact ⟨(y836), (wrap64 (x4_1 + 1)), zz3, H', ⟨by have := HK1.out; omega⟩, ⟨kR HO838.out⟩, ⟨bw HB.out⟩⟩
     ·rw [if_neg c4] at H
      exact absurd H (by simp)
    ·rw [if_neg c3] at H
     exact absurd H (by simp)
   ·rw [if_neg c2] at H
    have c2b0 : decide (x4_1 < (l0.length : Int)) = false := decide_eq_false c2
    clear c2
    obtain rfl := Option.some.inj H
    go_wp2
    go_ret
    exact ⟨_, by first | rfl | (simp [errW_none, errW_some] <;> rfl) | (simp [*, errW_none, errW_some] <;> rfl), kR HO_3.out, bw HB.out⟩
end Go.Proofs.Ytjgdalhdiohclaa.Q
end
section
namespace Go.Proofs.Ytjgdalhdiohclaa.Q
attribute [local go_sem] max2_int min2_int max_two min_two max_three min_three max_four min_four
end Go.Proofs.Ytjgdalhdiohclaa.Q
end
section
namespace Go.Proofs.Ytjgdalhdiohclaa.Q
attribute [local go_sem] max2_int min2_int max_two min_two max_three min_three max_four min_four
end Go.Proofs.Ytjgdalhdiohclaa.Q
end
section
namespace Go.Proofs.Ytjgdalhdiohclaa.Q
attribute [local go_sem] max2_int min2_int max_two min_two max_three min_three max_four min_four
end Go.Proofs.Ytjgdalhdiohclaa.Q
end
section
namespace Go.Proofs.Ytjgdalhdiohclaa.Q
attribute [local go_sem] max2_int min2_int max_two min_two max_three min_three max_four min_four
end Go.Proofs.Ytjgdalhdiohclaa.Q
end
section
namespace Go.Proofs.Ytjgdalhdiohclaa.Q
attribute [local go_sem] max2_int min2_int max_two min_two max_three min_three max_four min_four
end Go.Proofs.Ytjgdalhdiohclaa.Q
end
section
namespace Go.Proofs.Ytjgdalhdiohclaa.Q
attribute [local go_sem] max2_int min2_int max_two min_two max_three min_three max_four min_four
end Go.Proofs.Ytjgdalhdiohclaa.Q
end
section
namespace Go.Proofs.Ytjgdalhdiohclaa.Q
attribute [local go_sem] max2_int min2_int max_two min_two max_three min_three max_four min_four
end Go.Proofs.Ytjgdalhdiohclaa.Q
end
section
namespace Go.Proofs.Ytjgdalhdiohclaa.Q
attribute [local go_sem] max2_int min2_int max_two min_two max_three min_three max_four min_four
end Go.Proofs.Ytjgdalhdiohclaa.Q
end
section
namespace Go.Proofs.Ytjgdalhdiohclaa.Q
attribute [local go_sem] max2_int min2_int max_two min_two max_three min_three max_four min_four
end Go.Proofs.Ytjgdalhdiohclaa.Q
end
section
namespace Go.Proofs.Ytjgdalhdiohclaa.Q
attribute [local go_sem] max2_int min2_int max_two min_two max_three min_three max_four min_four
end Go.Proofs.Ytjgdalhdiohclaa.Q
end
section
namespace Go.Proofs.Ytjgdalhdiohclaa.Q
attribute [local go_sem] max2_int min2_int max_two min_two max_three min_three max_four min_four
end Go.Proofs.Ytjgdalhdiohclaa.Q
end
section
namespace Go.Proofs.Ytjgdalhdiohclaa.Q
attribute [local go_sem] max2_int min2_int max_two min_two max_three min_three max_four min_four
end Go.Proofs.Ytjgdalhdiohclaa.Q
end
section
namespace Go.Proofs.Ytjgdalhdiohclaa.Q
attribute [local go_sem] max2_int min2_int max_two min_two max_three min_three max_four min_four
end Go.Proofs.Ytjgdalhdiohclaa.Q
end
section
namespace Go.Proofs.Ytjgdalhdiohclaa.Q
attribute [local go_sem] max2_int min2_int max_two min_two max_three min_three max_four min_four
end Go.Proofs.Ytjgdalhdiohclaa.Q
end
section
namespace Go.Proofs.Ytjgdalhdiohclaa.Q
attribute [local go_sem] max2_int min2_int max_two min_two max_three min_three max_four min_four
end Go.Proofs.Ytjgdalhdiohclaa.Q
end
