/- Part of the proof of TopRoad (text 7 of 33) -/
import Derived.Test.YtjgdalhdiohclaaProg
import Derived.Below
import Derived.Deep.Draws
import Derived.Deep.AppendLies
import Derived.Maps.AppendAt
import Derived.OwnWalk
import Derived.Laws.BytesArg
import Derived.Laws.MakeOwn
import Derived.Laws.OwnMore
import Derived.Deep.OwnRows
import Derived.Tactics
import Derived.Lib.ConvBytes
import Derived.Laws.Slices
import Derived.WalkKit
import Derived.KernelRfl
import Derived.RowKit3
import Derived.Deep.LoopGhost
import Derived.Deep.QuietTactic
import Derived.BigQuiet
import Derived.WideLaws
import Derived.Deep.DeepCutAuto
import Derived.Deep.CutBlock
import Derived.Deep.RegionHeld3
import Derived.Laws.Rows
import Derived.Lib.AppendStr
import Derived.ArgAppend
import Derived.Laws.IdiomCopy
import Derived.OrdersHeld
import Derived.Laws.BitsLemmas
import Derived.RowKit
import Derived.WalkMore
import Derived.Test.YtjgdalhdiohclaaZTopRoada
import Derived.Test.YtjgdalhdiohclaaZTopRoadc
import Derived.Test.YtjgdalhdiohclaaZTopRoadd
import Derived.Test.YtjgdalhdiohclaaZTopRoadf
set_option linter.unusedVariables false
set_option linter.unusedSimpArgs false
set_option linter.unusedSectionVars false
set_option maxRecDepth 100000
set_option maxHeartbeats 8000000
open Go.RowKit Go.Proofs.YtjgdalhdiohclaaW.PrintWords Go.Proofs.YtjgdalhdiohclaaW.PrintLast Go.Proofs.YtjgdalhdiohclaaW.PrintMore
section
namespace Go.Proofs.Ytjgdalhdiohclaa.Q
attribute [local go_sem] max2_int min2_int max_two min_two max_three min_three max_four min_four
def errW : Option Int → Value
 | none => .nilIface
 | some c => .iface 0 (.int .i64 c)
theorem errW_none : errW none = .nilIface := rfl
theorem errW_some (c : Int) : errW (some c) = .iface 0 (.int .i64 c) := rfl
theorem info3 : (Try.prog.info? 3).map (fun i => (i.zero, i.size, i.bytes)) = some (some (.int .i64 0), 1, 8) := by kernel_rfl
theorem info4 : (Try.prog.info? 4).map (fun i => (i.zero, i.size, i.bytes)) = some (some (.bool false), 1, 1) := by kernel_rfl
theorem info22 : (Try.prog.info? 22).map (fun i => (i.zero, i.size, i.bytes)) = some (some (.slice none 0 0), 1, 24) := by kernel_rfl
theorem info28 : (Try.prog.info? 28).map (fun i => (i.zero, i.size, i.bytes)) = some (some (.slice none 0 0), 1, 24) := by kernel_rfl
def rd_L1 (xs : List (List Int)) (i : Int) : (List Int) := xs.getD i.toNat ([] : List Int)
theorem at_L1 {w : World} {A : Option Addr} {n : Nat} {xs : List (List Int)} (h : Kd.C (Kd.slice 3 (Kd.int .i64)) w A n xs) (i : Int) (h0 : 0 ≤ i) (h1 : i < n) : ∃ ad A0 c0, A = some ad ∧ w.cell? (ad.add i.toNat) = some (.slice A0 (rd_L1 xs i).length c0) ∧ (rd_L1 xs i).length ≤ c0 ∧ (Kd.int .i64).C w A0 (rd_L1 xs i).length (rd_L1 xs i) := by
 obtain ⟨ad, c, e, _, hK, hc0⟩ := Kd.C_get h ([] : List Int) i h0 h1
 have hc : ∀ j u, c[j]? = some u → w.cell? (ad.add (i.toNat * 1 + j)) = some u := hc0
 obtain ⟨A0, c0, rfl, l0, g0⟩ := hK
 exact ⟨ad, A0, c0, e, by have hq := hc 0 _ rfl; rwa [Nat.mul_one, Nat.add_zero] at hq, l0, g0⟩
def rd_L2 (xs : List (List (List Int))) (i : Int) : (List (List Int)) := xs.getD i.toNat ([] : List (List Int))
theorem at_L2 {w : World} {A : Option Addr} {n : Nat} {xs : List (List (List Int))} (h : Kd.C (Kd.slice 28 (Kd.slice 3 (Kd.int .i64))) w A n xs) (i : Int) (h0 : 0 ≤ i) (h1 : i < n) : ∃ ad A0 c0, A = some ad ∧ w.cell? (ad.add i.toNat) = some (.slice A0 (rd_L2 xs i).length c0) ∧ (rd_L2 xs i).length ≤ c0 ∧ (Kd.slice 3 (Kd.int .i64)).C w A0 (rd_L2 xs i).length (rd_L2 xs i) := by
 obtain ⟨ad, c, e, _, hK, hc0⟩ := Kd.C_get h ([] : List (List Int)) i h0 h1
 have hc : ∀ j u, c[j]? = some u → w.cell? (ad.add (i.toNat * 1 + j)) = some u := hc0
 obtain ⟨A0, c0, rfl, l0, g0⟩ := hK
 exact ⟨ad, A0, c0, e, by have hq := hc 0 _ rfl; rwa [Nat.mul_one, Nat.add_zero] at hq, l0, g0⟩
structure S24 where
 f0 : (List (List Int))
theorem am {p : Prop} (h : p) : Aside0 p := ⟨h⟩
abbrev pb := @pw_below_drewN
abbrev ba := @below_alloc
abbrev bd := @below_drew1
theorem od {p : Prop} [Decidable p] (h : decide p = true) : p := of_decide_eq_true h
theorem bw {s : Nat} {w W V : World} (h : Below s w W) (e : Below s w W → Below s w V := by intro h_; repeat (first | (with_reducible first | exact h_ | apply below_alloc | apply pw_below_drewN | apply below_drew1) | exact h_)) : Below s w V := e h
theorem bs {s : Nat} {w W V : World} (h : Below s w W) (e : Below s w W → Below s w V := by intro h_; repeat (first | (with_reducible first | exact h_ | apply below_alloc | apply pw_below_drewN | apply below_drew1 | refine below_set ?_ (Aside0.out (by assumption))) | exact h_)) : Below s w V := e h
theorem kb {g : Nat} {o : Obj} {w W : World} (h : w.heap[g]? = some o) (e : w.heap[g]? = some o → W.heap[g]? = some o := by intro h_; (with_reducible repeat (first | refine blk_drewN ?_ _ | refine blk_drew ?_ | refine blk_alloc ?_ _)); exact h_) : W.heap[g]? = some o := e h
theorem kN {α : Type} {d : Kd α} {e : Nat} {w W : World} {base : Nat} {ok : Nat → Prop} {v : Value} {xs : List α} (h : Kd.N d e w base ok v xs) (i : Kd.N d e w base ok v xs → Kd.N d e W base ok v xs := by intro h_; (with_reducible repeat (first | apply Kd.N_alloc | apply Kd.N_drewN | apply Kd.N_drew)); exact h_) : Kd.N d e W base ok v xs := i h
theorem kR {α : Type} {d : Kd α} {e : Nat} {w W : World} {base : Nat} {ok : Nat → Prop} {v : Value} {xs : List α} (h : Kd.R d e w base ok v xs) (i : Kd.R d e w base ok v xs → Kd.R d e W base ok v xs := by intro h_; (with_reducible repeat (first | apply Kd.R_alloc | apply Kd.R_drewN | apply Kd.R_drew)); exact h_) : Kd.R d e W base ok v xs := i h
theorem kS {α : Type} {d : Kd α} {e : Nat} {w W : World} {base : Nat} {ok : Nat → Prop} {v : Value} {xs : List α} (h : Kd.S d e w base ok v xs) (i : Kd.S d e w base ok v xs → Kd.S d e W base ok v xs := by intro h_; (with_reducible repeat (first | apply Kd.S_alloc | apply Kd.S_drewN | apply Kd.S_drew)); exact h_) : Kd.S d e W base ok v xs := i h
theorem zz4 {p : Prop} (h : p := by first | exact ⟨rfl, _, World.drewN_drewN _ _ _⟩ | exact ⟨rfl, _, Eq.trans (World.drewN_drewN _ _ _) (congrArg (World.drewN _) (Nat.add_assoc _ _ _))⟩) : p := h
theorem zz1 {p : Prop} (h : p := by (try simp only [List.map_toArray, List.map_cons, List.map_nil]); first | done | rfl | (simp only [List.length_drop, List.length_take]; rfl)) : p := h
theorem zz2 {p : Prop} (h : p := by first | (with_reducible assumption) | assumption) : p := h
theorem zz3 {p : Prop} (h : p := by first | rfl | (simp; done) | (simp [*]; done)) : p := h
theorem zz5 {p : Prop} (h : p := by rfl) : p := h
theorem zz6 {p : Prop} (h : p := by first | (go_simp; done) | (go_simp; rfl)) : p := h
theorem kc {α : Type} {d : Kd α} {w W : World} {A : Option Addr} {n : Nat} {xs : List α} (h : Kd.C d w A n xs) (e : Kd.C d w A n xs → Kd.C d W A n xs := by intro h_; repeat (first | exact h_ | (with_reducible refine Kd.C_alloc ?_ _) | (with_reducible refine Kd.C_drewN ?_ _) | (with_reducible refine Kd.C_drew ?_))) : Kd.C d W A n xs := e h
end Go.Proofs.Ytjgdalhdiohclaa.Q
end
section
namespace Go.Proofs.Ytjgdalhdiohclaa.Q
section
variable {P : Program} {md : Region.Mode} {ops : Array Oper} {Q : Exit → Act → World → Prop} {S : World → Prop} {ds : List Nat} {T : Bool × List (List Nat × List Nat)} {B : List Nat}
variable {oi : Oper} {v : Value} {fuel : Nat} {l : Array Bool} {a a' : Act} {w : World}
theorem pv_ (i n : Nat) (l' : Array Bool) (hT : Aside0 (rtab md ops = T)) (h : wpAnyLast P md ops Q S ds fuel l' a' w) (hi : ops[i]? = some oi := by exact rfl) (hN : oi.dst = some n := by exact rfl) (hc : anyT T l.toList l'.toList i = true := by kernel_rfl)
  (hQ : ∀ c a w, Q (.panic c) (a.put oi.dst v) w → Q (.panic c) a w := by exact fun _ _ _ h => h) (hy : Yields P ops oi v a := by exact Or.inl ⟨by rfl, by intro w'; go_simp; with_reducible rfl⟩)
  (ha : a.put (some n) v = a' := by simp only [Act.put, List.setIfInBounds_toArray, List.set_cons_zero, List.set_cons_succ, i64_w, i32_w]; rfl) : wpAnyLast P md ops Q S ds (fuel + 1) l a w :=
 pure_ l' hi hN (any_of hT.out hc) hQ hy ha h
theorem pu_ (i n : Nat) (l' : Array Bool) (hT : Aside0 (rtab md ops = T)) (h : wpAnyLast P md ops Q S ds fuel l' a' w) (hi : ops[i]? = some oi := by exact rfl) (hN : oi.dst = some n := by exact rfl) (hc : anyT T l.toList l'.toList i = true := by kernel_rfl)
  (hQ : ∀ c a w, Q (.panic c) (a.put oi.dst undef) w → Q (.panic c) a w := by exact fun _ _ _ h => h) (hy : Yields P ops oi undef a := by exact Or.inr ⟨by rfl, rfl⟩)
  (ha : a.put (some n) undef = a' := by simp only [Act.put, List.setIfInBounds_toArray, List.set_cons_zero, List.set_cons_succ, i64_w, i32_w]; rfl) : wpAnyLast P md ops Q S ds (fuel + 1) l a w :=
 pure_ l' hi hN (any_of hT.out hc) hQ hy ha h
theorem tv_ (i n : Nat) (l' : Array Bool) (hT : Aside0 (rtab md ops = T)) (hW : Aside0 (waitsOk T.2 B = true)) (hS : S w) (h : wpAnyLast P md ops Q S ds fuel l' a' w) (hi : ops[i]? = some oi := by exact rfl) (hN : oi.dst = some n := by exact rfl) (hc : takeW T B ds l.toList l'.toList i = true := by kernel_rfl)
  (hQ : ∀ c a w, Q (.panic c) (a.put oi.dst v) w → Q (.panic c) a w := by exact fun _ _ _ h => h) (hy : YieldsIf P ops S oi v a := by exact Or.inl ⟨by rfl, by intro w' s0; go_simp; with_reducible rfl⟩)
  (ha : a.put (some n) v = a' := by simp only [Act.put, List.setIfInBounds_toArray, List.set_cons_zero, List.set_cons_succ, i64_w, i32_w]; rfl) : wpAnyLast P md ops Q S ds (fuel + 1) l a w :=
 take_ l' hi hN (take_ofW hT.out hW.out hc) hQ hy hS ha h
theorem nm_ (n : Nat) (h : wpAnyLast P md ops Q S ds fuel l a' w) (ha : a.put (some n) v = a' := by simp only [Act.put, List.setIfInBounds_toArray, List.set_cons_zero, List.set_cons_succ, i64_w, i32_w]; rfl) : wpAnyLast P md ops Q S ds fuel l (a.put (some n) v) w := by
 subst ha
 exact h
end
end Go.Proofs.Ytjgdalhdiohclaa.Q
end
section
namespace Go.Proofs.Ytjgdalhdiohclaa.Q
attribute [local go_sem] max2_int min2_int max_two min_two max_three min_three max_four min_four
def color_count.l0 : Nat → Int → List (List (List Int)) → Int → Int → Option (Int × Bool)
 | 0, _, _, _, _ => none
 | k + 1, x4, x7, x8, x9 => if x9 < x8 then (if 0 ≤ x9 then (if x9 < (x7.length : Int) then (if ((rd_L2 x7 x9).length : Int) = 0 then (none) else (if x4 > (wrap64 ((1152921504606846976 : Int) / ((rd_L2 x7 x9).length : Int))) then (some (0, false)) else (color_count.l0 k (wrap64 (x4 * ((rd_L2 x7 x9).length : Int))) x7 x8 (wrap64 (x9 + 1))))) else (none)) else (none)) else (some (x4, true))
def color_count.f (k : Nat) (l0 : List (List (List Int))) : Option (Int × Bool) := color_count.l0 k 1 l0 (l0.length : Int) 0
theorem color_count.mono_l : ∀ k, (∀ y0 y1 y2 y3, LeO (color_count.l0 k y0 y1 y2 y3) (color_count.l0 (k + 1) y0 y1 y2 y3))
 | 0 => fun _ _ _ _ r h => by simp [color_count.l0] at h
 | k + 1 => by
  have ih0 := color_count.mono_l k
  ·intro y0 y1 y2 y3
   unfold color_count.l0
   with_reducible repeat' first | exact ih0 _ _ _ _ | exact LeO.refl _ | exact LeO.none _ | refine LeO.ite ?_ ?_ | refine LeO.bind ?_ (fun _ => ?_)
theorem color_count.mono : ∀ a0 k, LeO (color_count.f k a0) (color_count.f (k + 1) a0) := by
 intro a0 k
 have ih0 := color_count.mono_l k
 unfold color_count.f
 with_reducible repeat' first | exact ih0 _ _ _ _ | exact LeO.refl _ | exact LeO.none _ | refine LeO.ite ?_ ?_ | refine LeO.bind ?_ (fun _ => ?_)
theorem color_count.calls (k : Nat) (A0 : Option Addr) (c0 : Nat) (l0 : List (List (List Int))) (r1 : Int) (r2 : Bool) (w : World) (hr0 : Kd.C (Kd.slice 28 (Kd.slice 3 (Kd.int .i64))) w A0 l0.length l0) (hc0 : l0.length ≤ c0) (h : color_count.f k l0 = some (r1, r2)) :
  Calls Try.prog 85 #[.slice A0 l0.length c0] w fun e w' => e = .returned (.tuple #[.int .i64 r1, .bool r2]) ∧ Drawn0 w w' := by
 have HR0 := am hr0
 have HC0 := am hc0
 clear hr0 hc0
 have H : (color_count.l0 k 1 l0 (l0.length : Int) 0) = some (r1, r2) := h
 clear h
 have H' := am H
 clear H
 go_enter Try.func85, Try.ntmps85
 go_wp2
 go_loopg [4, 9] k (fun kq v4 v9 w' => ∃ (x4_1 : Int) (x9_1 : Int), v4 = .int .i64 x4_1 ∧ v9 = .int .i64 x9_1 ∧ Aside0 (color_count.l0 kq x4_1 l0 (l0.length : Int) x9_1 = some (r1, r2)) ∧ Aside0 (kq ≤ k) ∧ Drawn0 w w')
 case atStart => exact ⟨(1), (0), zz3, zz3, H', ⟨Nat.le_refl _⟩, by repeat (first | exact Drawn0.refl _ | apply Drawn0.step)⟩
 case round =>
  clear H'
  obtain ⟨x4_1, x9_1, rfl, rfl, HA, HK1, ⟨m1, rfl⟩⟩ := hrel
  cases gk with
  | zero => exact absurd HA.out (by simp [color_count.l0])
  | succ k1 =>
   have H := HA.out
   clear HA
   simp only [color_count.l0] at H
   by_cases c2 : x9_1 < (l0.length : Int)
   ·rw [if_pos c2] at H
    have c2b0 : decide (x9_1 < (l0.length : Int)) = true := decide_eq_true c2
    clear c2
    by_cases c3 : 0 ≤ x9_1
    ·rw [if_pos c3] at H
     have c3b0 : decide (0 ≤ x9_1) = true := decide_eq_true c3
     clear c3
     by_cases c4 : x9_1 < (l0.length : Int)
     ·rw [if_pos c4] at H
      have c4b0 : decide (x9_1 < (l0.length : Int)) = true := decide_eq_true c4
      clear c4
      by_cases c5 : ((rd_L2 l0 x9_1).length : Int) = 0
      ·rw [if_pos c5] at H
       exact absurd H (by simp)
      ·rw [if_neg c5] at H
       have c5b0 : (((rd_L2 l0 x9_1).length : Int) == 0) = false := beq_eq_false_iff_ne.mpr c5
       have c5b1 : (((rd_L2 l0 x9_1).length : Int) != 0) = true := bne_iff_ne.mpr c5
       have c5b2 : ¬ ((rd_L2 l0 x9_1) = []) := fun h_ => c5 (by rw [h_]; rfl)
       by_cases c6 : x4_1 > (wrap64 ((1152921504606846976 : Int) / ((rd_L2 l0 x9_1).length : Int)))
       ·rw [if_pos c6] at H
        have c6b0 : decide ((wrap64 ((1152921504606846976 : Int) / ((rd_L2 l0 x9_1).length : Int))) < x4_1) = true := decide_eq_true c6
        rw [show wrap64 ((1152921504606846976 : Int) / ((rd_L2 l0 x9_1).length : Int)) = (1152921504606846976 : Int) / ((rd_L2 l0 x9_1).length : Int) from (by have h1_ : (0 : Int) ≤ (1152921504606846976 : Int) / ((rd_L2 l0 x9_1).length : Int) := Int.ediv_nonneg (by decide) (Int.natCast_nonneg _); have h2_ : (1152921504606846976 : Int) / ((rd_L2 l0 x9_1).length : Int) ≤ 1152921504606846976 := Int.ediv_le_self _ (by decide); generalize (1152921504606846976 : Int) / ((rd_L2 l0 x9_1).length : Int) = q_ at h1_ h2_ ⊢; unfold wrap64; omega)] at c6b0
        clear c6
        simp only [Option.some.injEq, Prod.mk.injEq] at H
        obtain ⟨rfl, rfl⟩ := H
        have p297 : 0 ≤ (x9_1 : Int) := od zz2
        have q297 : x9_1 < (l0.length : Int) := od zz2
        obtain ⟨ad297, A297_0, c297_0, e297, hx297_0, hl297_0, hi297_0⟩ := at_L2 HR0.out x9_1 p297 q297
        cases e297
        have HR297_0 := am hi297_0
        have HC297_0 := am hl297_0
        clear hi297_0 hl297_0
        replace p297 := eq_true p297
        replace q297 := eq_true q297
        go_wp2
        go_ret2
        exact ⟨by first | rfl | (simp; done) | (simp [*]; done), by repeat (first | exact Drawn0.refl _ | apply Drawn0.step)⟩
       ·rw [if_neg c6] at H
        have c6b0 : decide ((wrap64 ((1152921504606846976 : Int) / ((rd_L2 l0 x9_1).length : Int))) < x4_1) = false := decide_eq_false c6
        rw [show wrap64 ((1152921504606846976 : Int) / ((rd_L2 l0 x9_1).length : Int)) = (1152921504606846976 : Int) / ((rd_L2 l0 x9_1).length : Int) from (by have h1_ : (0 : Int) ≤ (1152921504606846976 : Int) / ((rd_L2 l0 x9_1).length : Int) := Int.ediv_nonneg (by decide) (Int.natCast_nonneg _); have h2_ : (1152921504606846976 : Int) / ((rd_L2 l0 x9_1).length : Int) ≤ 1152921504606846976 := Int.ediv_le_self _ (by decide); generalize (1152921504606846976 : Int) / ((rd_L2 l0 x9_1).length : Int) = q_ at h1_ h2_ ⊢; unfold wrap64; omega)] at c6b0
        clear c6
        have H' := am H
        clear H
        have p297 : 0 ≤ (x9_1 : Int) := od zz2
        have q297 : x9_1 < (l0.length : Int) := od zz2
        obtain ⟨ad297, A297_0, c297_0, e297, hx297_0, hl297_0, hi297_0⟩ := at_L2 HR0.out x9_1 p297 q297
        cases e297
        have HR297_0 := am hi297_0
        have HC297_0 := am hl297_0
        clear hi297_0 hl297_0
        replace p297 := eq_true p297
        replace q297 := eq_true q297
        go_wp2
        go_roundg k1
        case measure => have := HK1.out; omega
        case rel => exact ⟨(wrap64 (x4_1 * ((rd_L2 l0 x9_1).length : Int))), (wrap64 (x9_1 + 1)), zz3, zz3, H', ⟨by have := HK1.out; omega⟩, by repeat (first | exact Drawn0.refl _ | apply Drawn0.step)⟩
     ·rw [if_neg c4] at H
      exact absurd H (by simp)
    ·rw [if_neg c3] at H
     exact absurd H (by simp)
   ·rw [if_neg c2] at H
    have c2b0 : decide (x9_1 < (l0.length : Int)) = false := decide_eq_false c2
    clear c2
    simp only [Option.some.injEq, Prod.mk.injEq] at H
    obtain ⟨rfl, rfl⟩ := H
    go_wp2
    go_ret2
    exact ⟨by first | rfl | (simp; done) | (simp [*]; done), by repeat (first | exact Drawn0.refl _ | apply Drawn0.step)⟩
end Go.Proofs.Ytjgdalhdiohclaa.Q
end
section
namespace Go.Proofs.Ytjgdalhdiohclaa.Q
def findTo {α : Type} (p : α → Bool) (l : List α) : Int := match l.findIdx? p with | some i => (i : Int) | none => -1
theorem findTo_any {α : Type} (p : α → Bool) (l : List α) : decide (0 ≤ findTo p l) = l.any p := by
 unfold findTo
 cases h : l.findIdx? p with
 | none => rw [List.findIdx?_eq_none_iff] at h; simp; simpa using h
 | some i =>
  obtain ⟨h1, h2, _⟩ := List.findIdx?_eq_some_iff_getElem.1 h
  simp; exact ⟨_, List.getElem_mem h1, h2⟩
def NoneTo {α : Type} (p : α → Bool) (l : List α) (d : α) (x : Int) : Prop := ∀ j : Nat, (j : Int) < x → p (l.getD j d) = false
theorem NoneTo.zero {α : Type} (p : α → Bool) (l : List α) (d : α) : NoneTo p l d 0 := fun j h => by omega
theorem NoneTo.succ {α : Type} {p : α → Bool} {l : List α} {d : α} {x : Int} (h : NoneTo p l d x) (h0 : 0 ≤ x) (hp : p (l.getD x.toNat d) = false) : NoneTo p l d (x + 1) := fun j hj => by
 by_cases e : (j : Int) = x
 ·have : j = x.toNat := by omega
  rw [this]; exact hp
 ·exact h j (by omega)
theorem findTo_at {α : Type} {p : α → Bool} {l : List α} {d : α} {x : Int} (h : NoneTo p l d x) (h0 : 0 ≤ x) (hx : x < l.length) (hp : p (l.getD x.toNat d) = true) : findTo p l = x := by
 have : l.findIdx? p = some x.toNat := by
  rw [List.findIdx?_eq_some_iff_getElem]
  refine ⟨by omega, ?_, fun j hj => ?_⟩
  ·rw [List.getD_eq_getElem?_getD, List.getElem?_eq_getElem (by omega)] at hp; exact hp
  ·have := h j (by omega)
   rw [List.getD_eq_getElem?_getD, List.getElem?_eq_getElem (by omega)] at this
   simpa using this
 unfold findTo; rw [this]; simp; omega
theorem findTo_none {α : Type} {p : α → Bool} {l : List α} {d : α} {x : Int} (h : NoneTo p l d x) (hx : (l.length : Int) ≤ x) : findTo p l = -1 := by
 have : l.findIdx? p = none := by
  rw [List.findIdx?_eq_none_iff]
  intro a ha
  obtain ⟨j, hj, rfl⟩ := List.getElem_of_mem ha
  have := h j (by omega)
  rw [List.getD_eq_getElem?_getD, List.getElem?_eq_getElem (by omega)] at this
  exact this
 unfold findTo; rw [this]
def outB (n x : Int) : Bool := decide (x < 0 ∨ n ≤ x)
def inB (n : Int) (l : List Int) : Bool := l.all fun x => decide (0 ≤ x ∧ x < n)
theorem inB_eq (n : Int) (l : List Int) : inB n l = !l.any (outB n) := by
 unfold inB outB
 induction l with
 | nil => rfl
 | cons a l ih =>
  rw [List.all_cons, List.any_cons, ih, Bool.not_or]
  congr 1
  by_cases h1 : a < 0 <;> by_cases h2 : n ≤ a <;> simp_all <;> omega
theorem within1_calls (x n : Int) (g : Nat) (w : World) (hg : w.cell? ⟨g, 0, none⟩ = some (.int .i64 n)) :
  Calls Try.prog 116 #[.int .i64 x, .pointer (some ⟨g, 0, none⟩)] w fun e w' => e = .returned (.bool (outB n x)) ∧ w = w' := by
 by_cases h : x < 0
 ·go_enter Try.func116, Try.ntmps116
  go_wp2
  go_ret
  exact ⟨by simp [h, outB], rfl⟩
 ·go_enter Try.func116, Try.ntmps116
  go_wp2
  go_ret
  exact ⟨by simp [outB]; omega, rfl⟩
theorem wrap_in {x : Int} {n : Nat} (h0 : 0 ≤ x) (h : x < (n : Int)) (hn : n ≤ 9223372036854775807) : wrap64 (x + 1) = x + 1 := by
 unfold wrap64
 omega
theorem index1_calls (F : Nat) (caps : Array Value) (p : Int → Bool) (A : Option Addr) (c : Nat) (l : List Int) (w : World)
  (hr : Kd.C (Kd.int .i64) w A l.length l) (hc : l.length ≤ c)
  (hcall : ∀ a w, Sem.run Try.prog (callFunc F a) w = .ok (.enter F a) w)
  (hp : ∀ x, Calls Try.prog F (#[.int .i64 x] ++ caps) w fun e w' => e = .returned (.bool (p x)) ∧ w = w') :
  Calls Try.prog 133 #[.slice A l.length c, .func (.func F) #[] caps] w fun e w' => e = .returned (.int .i64 (findTo p l)) ∧ w = w' := by
 have hm : l.length ≤ 9223372036854775807 := hr.2.1
 have HP := am hp
 clear hp
 go_enter Try.func133, Try.ntmps133
 go_wp2
 go_loop [8] (fun i => ∃ x : Int, 0 ≤ x ∧ x ≤ l.length ∧ i = .int .i64 x ∧ Aside0 (NoneTo p l 0 x)) (fun i => l.length - (intOf i).toNat)
 case atStart => exact ⟨0, by omega, by omega, rfl, ⟨NoneTo.zero _ _ _⟩⟩
 case round =>
  obtain ⟨x, h0, h1, rfl, HA⟩ := hrel
  by_cases hlt : x < l.length
  ·obtain ⟨ad, e, hx⟩ := Kd.at_int hr x h0 hlt
   cases e
   have c3 : decide (x < (l.length : Int)) = true := decide_eq_true hlt
   have k0 := am h0
   have k1 := am hlt
   replace h0 := eq_true h0
   replace hlt := eq_true hlt
   clear hr hc
   cases hpx : p (rd l x) with
   | true =>
    have HF := am (findTo_at HA.out k0.out k1.out hpx)
    have HPX := am hpx
    clear hpx
    go_wp2_with (refine ((HP.out _).mono ?_); rintro e w' ⟨rfl, rfl⟩; rw [HPX.out])
    go_ret
    exact ⟨by rw [HF.out]; rfl, rfl⟩
   | false =>
    have HF := am (NoneTo.succ HA.out k0.out hpx)
    have HPX := am hpx
    clear hpx
    go_wp2_with (refine ((HP.out _).mono ?_); rintro e w' ⟨rfl, rfl⟩; rw [HPX.out])
    go_round
    case rel => exact ⟨x + 1, by have := k0.out; omega, by have := k1.out; omega, by rw [wrap_in k0.out k1.out hm], HF⟩
    case measure => have := k0.out; have := k1.out; rw [wrap_in k0.out k1.out hm]; simp [intOf]; omega
  ·have HF := am (findTo_none HA.out (by omega))
   go_wp2
   go_ret
   exact ⟨by rw [HF.out]; rfl, rfl⟩
theorem contains1_calls (F : Nat) (caps : Array Value) (p : Int → Bool) (A : Option Addr) (c : Nat) (l : List Int) (w : World)
  (hr : Kd.C (Kd.int .i64) w A l.length l) (hc : l.length ≤ c)
  (hcall : ∀ a w, Sem.run Try.prog (callFunc F a) w = .ok (.enter F a) w)
  (hp : ∀ x, Calls Try.prog F (#[.int .i64 x] ++ caps) w fun e w' => e = .returned (.bool (p x)) ∧ w = w') :
  Calls Try.prog 115 #[.slice A l.length c, .func (.func F) #[] caps] w fun e w' => e = .returned (.bool (l.any p)) ∧ w = w' := by
 have HC := am (index1_calls F caps p A c l w hr hc hcall hp)
 clear hp hcall hr hc
 go_enter Try.func115, Try.ntmps115
 go_wp2_with (refine (HC.out.mono ?_); rintro e w' ⟨rfl, rfl⟩)
 go_ret
 exact ⟨by rw [← findTo_any]; rfl, rfl⟩
theorem call116 (a : Array Value) (w : World) : Sem.run Try.prog (callFunc 116 a) w = .ok (.enter 116 a) w := by
 go_simp
theorem within_calls (n : Int) (A : Option Addr) (c : Nat) (l : List Int) (w : World)
  (hr : Kd.C (Kd.int .i64) w A l.length l) (hc : l.length ≤ c) :
  Calls Try.prog 101 #[.slice A l.length c, .int .i64 n] w fun e w' => e = .returned (.bool (inB n l)) ∧ Below w.heap.size w w' := by
 have hB := ba (Below.refl w.heap.size w) (.cells #[.int .i64 n] 3)
 have HC := am (contains1_calls 116 #[.pointer (some ⟨w.heap.size, 0, none⟩)] (outB n) A c l (w.alloc (.cells #[.int .i64 n] 3)) (Kd.C_below hr hB) hc call116
  (fun x => within1_calls x n w.heap.size _ (by simp)))
 clear hr hc
 have HB := am hB
 clear hB
 go_enter Try.func101, Try.ntmps101
 go_wp2_with (refine (HC.out.mono ?_); rintro e w' ⟨rfl, rfl⟩)
 go_ret
 exact ⟨by rw [inB_eq]; rfl, HB.out⟩
end Go.Proofs.Ytjgdalhdiohclaa.Q
end
section
namespace Go.Proofs.Ytjgdalhdiohclaa.Q
def badB (k n : Int) (row : List Int) : Bool := decide ((row.length : Int) ≠ k) || !inB n row
theorem valid1_calls (k n : Int) (K B : Nat) (A A2 : Option Addr) (c c2 m : Nat) (row : List Int) (w : World)
  (hr : Kd.C (Kd.int .i64) w A row.length row) (hc : row.length ≤ c) (hk : w.cell? ⟨K, 0, none⟩ = some (.int .i64 k))
  (hb : w.cell? ⟨B, 0, none⟩ = some (.slice A2 m c2)) (hn : n = m) :
  Calls Try.prog 100 #[.slice A row.length c, .pointer (some ⟨K, 0, none⟩), .pointer (some ⟨B, 0, none⟩)] w fun e w' => e = .returned (.bool (badB k n row)) ∧ Below w.heap.size w w' := by
 subst hn
 have HC := am (within_calls (m : Int) A c row w hr hc)
 clear hr hc
 by_cases h : (row.length : Int) = k
 ·have h1 : ((row.length : Int) != k) = false := bne_eq_false_iff_eq.mpr h
  have HK := am h
  clear h
  go_enter Try.func100, Try.ntmps100
  go_wp2_with (refine (HC.out.mono ?_); rintro e w' ⟨rfl, hb'⟩; have HB := am hb'; clear hb')
  go_ret
  exact ⟨by simp [badB, HK.out], HB.out⟩
 ·have h1 : ((row.length : Int) != k) = true := bne_iff_ne.mpr h
  have HK := am h
  clear h
  go_enter Try.func100, Try.ntmps100
  go_wp2
  go_ret
  exact ⟨by simp [badB, HK.out], Below.refl _ _⟩
theorem index2_calls (F : Nat) (caps : Array Value) (p : List Int → Bool) (A : Option Addr) (c : Nat) (l : List (List Int)) (w : World)
  (hr : Kd.C (Kd.slice 3 (Kd.int .i64)) w A l.length l) (hc : l.length ≤ c)
  (hcall : ∀ a w, Sem.run Try.prog (callFunc F a) w = .ok (.enter F a) w)
  (hp : ∀ W A c row, Below w.heap.size w W → Kd.C (Kd.int .i64) W A row.length row → row.length ≤ c → Calls Try.prog F (#[.slice A row.length c] ++ caps) W fun e w' => e = .returned (.bool (p row)) ∧ Below W.heap.size W w') :
  Calls Try.prog 114 #[.slice A l.length c, .func (.func F) #[] caps] w fun e w' => e = .returned (.int .i64 (findTo p l)) ∧ Below w.heap.size w w' := by
 have hm : l.length ≤ 9223372036854775807 := hr.2.1
 have HP := am hp
 have HR := am hr
 clear hp hr hc
 go_enter Try.func114, Try.ntmps114
 go_wp2
 go_loopw [8] (fun i wr => ∃ x : Int, 0 ≤ x ∧ x ≤ l.length ∧ i = .int .i64 x ∧ Aside0 (NoneTo p l [] x) ∧ Aside0 (Below w.heap.size w wr)) (fun i _ => l.length - (intOf i).toNat)
 case atStart => exact ⟨0, by omega, by omega, rfl, ⟨NoneTo.zero _ _ _⟩, ⟨Below.refl _ _⟩⟩
 case round =>
  obtain ⟨x, h0, h1, rfl, HA, HB⟩ := hrel
  rename_i wr
  by_cases hlt : x < l.length
  ·obtain ⟨ad, A0, c0, e, hx, hl0, hg0⟩ := at_L1 (Kd.C_below HR.out HB.out) x h0 hlt
   cases e
   have c3 : decide (x < (l.length : Int)) = true := decide_eq_true hlt
   have k0 := am h0
   have k1 := am hlt
   have HQ := am (HP.out wr A0 c0 (rd_L1 l x) HB.out hg0 hl0)
   replace h0 := eq_true h0
   replace hlt := eq_true hlt
   clear hl0 hg0
   cases hpx : p (rd_L1 l x) with
   | true =>
    have HF := am (findTo_at HA.out k0.out k1.out hpx)
    have HPX := am hpx
    clear hpx
    go_wp2_with (refine (HQ.out.mono ?_); rintro e w' ⟨rfl, hb'⟩; have HB2 := am hb'; clear hb'; rw [HPX.out])
    go_ret
    exact ⟨by rw [HF.out]; rfl, below_step HB.out HB2.out⟩
   | false =>
    have HF := am (NoneTo.succ HA.out k0.out hpx)
    have HPX := am hpx
    clear hpx
    go_wp2_with (refine (HQ.out.mono ?_); rintro e w' ⟨rfl, hb'⟩; have HB2 := am hb'; clear hb'; rw [HPX.out])
    go_roundw
    case rel => exact ⟨x + 1, by have := k0.out; omega, by have := k1.out; omega, by rw [wrap_in k0.out k1.out hm], HF, ⟨below_step HB.out HB2.out⟩⟩
    case measure => have := k0.out; have := k1.out; rw [wrap_in k0.out k1.out hm]; simp [intOf]; omega
  ·have HF := am (findTo_none HA.out (by omega))
   go_wp2
   go_ret
   exact ⟨by rw [HF.out]; rfl, HB.out⟩
theorem contains2_calls (F : Nat) (caps : Array Value) (p : List Int → Bool) (A : Option Addr) (c : Nat) (l : List (List Int)) (w : World)
  (hr : Kd.C (Kd.slice 3 (Kd.int .i64)) w A l.length l) (hc : l.length ≤ c)
  (hcall : ∀ a w, Sem.run Try.prog (callFunc F a) w = .ok (.enter F a) w)
  (hp : ∀ W A c row, Below w.heap.size w W → Kd.C (Kd.int .i64) W A row.length row → row.length ≤ c → Calls Try.prog F (#[.slice A row.length c] ++ caps) W fun e w' => e = .returned (.bool (p row)) ∧ Below W.heap.size W w') :
  Calls Try.prog 99 #[.slice A l.length c, .func (.func F) #[] caps] w fun e w' => e = .returned (.bool (l.any p)) ∧ Below w.heap.size w w' := by
 have HC := am (index2_calls F caps p A c l w hr hc hcall hp)
 clear hp hcall hr hc
 go_enter Try.func99, Try.ntmps99
 go_wp2_with (refine (HC.out.mono ?_); rintro e w' ⟨rfl, hb'⟩; have HB2 := am hb'; clear hb')
 go_ret
 exact ⟨by rw [← findTo_any]; rfl, HB2.out⟩
theorem call100 (a : Array Value) (w : World) : Sem.run Try.prog (callFunc 100 a) w = .ok (.enter 100 a) w := by
 go_simp
def kOf (l : List (List Int)) : Int := (rd_L1 l 0).length
def validB (l : List (List Int)) : Bool := decide (1 ≤ l.length ∧ l.length ≤ 60 ∧ 1 ≤ kOf l ∧ kOf l ≤ 6) && !l.any (badB (kOf l) l.length)
def auto_Valid.f (l0_0 : List (List Int)) : Option Bool := some (validB l0_0)
theorem auto_Valid.calls (A0_0 : Option Addr) (c0_0 : Nat) (l0_0 : List (List Int)) (r : Bool) (w : World) (hr0_0 : Kd.C (Kd.slice 3 (Kd.int .i64)) w A0_0 l0_0.length l0_0) (hc0_0 : l0_0.length ≤ c0_0) (h : auto_Valid.f l0_0 = some r) :
  Calls Try.prog 63 #[.agg #[.slice A0_0 l0_0.length c0_0]] w fun e w' => e = .returned (.bool r) ∧ Below w.heap.size w w' := by
 obtain rfl := Option.some.inj h
 clear h
 have hm : l0_0.length ≤ 9223372036854775807 := hr0_0.2.1
 by_cases h1 : l0_0.length < 1
 ·have h1' : decide ((l0_0.length : Int) < 1) = true := decide_eq_true (by omega)
  have HV : validB l0_0 = false := by unfold validB; rw [decide_eq_false (by omega)]; rfl
  rw [HV]
  have h1'' := am h1
  clear h1 HV hr0_0 hc0_0
  go_enter Try.func63, Try.ntmps63
  go_wp2
  go_ret
  exact ⟨rfl, by repeat (first | exact Below.refl _ _ | apply ba)⟩
 by_cases h2 : 60 < l0_0.length
 ·have h1' : decide ((l0_0.length : Int) < 1) = false := decide_eq_false (by omega)
  have h2' : decide (60 < (l0_0.length : Int)) = true := decide_eq_true (by omega)
  have HV : validB l0_0 = false := by unfold validB; rw [decide_eq_false (by omega)]; rfl
  rw [HV]
  clear h1 h2 HV hr0_0 hc0_0
  go_enter Try.func63, Try.ntmps63
  go_wp2
  go_ret
  exact ⟨rfl, by repeat (first | exact Below.refl _ _ | apply ba)⟩
 obtain ⟨ad, A0, c0, e, hx, hl0, hg0⟩ := at_L1 hr0_0 0 (by omega) (by omega)
 cases e
 have h1' : decide ((l0_0.length : Int) < 1) = false := decide_eq_false (by omega)
 have h2' : decide (60 < (l0_0.length : Int)) = false := decide_eq_false (by omega)
 have hpos : 0 < l0_0.length := by omega
 have hx' : w.cell? ad = some (.slice A0 (rd_L1 l0_0 0).length c0) := (by simpa [Addr.add] using hx)
 clear hx
 obtain ⟨kk, hkk⟩ : ∃ kk, kk = (rd_L1 l0_0 0).length := ⟨_, rfl⟩
 have hkm : kk ≤ 9223372036854775807 := hkk ▸ hg0.2.1
 rw [← hkk] at hx' hl0
 have hx'' : (w.alloc (.cells #[.slice (some ad) l0_0.length c0_0] 24)).cell? ad = some (.slice A0 kk c0) := pw_cell_below (ba (Below.refl _ _) _) hx'
 have HKK := am hkk
 clear hkk hg0 hl0
 have HR := am hr0_0
 clear hr0_0
 by_cases k1 : 1 ≤ (kk : Int)
 ·by_cases k2 : (kk : Int) ≤ 6
  ·have k1' : decide (1 ≤ (kk : Int)) = true := decide_eq_true k1
   have k2' : decide ((kk : Int) ≤ 6) = true := decide_eq_true k2
   have HV : validB l0_0 = !l0_0.any (badB (kk : Int) l0_0.length) := by
    unfold validB kOf; rw [← HKK.out, decide_eq_true (by omega)]; rfl
   rw [HV]
   have hB := am (ba (ba (Below.refl w.heap.size w) (.cells #[.slice (some ad) l0_0.length c0_0] 24)) (.cells #[.int .i64 (kk : Int)] 3))
   have HC := am (contains2_calls 100 #[.pointer (some ⟨w.heap.size + 1, 0, none⟩), .pointer (some ⟨w.heap.size, 0, none⟩)] (badB (kk : Int) l0_0.length) (some ad) c0_0 l0_0
    ((w.alloc (.cells #[.slice (some ad) l0_0.length c0_0] 24)).alloc (.cells #[.int .i64 (kk : Int)] 3)) (Kd.C_below HR.out hB.out) hc0_0 call100
    (fun W A c row hb hr hc => valid1_calls (kk : Int) _ (w.heap.size + 1) w.heap.size A (some ad) c c0_0 l0_0.length row W hr hc
     ((hb.cell (p := ⟨w.heap.size + 1, 0, none⟩) (by simp)).trans (by simp)) ((hb.cell (p := ⟨w.heap.size, 0, none⟩) (by simp; omega)).trans (by simp)) rfl))
   clear h1 h2 k1 k2 HV hc0_0
   go_enter Try.func63, Try.ntmps63
   go_wp2_with (refine (HC.out.mono ?_); rintro e w' ⟨rfl, hb'⟩; have HB2 := am hb'; clear hb')
   go_ret
   exact ⟨rfl, below_step hB.out HB2.out⟩
  ·have k1' : decide (1 ≤ (kk : Int)) = true := decide_eq_true k1
   have k2' : decide ((kk : Int) ≤ 6) = false := decide_eq_false k2
   have HV : validB l0_0 = false := by unfold validB kOf; rw [← HKK.out, decide_eq_false (by omega)]; rfl
   rw [HV]
   clear h1 h2 k1 k2 HV hc0_0
   go_enter Try.func63, Try.ntmps63
   go_wp2
   go_ret
   exact ⟨rfl, by repeat (first | exact Below.refl _ _ | apply ba)⟩
 ·have k1' : decide (1 ≤ (kk : Int)) = false := decide_eq_false k1
  have HV : validB l0_0 = false := by unfold validB kOf; rw [← HKK.out, decide_eq_false (by omega)]; rfl
  rw [HV]
  clear h1 h2 k1 HV hc0_0
  go_enter Try.func63, Try.ntmps63
  go_wp2
  go_ret
  exact ⟨rfl, by repeat (first | exact Below.refl _ _ | apply ba)⟩
end Go.Proofs.Ytjgdalhdiohclaa.Q
end
section
namespace Go.Proofs.Ytjgdalhdiohclaa.Q
attribute [local go_sem] max2_int min2_int max_two min_two max_three min_three max_four min_four
def slices_Index_bool_bool.l0 : Nat → List Bool → Bool → Int → Int → Option (Int)
 | 0, _, _, _, _ => none
 | k + 1, x0, x1, x7, x8 => if x8 < x7 then (if 0 ≤ x8 then (if x8 < (x0.length : Int) then (if (x1 == (rdOf false x0 x8)) = true then (some x8) else (slices_Index_bool_bool.l0 k x0 x1 x7 (wrap64 (x8 + 1)))) else (none)) else (none)) else (some (-1))
def slices_Index_bool_bool.f (k : Nat) (l0 : List Bool) (a1 : Bool) : Option (Int) := slices_Index_bool_bool.l0 k l0 a1 (l0.length : Int) 0
theorem slices_Index_bool_bool.mono_l : ∀ k, (∀ y0 y1 y2 y3, LeO (slices_Index_bool_bool.l0 k y0 y1 y2 y3) (slices_Index_bool_bool.l0 (k + 1) y0 y1 y2 y3))
 | 0 => fun _ _ _ _ r h => by simp [slices_Index_bool_bool.l0] at h
 | k + 1 => by
  have ih0 := slices_Index_bool_bool.mono_l k
  ·intro y0 y1 y2 y3
   unfold slices_Index_bool_bool.l0
   with_reducible repeat' first | exact ih0 _ _ _ _ | exact LeO.refl _ | exact LeO.none _ | refine LeO.ite ?_ ?_ | refine LeO.bind ?_ (fun _ => ?_)
theorem slices_Index_bool_bool.mono : ∀ a0 a1 k, LeO (slices_Index_bool_bool.f k a0 a1) (slices_Index_bool_bool.f (k + 1) a0 a1) := by
 intro a0 a1 k
 have ih0 := slices_Index_bool_bool.mono_l k
 unfold slices_Index_bool_bool.f
 with_reducible repeat' first | exact ih0 _ _ _ _ | exact LeO.refl _ | exact LeO.none _ | refine LeO.ite ?_ ?_ | refine LeO.bind ?_ (fun _ => ?_)
theorem slices_Index_bool_bool.calls (k : Nat) (A0 : Option Addr) (c0 : Nat) (l0 : List Bool) (a1 : Bool) (r : Int) (w : World) (hr0 : Kd.C Kd.bool w A0 l0.length l0) (hc0 : l0.length ≤ c0) (h : slices_Index_bool_bool.f k l0 a1 = some r) :
  Calls Try.prog 117 #[.slice A0 l0.length c0, .bool a1] w fun e w' => e = .returned (.int .i64 r) ∧ Drawn0 w w' := by
 have HR0 := am hr0
 have HC0 := am hc0
 clear hr0 hc0
 have H : (slices_Index_bool_bool.l0 k l0 a1 (l0.length : Int) 0) = some r := h
 clear h
 have H' := am H
 clear H
 go_enter Try.func117, Try.ntmps117
 go_wp2
 go_loopg [8] k (fun kq v8 w' => ∃ (x8_1 : Int), v8 = .int .i64 x8_1 ∧ Aside0 (slices_Index_bool_bool.l0 kq l0 a1 (l0.length : Int) x8_1 = some r) ∧ Aside0 (kq ≤ k) ∧ Drawn0 w w')
 case atStart => exact ⟨(0), zz3, H', ⟨Nat.le_refl _⟩, by repeat (first | exact Drawn0.refl _ | apply Drawn0.step)⟩
 case round =>
  clear H'
  (try clear c1); (try clear p2)
  obtain ⟨x8_1, rfl, HA, HK1, ⟨m1, rfl⟩⟩ := hrel
  cases gk with
  | zero => exact absurd HA.out (by simp [slices_Index_bool_bool.l0])
  | succ k1 =>
   have H := HA.out
   clear HA
   simp only [slices_Index_bool_bool.l0] at H
   by_cases c3 : x8_1 < (l0.length : Int)
   ·rw [if_pos c3] at H
    have c3b0 : decide (x8_1 < (l0.length : Int)) = true := decide_eq_true c3
    clear c3
    by_cases c4 : 0 ≤ x8_1
    ·rw [if_pos c4] at H
     have c4b0 : decide (0 ≤ x8_1) = true := decide_eq_true c4
     clear c4
     by_cases c5 : x8_1 < (l0.length : Int)
     ·rw [if_pos c5] at H
      have c5b0 : decide (x8_1 < (l0.length : Int)) = true := decide_eq_true c5
      clear c5
      by_cases c6 : (a1 == (rdOf false l0 x8_1)) = true
      ·rw [if_pos c6] at H
       have c6b0 : (a1 == (rdOf false l0 x8_1)) = true := c6
       (try (have c6b1 : decide (a1 = (rdOf false l0 x8_1)) = true := by simpa using c6))
       (try (have c6b2 : (a1 == (rdOf false l0 x8_1)) = true := by simpa using c6))
       clear c6
       obtain rfl := Option.some.inj H
       have p313 : 0 ≤ (x8_1 : Int) := od zz2
       have q313 : x8_1 < (l0.length : Int) := od zz2
       obtain ⟨ad313, e313, hx313_0⟩ := Kd.at_bool HR0.out x8_1 p313 q313
       cases e313
       replace p313 := eq_true p313
       replace q313 := eq_true q313
       go_wp2
       go_ret
       exact ⟨by first | rfl | (simp; done) | (simp [*]; done), by repeat (first | exact Drawn0.refl _ | apply Drawn0.step)⟩
      ·rw [if_neg c6] at H
       have c6b0 : (a1 == (rdOf false l0 x8_1)) = false := by simpa using c6
       (try (have c6b1 : decide (a1 = (rdOf false l0 x8_1)) = false := by simpa using c6))
       (try (have c6b2 : (a1 == (rdOf false l0 x8_1)) = false := by simpa using c6))
       (try (have c6b3 : ¬ (a1 = (rdOf false l0 x8_1)) := by simpa using c6))
       clear c6
       have H' := am H
       clear H
       have p313 : 0 ≤ (x8_1 : Int) := od zz2
       have q313 : x8_1 < (l0.length : Int) := od zz2
       obtain ⟨ad313, e313, hx313_0⟩ := Kd.at_bool HR0.out x8_1 p313 q313
       cases e313
       replace p313 := eq_true p313
       replace q313 := eq_true q313
       go_wp2
       go_roundg k1
       case measure => have := HK1.out; omega
       case rel => exact ⟨(wrap64 (x8_1 + 1)), zz3, H', ⟨by have := HK1.out; omega⟩, by repeat (first | exact Drawn0.refl _ | apply Drawn0.step)⟩
     ·rw [if_neg c5] at H
      exact absurd H (by simp)
    ·rw [if_neg c4] at H
     exact absurd H (by simp)
   ·rw [if_neg c3] at H
    have c3b0 : decide (x8_1 < (l0.length : Int)) = false := decide_eq_false c3
    clear c3
    obtain rfl := Option.some.inj H
    go_wp2
    go_ret
    exact ⟨by first | rfl | (simp; done) | (simp [*]; done), by repeat (first | exact Drawn0.refl _ | apply Drawn0.step)⟩
end Go.Proofs.Ytjgdalhdiohclaa.Q
end
section
namespace Go.Proofs.Ytjgdalhdiohclaa.Q
attribute [local go_sem] max2_int min2_int max_two min_two max_three min_three max_four min_four
def slices_Contains_bool_bool.f (k : Nat) (l0 : List Bool) (a1 : Bool) : Option (Bool) := (slices_Index_bool_bool.f k l0 a1).bind fun t314 => (some (decide (t314 ≥ 0)))
theorem slices_Contains_bool_bool.mono : ∀ a0 a1 k, LeO (slices_Contains_bool_bool.f k a0 a1) (slices_Contains_bool_bool.f (k + 1) a0 a1) := by
 intro a0 a1 k
 unfold slices_Contains_bool_bool.f
 with_reducible repeat' first | exact slices_Index_bool_bool.mono _ _ _ | exact LeO.refl _ | exact LeO.none _ | refine LeO.ite ?_ ?_ | refine LeO.bind ?_ (fun _ => ?_)
theorem slices_Contains_bool_bool.calls (k : Nat) (A0 : Option Addr) (c0 : Nat) (l0 : List Bool) (a1 : Bool) (r : Bool) (w : World) (hr0 : Kd.C Kd.bool w A0 l0.length l0) (hc0 : l0.length ≤ c0) (h : slices_Contains_bool_bool.f k l0 a1 = some r) :
  Calls Try.prog 102 #[.slice A0 l0.length c0, .bool a1] w fun e w' => e = .returned (.bool r) ∧ Drawn0 w w' := by
 have HR0 := am hr0
 have HC0 := am hc0
 clear hr0 hc0
 have H : ((slices_Index_bool_bool.f k l0 a1).bind fun t314 => (some (decide (t314 ≥ 0)))) = some r := h
 clear h
 replace H := Option.bind_eq_some_iff.mp H
 obtain ⟨t314, A30, H⟩ := H
 replace H : (some (decide (t314 ≥ 0))) = some r := H
 have A3 := am A30
 clear A30
 obtain rfl := Option.some.inj H
 go_enter Try.func102, Try.ntmps102
 go_wp2_with (first | ((with_reducible refine gate_callee (f := 117) rfl ?_); refine goesL_ (some 7) rfl rfl Try.func117 (by kernel_rfl) rfl #[.slice A0 l0.length c0, .bool a1] rfl zz1 ?_; (with_reducible refine (slices_Index_bool_bool.calls k _ _ l0 a1 t314 _ ?side1 ?side2 A3.out).mono ?_); (case side1 => exact kc HR0.out); (case side2 => exact HC0.out); rintro e w' ⟨rfl, ⟨nd, rfl⟩⟩; refine ⟨_, rfl, ?_⟩))
 go_ret
 exact ⟨by first | rfl | (simp; done) | (simp [*]; done), by repeat (first | exact Drawn0.refl _ | apply Drawn0.step)⟩
end Go.Proofs.Ytjgdalhdiohclaa.Q
end
section
namespace Go.Proofs.Ytjgdalhdiohclaa.Q
attribute [local go_sem] max2_int min2_int max_two min_two max_three min_three max_four min_four
mutual
def net_lengths.l0 : Nat → List Int → List Bool → List Int → Int → List (List Int) → Option (List Int)
 | 0, _, _, _, _, _ => none
 | k + 1, x3, x4, x5, x6, x321000 => if x6 < (x5.length : Int) then (if 0 ≤ x6 then (if 0 ≤ (rd x5 x6) then (if (rd x5 x6) < (x321000.length : Int) then (net_lengths.l1 k x3 x4 x5 x6 (rd_L1 x321000 (rd x5 x6)) ((rd_L1 x321000 (rd x5 x6)).length : Int) 0 x321000) else (none)) else (none)) else (none)) else (some x3)
def net_lengths.l1 : Nat → List Int → List Bool → List Int → Int → List Int → Int → Int → List (List Int) → Option (List Int)
 | 0, _, _, _, _, _, _, _, _ => none
 | k + 1, x3, x4, x5, x6, x33, x34, x35, x321000 => if x35 < x34 then (if 0 ≤ x35 then (if x35 < (x33.length : Int) then (if 0 ≤ (rd x33 x35) then (if (rd x33 x35) < (x4.length : Int) then (if (rdOf false x4 (rd x33 x35) = true) then (net_lengths.l1 k x3 x4 x5 x6 x33 x34 (wrap64 (x35 + 1)) x321000) else (if 0 ≤ x6 then (if x6 < (x5.length : Int) then (if 0 ≤ (rd x5 x6) then (if (rd x5 x6) < (x3.length : Int) then (if (rd x33 x35) < (x3.length : Int) then (if x5.length < 17592186044416 then (net_lengths.l1 k (x3.set ((rd x33 x35) : Int).toNat (wrap64 ((rd x3 (rd x5 x6)) + 1))) (x4.set ((rd x33 x35) : Int).toNat true) (x5 ++ [rd x33 x35]) x6 x33 x34 (wrap64 (x35 + 1)) x321000) else (none)) else (none)) else (none)) else (none)) else (none)) else (none))) else (none)) else (none)) else (none)) else (none)) else (net_lengths.l0 k x3 x4 x5 (wrap64 (x6 + 1)) x321000)
end
def net_lengths.f (k : Nat) (l0_0 : List (List Int)) : Option (List Int) := if 0 ≤ (l0_0.length : Int) then (if ((l0_0.length : Int) : Int).toNat ≤ 35184372088832 then (if ((l0_0.length : Int) : Int).toNat ≤ 281474976710656 then ((some (List.replicate ((l0_0.length : Int) : Int).toNat false : List Bool)).bind fun y324 => (if 0 < (y324.length : Int) then (net_lengths.l0 k (List.replicate ((l0_0.length : Int) : Int).toNat 0) (y324.set (0 : Int).toNat true) (([0] : List Int)) 0 l0_0) else (none))) else (none)) else (none)) else (none)
theorem net_lengths.mono_l : ∀ k, (∀ y0 y1 y2 y3 y4, LeO (net_lengths.l0 k y0 y1 y2 y3 y4) (net_lengths.l0 (k + 1) y0 y1 y2 y3 y4)) ∧ (∀ y0 y1 y2 y3 y4 y5 y6 y7, LeO (net_lengths.l1 k y0 y1 y2 y3 y4 y5 y6 y7) (net_lengths.l1 (k + 1) y0 y1 y2 y3 y4 y5 y6 y7))
 | 0 => ⟨fun _ _ _ _ _ r h => by simp [net_lengths.l0] at h, fun _ _ _ _ _ _ _ _ r h => by simp [net_lengths.l1] at h⟩
 | k + 1 => by
  obtain ⟨ih0, ih1⟩ := net_lengths.mono_l k
  refine ⟨?_, ?_⟩
  ·intro y0 y1 y2 y3 y4
   unfold net_lengths.l0
   with_reducible repeat' first | exact ih0 _ _ _ _ _ | exact ih1 _ _ _ _ _ _ _ _ | exact LeO.refl _ | exact LeO.none _ | refine LeO.ite ?_ ?_ | refine LeO.bind ?_ (fun _ => ?_)
  ·intro y0 y1 y2 y3 y4 y5 y6 y7
   unfold net_lengths.l1
   with_reducible repeat' first | exact ih0 _ _ _ _ _ | exact ih1 _ _ _ _ _ _ _ _ | exact LeO.refl _ | exact LeO.none _ | refine LeO.ite ?_ ?_ | refine LeO.bind ?_ (fun _ => ?_)
theorem net_lengths.mono : ∀ a0 k, LeO (net_lengths.f k a0) (net_lengths.f (k + 1) a0) := by
 intro a0 k
 obtain ⟨ih0, ih1⟩ := net_lengths.mono_l k
 unfold net_lengths.f
 with_reducible repeat' first | exact ih0 _ _ _ _ _ | exact ih1 _ _ _ _ _ _ _ _ | exact LeO.refl _ | exact LeO.none _ | refine LeO.ite ?_ ?_ | refine LeO.bind ?_ (fun _ => ?_)
theorem net_lengths.calls (k : Nat) (A0_0 : Option Addr) (c0_0 : Nat) (l0_0 : List (List Int)) (r : List Int) (w : World) (hr0_0 : Kd.C (Kd.slice 3 (Kd.int .i64)) w A0_0 l0_0.length l0_0) (hc0_0 : l0_0.length ≤ c0_0) (h : net_lengths.f k l0_0 = some r) :
    Calls Try.prog 71 #[.agg #[.slice A0_0 l0_0.length c0_0]] w fun e w' => ∃ v0_ : Value, e = .returned (v0_) ∧ Kd.R (Kd.int .i64) 3 w' w.heap.size (fun _ => True) v0_ r ∧ Below w.heap.size w w' := by
 have hu24 := Try.underlying24
 have HR0_0 := am hr0_0
 have HC0_0 := am hc0_0
 clear hr0_0 hc0_0
 have HB := am (Below.refl w.heap.size w)
 have H : (if 0 ≤ (l0_0.length : Int) then (if ((l0_0.length : Int) : Int).toNat ≤ 35184372088832 then (if ((l0_0.length : Int) : Int).toNat ≤ 281474976710656 then ((some (List.replicate ((l0_0.length : Int) : Int).toNat false : List Bool)).bind fun y324 => (if 0 < (y324.length : Int) then (net_lengths.l0 k (List.replicate ((l0_0.length : Int) : Int).toNat 0) (y324.set (0 : Int).toNat true) (([0] : List Int)) 0 l0_0) else (none))) else (none)) else (none)) else (none)) = some r := h
 clear h
 by_cases c2 : 0 ≤ (l0_0.length : Int)
 rotate_left
 ·rw [if_neg c2] at H
  exact absurd H (by simp)
 rw [if_pos c2] at H
 have c2b0 := eq_true c2
 have c2b1 : decide (0 ≤ (l0_0.length : Int)) = true := decide_eq_true c2
 clear c2
 by_cases c3 : ((l0_0.length : Int) : Int).toNat ≤ 35184372088832
 rotate_left
 ·rw [if_neg c3] at H
  exact absurd H (by simp)
 rw [if_pos c3] at H
 have c3b0 := eq_true c3
 have c3b1 : decide (((l0_0.length : Int) : Int).toNat ≤ 35184372088832) = true := decide_eq_true c3
 clear c3
 obtain ⟨y321, hy321⟩ : ∃ y_ : List Int, y_ = (List.replicate ((l0_0.length : Int) : Int).toNat 0) := ⟨_, rfl⟩
 replace H : (if ((l0_0.length : Int) : Int).toNat ≤ 281474976710656 then ((some (List.replicate ((l0_0.length : Int) : Int).toNat false : List Bool)).bind fun y324 => (if 0 < (y324.length : Int) then (net_lengths.l0 k y321 (y324.set (0 : Int).toNat true) (([0] : List Int)) 0 l0_0) else (none))) else (none)) = some r := by first | (rw [hy321]; with_reducible exact H) | (have H2_ := (Option.bind_some _ _).symm.trans H; rw [hy321]; with_reducible exact H2_) | (have H2_ := (Option.bind_some _ _).symm.trans H; with_reducible exact H2_) | with_reducible exact H | (rw [hy321]; exact H) | exact H
 have Ny321 := am hy321
 clear hy321
 by_cases c4 : ((l0_0.length : Int) : Int).toNat ≤ 281474976710656
 rotate_left
 ·rw [if_neg c4] at H
  exact absurd H (by simp)
 rw [if_pos c4] at H
 have c4b0 := eq_true c4
 have c4b1 : decide (((l0_0.length : Int) : Int).toNat ≤ 281474976710656) = true := decide_eq_true c4
 clear c4
 obtain ⟨y324, hy324⟩ : ∃ y_ : List Bool, y_ = (List.replicate ((l0_0.length : Int) : Int).toNat false) := ⟨_, rfl⟩
 replace H : (if 0 < (y324.length : Int) then (net_lengths.l0 k y321 (y324.set (0 : Int).toNat true) (([0] : List Int)) 0 l0_0) else (none)) = some r := by first | (rw [hy324]; with_reducible exact H) | (have H2_ := (Option.bind_some _ _).symm.trans H; rw [hy324]; with_reducible exact H2_) | (have H2_ := (Option.bind_some _ _).symm.trans H; with_reducible exact H2_) | with_reducible exact H | (rw [hy324]; exact H) | exact H
 have Ny324 := am hy324
 clear hy324
 by_cases c5 : 0 < (y324.length : Int)
 rotate_left
 ·rw [if_neg c5] at H
  exact absurd H (by simp)
 rw [if_pos c5] at H
 have c5b0 : decide (0 < (y324.length : Int)) = true := decide_eq_true c5
 have c5b1 : decide (0 < y324.length) = true := decide_eq_true (by omega)
 clear c5
 obtain ⟨y327, hy327⟩ : ∃ y_ : List Bool, y_ = (y324.set (0 : Int).toNat true) := ⟨_, rfl⟩
 replace H : (net_lengths.l0 k y321 y327 (([0] : List Int)) 0 l0_0) = some r := by first | (rw [hy327]; with_reducible exact H) | (have H2_ := (Option.bind_some _ _).symm.trans H; rw [hy327]; with_reducible exact H2_) | (have H2_ := (Option.bind_some _ _).symm.trans H; with_reducible exact H2_) | with_reducible exact H | (rw [hy327]; exact H) | exact H
 have Ny327 := am hy327
 clear hy327
 obtain ⟨y328, hy328⟩ : ∃ y_ : List Int, y_ = (([0] : List Int)) := ⟨_, rfl⟩
 replace H : (net_lengths.l0 k y321 y327 y328 0 l0_0) = some r := by first | (rw [hy328]; with_reducible exact H) | (have H2_ := (Option.bind_some _ _).symm.trans H; rw [hy328]; with_reducible exact H2_) | (have H2_ := (Option.bind_some _ _).symm.trans H; with_reducible exact H2_) | with_reducible exact H | (rw [hy328]; exact H) | exact H
 have Ny328 := am hy328
 clear hy328
 have H' := am H
 clear H
 go_enter Try.func71, Try.ntmps71
 go_wp2_with (first | ((with_reducible refine gate_dst (N := 1) rfl ?_); refine box_event zz5 (N := 1) zz5 (cs := #[.slice A0_0 l0_0.length c0_0]) (t := 24) zz6 ?_; intro gb320 hg w7 hbox hb; have BK320 := am (hbox); have GW320 := am ((by rw [hg]; exact (below_size (bw HB.out)) : w.heap.size ≤ gb320)); have GE320 := am ((by rw [hg]; exact (below_size (bw HB.out)) : w.heap.size ≤ gb320)); replace HB := am (below_step (bw HB.out) hb); clear hb hbox hg; have hcz8_0 : w7.cell? ⟨gb320, 0, none⟩ = some (.slice A0_0 l0_0.length c0_0) := (blk_cell BK320.out 0).trans rfl; have hfz8_0 := blk_frozen BK320.out 0) | ((with_reducible refine gate_dst (N := 12) rfl ?_); refine Kd.R_make (Kd.int .i64) _ 3 rfl (N := 12) rfl 28 _ _ rfl (l0_0.length : Int) rfl rfl Try.underlying28 (.int .i64 0) 8 info3 rfl (by decide) (by omega) 0 (ok := fun _ => True) (okp := fun _ => True) rfl (fun _ hk => hk) trivial (od zz2) (Nat.le_trans (Nat.mul_le_mul_right _ (od zz2 : (l0_0.length : Int).toNat ≤ 35184372088832)) (by omega)) (Below.refl _ _) (Nat.le_refl _) ?_; intro v322 w9 ho10 hb hg_ hnew_; clear hg_ hnew_; (first | rw [← Ny321.out] at ho10 | (simp only [Int.reduceToNat] at ho10; rw [← Ny321.out] at ho10)); have HO323 := am (Kd.R_lower ho10 (below_size (bs HB.out))); replace BK320 := am (blk_below (g := gb320) (o := .cells #[.slice A0_0 l0_0.length c0_0] 24 (0, 0)) (kb BK320.out) hb); replace HB := am (below_step (bs HB.out) hb); clear hb ho10; have hcz11_0 : w9.cell? ⟨gb320, 0, none⟩ = some (.slice A0_0 l0_0.length c0_0) := (blk_cell BK320.out 0).trans rfl; have hfz11_0 := blk_frozen BK320.out 0) | ((with_reducible refine gate_dst (N := 16) rfl ?_); refine Kd.R_make Kd.bool _ 4 rfl (N := 16) rfl 47 _ _ rfl (l0_0.length : Int) rfl rfl Try.underlying47 (.bool false) 1 info4 rfl (by decide) (by omega) false (ok := fun _ => True) (okp := fun _ => True) rfl (fun _ hk => hk) trivial (od zz2) (Nat.le_trans (Nat.mul_le_mul_right _ (od zz2 : (l0_0.length : Int).toNat ≤ 281474976710656)) (by omega)) (Below.refl _ _) (Nat.le_refl _) ?_; intro v325 w12 ho13 hb hg_ hnew_; clear hg_ hnew_; (first | rw [← Ny324.out] at ho13 | (simp only [Int.reduceToNat] at ho13; rw [← Ny324.out] at ho13)); replace HO323 := am (Kd.R_below (kR HO323.out) hb); have HO326 := am (Kd.R_lower ho13 (below_size (bs HB.out))); replace BK320 := am (blk_below (g := gb320) (o := .cells #[.slice A0_0 l0_0.length c0_0] 24 (0, 0)) (kb BK320.out) hb); replace HB := am (below_step (bs HB.out) hb); clear hb ho13; have p6 : 0 ≤ (0 : Int) := (by omega); have q6 : (0 : Int) < ((y324.length : Int) : Int) := od zz2; have qi6 : (0 < y324.length) = True := eq_true (by omega); obtain ⟨go6, co6, eo6, gb6, gl6, cl6, HG6⟩ := Kd.R_form HO326.out (by omega); (first | cases eo6 | (injection eo6 with ea_ en_ ec_; (first | subst ea_ | (injection ea_ with ea_; subst ea_)); subst ec_; clear en_)); have GB6 := am gb6; have GG6 := am HG6; clear gb6 gl6 HG6; obtain ⟨hx6_0, hf6_0⟩ := Kd.R_celln false HO326.out (0 : Int) p6 q6; (try rw [show ((0 : Int)).toNat = 0 from rfl] at hx6_0); (try simp only [Nat.reduceMul, Nat.zero_mul, Nat.zero_add, Nat.reduceAdd] at hx6_0); (try rw [show ((0 : Int)).toNat = 0 from rfl] at hf6_0); (try simp only [Nat.reduceMul, Nat.zero_mul, Nat.zero_add, Nat.reduceAdd] at hf6_0); replace p6 := eq_true p6; replace q6 := eq_true q6; obtain ⟨hy14_, hz14_⟩ := Kd.R_celln false HO326.out (0 : Int) (by omega) (od zz2); (try simp only [Int.reduceToNat, Int.toNat_zero, Int.toNat_ofNat, Nat.reduceMul, Nat.zero_mul, Nat.zero_add] at hy14_ hz14_); (try rw [show ((0 : Int)).toNat = 0 from rfl] at hy14_); (try rw [show ((0 : Int)).toNat = 0 from rfl] at hz14_); have HP14 := Kd.R_putg HO326.out (0 : Int) true) | ((with_reducible refine gate_store (t := 4) (p := 18) rfl ?_); (try (rw [drewN_self w12]; generalize hq_ : World.drewN w12 _ = w12; have n0_ := am (Kd.R_at hq_ HO323.out); have n1_ := am (Kd.R_at hq_ HO326.out); have n2_ := am (blk_at hq_ BK320.out); have n3_ := am (below_at hq_ HB.out); clear hq_ HO323 HO326 BK320 HB; have HO323 := n0_; have HO326 := n1_; have BK320 := n2_; have HB := n3_; clear n0_ n1_ n2_ n3_; (try (obtain ⟨hy14_, hz14_⟩ := Kd.R_celln false HO326.out (0 : Int) (by omega) (od zz2))); (try (try simp only [Int.reduceToNat, Int.toNat_zero, Int.toNat_ofNat, Nat.reduceMul, Nat.zero_mul, Nat.zero_add] at hy14_ hz14_)); (try (try rw [show ((0 : Int)).toNat = 0 from rfl] at hy14_)); (try (try rw [show ((0 : Int)).toNat = 0 from rfl] at hz14_)); (try (have HP14 := Kd.R_putg HO326.out (0 : Int) true)))); refine store_event (t := 4) (p := 18) (v := ?vo_w15) (w1 := (w12.setCell ⟨go6, (0 : Int).toNat, none⟩ (.bool true))) zz5 zz5 zz5 zz6 ?_; intro w15 hw; have hg : w12.grownBy w15 (some go6) := (by rw [hw]; exact HP14.2); have hp_ : Kd.R Kd.bool 4 w15 w.heap.size (fun _ => True) (.slice (some ⟨go6, 0, none⟩) y324.length co6) y327 := (by rw [hw, Ny327.out]; exact HP14.1); clear HP14; replace BK320 := am (blk_grown (g := gb320) (o := .cells #[.slice A0_0 l0_0.length c0_0] 24 (0, 0)) (kb BK320.out) hg (Kd.R_ne HO326.out BK320.out (by decide))); replace HO323 := am (Kd.R_over' (v := (.slice (some ⟨go6, 0, none⟩) y324.length co6)) (kR HO323.out) (Kd.R_typed HO326.out) (by decide) hg); replace HO326 := am (hp_); replace HB := am ((by rw [hw]; exact below_set (HB.out) GB6.out : Below w.heap.size w w15)); clear hg hw hp_) | ((with_reducible refine gate_dst (N := 19) rfl ?_); refine Kd.R_lit (Kd.int .i64) _ 3 zz5 (N := 19) zz5 (xs := ([0] : List Int)) (inner := [.int .i64 0]) (ok := fun _ => True) (okp := fun _ => True) zz6 ?hp (fun _ hk => hk) trivial (Below.refl _ _) (Nat.le_refl _) (by simp) ?_; (case hp => exact (Reps.one (show Kd.M (Kd.int .i64) _ _ _ 0 [.int .i64 0] from rfl) (Reps.none _ _))); intro v329 w16 ho17 hb hg_ hnew_; clear hg_ hnew_; (first | rw [← Ny328.out] at ho17 | (simp only [Int.reduceToNat] at ho17; rw [← Ny328.out] at ho17)); replace HO326 := am (Kd.R_below (kR HO326.out) hb); have HO330 := am (Kd.R_lower (Kd.R_new' ho17 (Kd.R_lt (kR HO323.out))) (below_size (bs HB.out))); replace HO323 := am (Kd.R_elder' (kR HO323.out) (Kd.R_base ho17) hb); replace BK320 := am (blk_below (g := gb320) (o := .cells #[.slice A0_0 l0_0.length c0_0] 24 (0, 0)) (kb BK320.out) hb); replace HB := am (below_step (bs HB.out) hb); clear hb ho17))
 go_loopg [5, 6] k (fun kq v5 v6 w' => ∃ (x3_1 : List Int) (x4_1 : List Bool) (x5_1 : List Int) (x6_1 : Int), v6 = .int .i64 x6_1 ∧ Aside0 (net_lengths.l0 kq x3_1 x4_1 x5_1 x6_1 l0_0 = some r) ∧ Aside0 (kq ≤ k) ∧ Aside0 (Kd.R (Kd.int .i64) 3 w' w.heap.size (fun k_ => some k_ ≠ (v5 : Value).ownBlock) v322 x3_1) ∧ Aside0 (Kd.R Kd.bool 4 w' w.heap.size (fun _ => True) (.slice (some ⟨go6, 0, none⟩) y324.length co6) x4_1) ∧ Aside0 (Kd.R (Kd.int .i64) 3 w' w.heap.size (fun k_ => some k_ ≠ (v322 : Value).ownBlock) v5 x5_1) ∧ Aside0 (w'.heap[gb320]? = some (.cells #[(.slice A0_0 l0_0.length c0_0)] 24 (0, 0))) ∧ Aside0 (Below w.heap.size w w'))
 case atStart => exact ⟨(y321), (y327), (y328), (0), zz3, H', ⟨Nat.le_refl _⟩, ⟨kR (Kd.R_mono HO323.out (fun _ hk => hk.2))⟩, ⟨kR HO326.out⟩, ⟨kR (Kd.R_mono HO330.out (fun _ hk => hk.2))⟩, ⟨kb BK320.out⟩, ⟨bs HB.out⟩⟩
 case round =>
  clear H'
  (try clear c2); (try clear c2b0); (try clear c2b1); (try clear p2); (try clear c3); (try clear c3b0); (try clear c3b1); (try clear c4); (try clear c4b0); (try clear c4b1); (try clear c5); (try clear c5b0); (try clear c5b1); (try clear p6); (try clear q6); (try clear hx6); (try clear qi6); (try clear hf6); (try clear c7); (try clear hcz11_0); (try clear hcz8_0); (try clear hfz11_0); (try clear hfz8_0); (try clear hx6_0); (try clear p6); (try clear q6)
  obtain ⟨x3_1, x4_1, x5_1, x6_1, rfl, HA, HK1, HO_3, HO_4, HO_5, BK320, HB⟩ := hrel
  have hl4_1 := (Kd.R_reads' HO_4.out).1
  rw [hl4_1] at HO_4
  (try simp only [hl4_1])
  (try simp only [hl4_1] at BK320)
  (try simp only [hl4_1] at HO_3)
  (try simp only [hl4_1] at HO_5)
  cases gk with
  | zero => exact absurd HA.out (by simp [net_lengths.l0])
  | succ k1 =>
   have H := HA.out
   clear HA
   simp only [net_lengths.l0] at H
   by_cases c18 : x6_1 < (x5_1.length : Int)
   rotate_left
   ·rw [if_neg c18] at H
    have c18b0 : decide (x6_1 < (x5_1.length : Int)) = false := decide_eq_false c18
    clear c18
    obtain rfl := Option.some.inj H
    obtain ⟨Ao46, co46, eo46⟩ := Kd.R_slice HO_5.out
    subst eo46
    go_wp2
    repeat (go_quiet (fail); try go_wp2)
    go_ret
    exact ⟨_, by first | rfl | (simp [errW_none, errW_some] <;> rfl) | (simp [*, errW_none, errW_some] <;> rfl), kR (Kd.R_mono HO_3.out (fun _ hk => trivial)), bs HB.out⟩
   rw [if_pos c18] at H
   have c18b0 : decide (x6_1 < (x5_1.length : Int)) = true := decide_eq_true c18
   clear c18
   by_cases c19 : 0 ≤ x6_1
   rotate_left
   ·rw [if_neg c19] at H
    exact absurd H (by simp)
   rw [if_pos c19] at H
   have c19b0 : decide (0 ≤ x6_1) = true := decide_eq_true c19
   clear c19
   by_cases c20 : 0 ≤ (rd x5_1 x6_1)
   rotate_left
   ·rw [if_neg c20] at H
    exact absurd H (by simp)
   rw [if_pos c20] at H
   have c20b0 : decide (0 ≤ (rd x5_1 x6_1)) = true := decide_eq_true c20
   clear c20
   by_cases c21 : (rd x5_1 x6_1) < (l0_0.length : Int)
   rotate_left
   ·rw [if_neg c21] at H
    exact absurd H (by simp)
   rw [if_pos c21] at H
   have c21b0 : decide ((rd x5_1 x6_1) < (l0_0.length : Int)) = true := decide_eq_true c21
   clear c21
   have H' := am H
   clear H
   obtain ⟨Ao22, co22, eo22⟩ := Kd.R_slice HO_5.out
   subst eo22
   have hcz23_0 : wr.cell? ⟨gb320, 0, none⟩ = some (.slice A0_0 l0_0.length c0_0) := (blk_cell BK320.out 0).trans rfl
   have hfz23_0 := blk_frozen BK320.out 0
   have p331 : 0 ≤ (x6_1 : Int) := od zz2
   have q331 : x6_1 < (x5_1.length : Int) := od zz2
   obtain ⟨ad331, e331, hx331_0⟩ := Kd.at_int (Kd.R_reads' HO_5.out).2.2 x6_1 p331 q331
   cases e331
   replace p331 := eq_true p331
   replace q331 := eq_true q331
   have p332 : 0 ≤ ((rd x5_1 x6_1) : Int) := od zz2
   have q332 : (rd x5_1 x6_1) < (l0_0.length : Int) := od zz2
   obtain ⟨ad332, A332_0, c332_0, e332, hx332_0, hl332_0, hi332_0⟩ := at_L1 HR0_0.out (rd x5_1 x6_1) p332 q332
   cases e332
   replace hx332_0 := (HB.out.cell (World.block_lt_of_cell? w _ hx332_0)).trans hx332_0
   have HR332_0 := am hi332_0
   have HC332_0 := am hl332_0
   clear hi332_0 hl332_0
   replace p332 := eq_true p332
   replace q332 := eq_true q332
   go_wp2
   repeat (go_quiet (fail); try go_wp2)
   go_loopg [5, 35] k1 (fun kq v5 v35 w' => ∃ (x3_2 : List Int) (x4_2 : List Bool) (x5_2 : List Int) (x35_2 : Int), v35 = .int .i64 x35_2 ∧ Aside0 (net_lengths.l1 kq x3_2 x4_2 x5_2 x6_1 (rd_L1 l0_0 (rd x5_1 x6_1)) ((rd_L1 l0_0 (rd x5_1 x6_1)).length : Int) x35_2 l0_0 = some r) ∧ Aside0 (kq ≤ k1) ∧ Aside0 (Kd.R (Kd.int .i64) 3 w' w.heap.size (fun k_ => some k_ ≠ (v5 : Value).ownBlock) v322 x3_2) ∧ Aside0 (Kd.R Kd.bool 4 w' w.heap.size (fun _ => True) (.slice (some ⟨go6, 0, none⟩) x4_1.length co6) x4_2) ∧ Aside0 (Kd.R (Kd.int .i64) 3 w' w.heap.size (fun k_ => some k_ ≠ (v322 : Value).ownBlock) v5 x5_2) ∧ Aside0 (w'.heap[gb320]? = some (.cells #[(.slice (some ad332) l0_0.length c0_0)] 24 (0, 0))) ∧ Aside0 (Below w.heap.size w w'))
   case atStart => exact ⟨(x3_1), (x4_1), (x5_1), (0), zz3, H', ⟨Nat.le_refl _⟩, ⟨by (try simp only [hl4_1]); (with_reducible repeat (first | apply Kd.R_alloc | apply Kd.R_drewN | apply Kd.R_drew)); exact HO_3.out⟩, ⟨by (try simp only [hl4_1]); (with_reducible repeat (first | apply Kd.R_alloc | apply Kd.R_drewN | apply Kd.R_drew)); exact HO_4.out⟩, ⟨by (try simp only [hl4_1]); (with_reducible repeat (first | apply Kd.R_alloc | apply Kd.R_drewN | apply Kd.R_drew)); exact HO_5.out⟩, ⟨by (try simp only [hl4_1]); (with_reducible repeat (first | refine blk_drewN ?_ _ | refine blk_drew ?_ | refine blk_alloc ?_ _)); exact BK320.out⟩, ⟨bs HB.out⟩⟩
   case round =>
    clear H'
    (try clear c1); (try clear c2); (try clear c2b0); (try clear c2b1); (try clear p2); (try clear c3); (try clear c3b0); (try clear c3b1); (try clear p3); (try clear q3); (try clear hx3); (try clear c4); (try clear c4b0); (try clear c4b1); (try clear c5); (try clear c5b0); (try clear c5b1); (try clear p6); (try clear q6); (try clear hx6); (try clear qi6); (try clear hf6); (try clear c7); (try clear c18); (try clear c18b0); (try clear c19); (try clear c19b0); (try clear c20); (try clear c20b0); (try clear c21); (try clear c21b0); (try clear hcz11_0); (try clear hcz23_0); (try clear hcz8_0); (try clear hfz11_0); (try clear hfz23_0); (try clear hfz8_0); (try clear hx331_0); (try clear hx332_0); (try clear hx6_0); (try clear p2); (try clear p331); (try clear p332); (try clear p6); (try clear q331); (try clear q332); (try clear q6)
    obtain ⟨x3_2, x4_2, x5_2, x35_2, rfl, HA, HK2, HO_3, HO_4, HO_5, BK320, HB⟩ := hrel
    have hl4_2 := (Kd.R_reads' HO_4.out).1
    rw [hl4_2] at HO_4
    (try simp only [hl4_2])
    (try simp only [hl4_2] at BK320)
    (try simp only [hl4_2] at HO_3)
    (try simp only [hl4_2] at HO_5)
    cases gk with
    | zero => exact absurd HA.out (by simp [net_lengths.l1])
    | succ k2 =>
     have H := HA.out
     clear HA
     simp only [net_lengths.l1] at H
     by_cases c24 : x35_2 < ((rd_L1 l0_0 (rd x5_1 x6_1)).length : Int)
     rotate_left
     ·rw [if_neg c24] at H
      have c24b0 : decide (x35_2 < ((rd_L1 l0_0 (rd x5_1 x6_1)).length : Int)) = false := decide_eq_false c24
      clear c24
      have H' := am H
      clear H
      go_wp2
      repeat (go_quiet (fail); try go_wp2)
      (try simp only [← hl4_1, ← hl4_2])
      go_roundg k2
      case measure => have := HK1.out; have := HK2.out; omega
      case rel => exact ⟨(x3_2), (x4_2), (x5_2), (wrap64 (x6_1 + 1)), zz3, H', ⟨by have := HK1.out; have := HK2.out; omega⟩, ⟨by (try simp only [hl4_1]); (try simp only [hl4_2]); (with_reducible repeat (first | apply Kd.R_alloc | apply Kd.R_drewN | apply Kd.R_drew)); exact HO_3.out⟩, ⟨by (try simp only [hl4_1]); (try simp only [hl4_2]); (with_reducible repeat (first | apply Kd.R_alloc | apply Kd.R_drewN | apply Kd.R_drew)); exact HO_4.out⟩, ⟨by (try simp only [hl4_1]); (try simp only [hl4_2]); (with_reducible repeat (first | apply Kd.R_alloc | apply Kd.R_drewN | apply Kd.R_drew)); exact HO_5.out⟩, ⟨by (try simp only [hl4_1]); (try simp only [hl4_2]); (with_reducible repeat (first | refine blk_drewN ?_ _ | refine blk_drew ?_ | refine blk_alloc ?_ _)); exact BK320.out⟩, ⟨bs HB.out⟩⟩
     rw [if_pos c24] at H
     have c24b0 : decide (x35_2 < ((rd_L1 l0_0 (rd x5_1 x6_1)).length : Int)) = true := decide_eq_true c24
     clear c24
     by_cases c25 : 0 ≤ x35_2
     rotate_left
     ·rw [if_neg c25] at H
      exact absurd H (by simp)
     rw [if_pos c25] at H
     have c25b0 : decide (0 ≤ x35_2) = true := decide_eq_true c25
     clear c25
     by_cases c26 : x35_2 < ((rd_L1 l0_0 (rd x5_1 x6_1)).length : Int)
     rotate_left
     ·rw [if_neg c26] at H
      exact absurd H (by simp)
     rw [if_pos c26] at H
     have c26b0 : decide (x35_2 < ((rd_L1 l0_0 (rd x5_1 x6_1)).length : Int)) = true := decide_eq_true c26
     clear c26
     by_cases c27 : 0 ≤ (rd (rd_L1 l0_0 (rd x5_1 x6_1)) x35_2)
     rotate_left
     ·rw [if_neg c27] at H
      exact absurd H (by simp)
     rw [if_pos c27] at H
     have c27b0 : decide (0 ≤ (rd (rd_L1 l0_0 (rd x5_1 x6_1)) x35_2)) = true := decide_eq_true c27
     clear c27
     by_cases c28 : (rd (rd_L1 l0_0 (rd x5_1 x6_1)) x35_2) < (x4_2.length : Int)
     rotate_left
     ·rw [if_neg c28] at H
      exact absurd H (by simp)
     rw [if_pos c28] at H
     have c28b0 : decide ((rd (rd_L1 l0_0 (rd x5_1 x6_1)) x35_2) < (x4_2.length : Int)) = true := decide_eq_true c28
     clear c28
     obtain ⟨bq29, hbq29⟩ : ∃ b_ : Bool, b_ = (rdOf false x4_2 (rd (rd_L1 l0_0 (rd x5_1 x6_1)) x35_2)) := ⟨_, rfl⟩
     replace H : (if (bq29 = true) then (net_lengths.l1 k2 x3_2 x4_2 x5_2 x6_1 (rd_L1 l0_0 (rd x5_1 x6_1)) ((rd_L1 l0_0 (rd x5_1 x6_1)).length : Int) (wrap64 (x35_2 + 1)) l0_0) else (if 0 ≤ x6_1 then (if x6_1 < (x5_2.length : Int) then (if 0 ≤ (rd x5_2 x6_1) then (if (rd x5_2 x6_1) < (x3_2.length : Int) then (if (rd (rd_L1 l0_0 (rd x5_1 x6_1)) x35_2) < (x3_2.length : Int) then (if x5_2.length < 17592186044416 then (net_lengths.l1 k2 (x3_2.set ((rd (rd_L1 l0_0 (rd x5_1 x6_1)) x35_2) : Int).toNat (wrap64 ((rd x3_2 (rd x5_2 x6_1)) + 1))) (x4_2.set ((rd (rd_L1 l0_0 (rd x5_1 x6_1)) x35_2) : Int).toNat true) (x5_2 ++ [rd (rd_L1 l0_0 (rd x5_1 x6_1)) x35_2]) x6_1 (rd_L1 l0_0 (rd x5_1 x6_1)) ((rd_L1 l0_0 (rd x5_1 x6_1)).length : Int) (wrap64 (x35_2 + 1)) l0_0) else (none)) else (none)) else (none)) else (none)) else (none)) else (none))) = some r := by rw [← hbq29] at H; exact H
     have Nbq29 := am hbq29
     clear hbq29
     by_cases c30 : (bq29 = true)
     ·subst c30
      have H1 : (net_lengths.l1 k2 x3_2 x4_2 x5_2 x6_1 (rd_L1 l0_0 (rd x5_1 x6_1)) ((rd_L1 l0_0 (rd x5_1 x6_1)).length : Int) (wrap64 (x35_2 + 1)) l0_0) = some r := by rw [if_pos rfl] at H; exact H
      clear H
      have H := H1
      clear H1
      have H' := am H
      clear H
      have p333 : 0 ≤ (x35_2 : Int) := od zz2
      have q333 : x35_2 < ((rd_L1 l0_0 (rd x5_1 x6_1)).length : Int) := od zz2
      obtain ⟨ad333, e333, hx333_0⟩ := Kd.at_int HR332_0.out x35_2 p333 q333
      cases e333
      replace hx333_0 := (HB.out.cell (World.block_lt_of_cell? w _ hx333_0)).trans hx333_0
      replace p333 := eq_true p333
      replace q333 := eq_true q333
      have p334 : 0 ≤ ((rd (rd_L1 l0_0 (rd x5_1 x6_1)) x35_2) : Int) := od zz2
      have q334 : (rd (rd_L1 l0_0 (rd x5_1 x6_1)) x35_2) < (x4_2.length : Int) := od zz2
      obtain ⟨ad334, e334, hx334_0⟩ := Kd.at_bool (Kd.R_reads' HO_4.out).2.2 (rd (rd_L1 l0_0 (rd x5_1 x6_1)) x35_2) p334 q334
      (try rw [← Nbq29.out] at hx334_0)
      obtain rfl : (⟨go6, 0, none⟩ : Addr) = ad334 := (by injection e334)
      (first | simp only [add_plain] at hx334_0 | simp only [add_at] at hx334_0 | simp only [Addr.add, Nat.zero_add] at hx334_0 | skip)
      replace p334 := eq_true p334
      replace q334 := eq_true q334
      go_wp2
      repeat (go_quiet (fail); try go_wp2)
      (try simp only [← hl4_2])
      go_roundg k2
      case measure => have := HK1.out; have := HK2.out; omega
      case rel => exact ⟨(x3_2), (x4_2), (x5_2), (wrap64 (x35_2 + 1)), zz3, H', ⟨by have := HK1.out; have := HK2.out; omega⟩, ⟨by (try simp only [hl4_1]); (try simp only [hl4_2]); (with_reducible repeat (first | apply Kd.R_alloc | apply Kd.R_drewN | apply Kd.R_drew)); exact HO_3.out⟩, ⟨by (try simp only [hl4_1]); (try simp only [hl4_2]); (with_reducible repeat (first | apply Kd.R_alloc | apply Kd.R_drewN | apply Kd.R_drew)); exact HO_4.out⟩, ⟨by (try simp only [hl4_1]); (try simp only [hl4_2]); (with_reducible repeat (first | apply Kd.R_alloc | apply Kd.R_drewN | apply Kd.R_drew)); exact HO_5.out⟩, ⟨by (try simp only [hl4_1]); (try simp only [hl4_2]); (with_reducible repeat (first | refine blk_drewN ?_ _ | refine blk_drew ?_ | refine blk_alloc ?_ _)); exact BK320.out⟩, ⟨bs HB.out⟩⟩
     replace c30 := Bool.eq_false_iff.mpr c30
     subst c30
     have H1 : (if 0 ≤ x6_1 then (if x6_1 < (x5_2.length : Int) then (if 0 ≤ (rd x5_2 x6_1) then (if (rd x5_2 x6_1) < (x3_2.length : Int) then (if (rd (rd_L1 l0_0 (rd x5_1 x6_1)) x35_2) < (x3_2.length : Int) then (if x5_2.length < 17592186044416 then (net_lengths.l1 k2 (x3_2.set ((rd (rd_L1 l0_0 (rd x5_1 x6_1)) x35_2) : Int).toNat (wrap64 ((rd x3_2 (rd x5_2 x6_1)) + 1))) (x4_2.set ((rd (rd_L1 l0_0 (rd x5_1 x6_1)) x35_2) : Int).toNat true) (x5_2 ++ [rd (rd_L1 l0_0 (rd x5_1 x6_1)) x35_2]) x6_1 (rd_L1 l0_0 (rd x5_1 x6_1)) ((rd_L1 l0_0 (rd x5_1 x6_1)).length : Int) (wrap64 (x35_2 + 1)) l0_0) else (none)) else (none)) else (none)) else (none)) else (none)) else (none)) = some r := by rw [if_neg (show ¬ (false = true) by decide)] at H; exact H
     clear H
     have H := H1
     clear H1
     obtain ⟨y335, hy335⟩ : ∃ y_ : List Bool, y_ = (x4_2.set ((rd (rd_L1 l0_0 (rd x5_1 x6_1)) x35_2) : Int).toNat true) := ⟨_, rfl⟩
     replace H : (if 0 ≤ x6_1 then (if x6_1 < (x5_2.length : Int) then (if 0 ≤ (rd x5_2 x6_1) then (if (rd x5_2 x6_1) < (x3_2.length : Int) then (if (rd (rd_L1 l0_0 (rd x5_1 x6_1)) x35_2) < (x3_2.length : Int) then (if x5_2.length < 17592186044416 then (net_lengths.l1 k2 (x3_2.set ((rd (rd_L1 l0_0 (rd x5_1 x6_1)) x35_2) : Int).toNat (wrap64 ((rd x3_2 (rd x5_2 x6_1)) + 1))) y335 (x5_2 ++ [rd (rd_L1 l0_0 (rd x5_1 x6_1)) x35_2]) x6_1 (rd_L1 l0_0 (rd x5_1 x6_1)) ((rd_L1 l0_0 (rd x5_1 x6_1)).length : Int) (wrap64 (x35_2 + 1)) l0_0) else (none)) else (none)) else (none)) else (none)) else (none)) else (none)) = some r := by first | (rw [hy335]; with_reducible exact H) | (have H2_ := (Option.bind_some _ _).symm.trans H; rw [hy335]; with_reducible exact H2_) | (have H2_ := (Option.bind_some _ _).symm.trans H; with_reducible exact H2_) | with_reducible exact H | (rw [hy335]; exact H) | exact H
     have Ny335 := am hy335
     clear hy335
     by_cases c32 : 0 ≤ x6_1
     rotate_left
     ·rw [if_neg c32] at H
      exact absurd H (by simp)
     rw [if_pos c32] at H
     have c32b0 : decide (0 ≤ x6_1) = true := decide_eq_true c32
     clear c32
     by_cases c33 : x6_1 < (x5_2.length : Int)
     rotate_left
     ·rw [if_neg c33] at H
      exact absurd H (by simp)
     rw [if_pos c33] at H
     have c33b0 : decide (x6_1 < (x5_2.length : Int)) = true := decide_eq_true c33
     clear c33
     by_cases c34 : 0 ≤ (rd x5_2 x6_1)
     rotate_left
     ·rw [if_neg c34] at H
      exact absurd H (by simp)
     rw [if_pos c34] at H
     have c34b0 : decide (0 ≤ (rd x5_2 x6_1)) = true := decide_eq_true c34
     clear c34
     by_cases c35 : (rd x5_2 x6_1) < (x3_2.length : Int)
     rotate_left
     ·rw [if_neg c35] at H
      exact absurd H (by simp)
     rw [if_pos c35] at H
     have c35b0 : decide ((rd x5_2 x6_1) < (x3_2.length : Int)) = true := decide_eq_true c35
     clear c35
     by_cases c36 : (rd (rd_L1 l0_0 (rd x5_1 x6_1)) x35_2) < (x3_2.length : Int)
     rotate_left
     ·rw [if_neg c36] at H
      exact absurd H (by simp)
     rw [if_pos c36] at H
     have c36b0 : decide ((rd (rd_L1 l0_0 (rd x5_1 x6_1)) x35_2) < (x3_2.length : Int)) = true := decide_eq_true c36
     clear c36
     obtain ⟨y338, hy338⟩ : ∃ y_ : List Int, y_ = (x3_2.set ((rd (rd_L1 l0_0 (rd x5_1 x6_1)) x35_2) : Int).toNat (wrap64 ((rd x3_2 (rd x5_2 x6_1)) + 1))) := ⟨_, rfl⟩
     replace H : (if x5_2.length < 17592186044416 then (net_lengths.l1 k2 y338 y335 (x5_2 ++ [rd (rd_L1 l0_0 (rd x5_1 x6_1)) x35_2]) x6_1 (rd_L1 l0_0 (rd x5_1 x6_1)) ((rd_L1 l0_0 (rd x5_1 x6_1)).length : Int) (wrap64 (x35_2 + 1)) l0_0) else (none)) = some r := by first | (rw [hy338]; with_reducible exact H) | (have H2_ := (Option.bind_some _ _).symm.trans H; rw [hy338]; with_reducible exact H2_) | (have H2_ := (Option.bind_some _ _).symm.trans H; with_reducible exact H2_) | with_reducible exact H | (rw [hy338]; exact H) | exact H
     have Ny338 := am hy338
     clear hy338
     by_cases c38 : x5_2.length < 17592186044416
     rotate_left
     ·rw [if_neg c38] at H
      exact absurd H (by simp)
     rw [if_pos c38] at H
     have LMc38 := am c38
     clear c38
     obtain ⟨y339, hy339⟩ : ∃ y_ : List Int, y_ = (x5_2 ++ [rd (rd_L1 l0_0 (rd x5_1 x6_1)) x35_2]) := ⟨_, rfl⟩
     replace H : (net_lengths.l1 k2 y338 y335 y339 x6_1 (rd_L1 l0_0 (rd x5_1 x6_1)) ((rd_L1 l0_0 (rd x5_1 x6_1)).length : Int) (wrap64 (x35_2 + 1)) l0_0) = some r := by first | (rw [hy339]; with_reducible exact H) | (have H2_ := (Option.bind_some _ _).symm.trans H; rw [hy339]; with_reducible exact H2_) | (have H2_ := (Option.bind_some _ _).symm.trans H; with_reducible exact H2_) | with_reducible exact H | (rw [hy339]; exact H) | exact H
     have Ny339 := am hy339
     clear hy339
     have H' := am H
     clear H
     have p333 : 0 ≤ (x35_2 : Int) := od zz2
     have q333 : x35_2 < ((rd_L1 l0_0 (rd x5_1 x6_1)).length : Int) := od zz2
     obtain ⟨ad333, e333, hx333_0⟩ := Kd.at_int HR332_0.out x35_2 p333 q333
     cases e333
     replace hx333_0 := (HB.out.cell (World.block_lt_of_cell? w _ hx333_0)).trans hx333_0
     replace p333 := eq_true p333
     replace q333 := eq_true q333
     have p334 : 0 ≤ ((rd (rd_L1 l0_0 (rd x5_1 x6_1)) x35_2) : Int) := od zz2
     have q334 : (rd (rd_L1 l0_0 (rd x5_1 x6_1)) x35_2) < (x4_2.length : Int) := od zz2
     obtain ⟨ad334, e334, hx334_0⟩ := Kd.at_bool (Kd.R_reads' HO_4.out).2.2 (rd (rd_L1 l0_0 (rd x5_1 x6_1)) x35_2) p334 q334
     (try rw [← Nbq29.out] at hx334_0)
     obtain rfl : (⟨go6, 0, none⟩ : Addr) = ad334 := (by injection e334)
     (first | simp only [add_plain] at hx334_0 | simp only [add_at] at hx334_0 | simp only [Addr.add, Nat.zero_add] at hx334_0 | skip)
     replace p334 := eq_true p334
     replace q334 := eq_true q334
     have p31 : 0 ≤ ((rd (rd_L1 l0_0 (rd x5_1 x6_1)) x35_2) : Int) := od zz2
     have q31 : ((rd (rd_L1 l0_0 (rd x5_1 x6_1)) x35_2) : Int) < ((x4_2.length : Int) : Int) := od zz2
     obtain ⟨hx31_0, hf31_0⟩ := Kd.R_celln false HO_4.out ((rd (rd_L1 l0_0 (rd x5_1 x6_1)) x35_2) : Int) p31 q31
     replace p31 := eq_true p31
     replace q31 := eq_true q31
     have HP39 := Kd.R_putg HO_4.out ((rd (rd_L1 l0_0 (rd x5_1 x6_1)) x35_2) : Int) true
     go_wp2_with (first | ((with_reducible refine gate_store (t := 4) (p := 46) rfl ?_); (try (rw [drewN_self wr]; generalize hq_ : World.drewN wr _ = wr; have n0_ := am (Kd.R_at hq_ HO_3.out); have n1_ := am (Kd.R_at hq_ HO_4.out); have n2_ := am (Kd.R_at hq_ HO_5.out); have n3_ := am (blk_at hq_ BK320.out); have n4_ := am (below_at hq_ HB.out); clear hq_ HO_3 HO_4 HO_5 BK320 HB; have HO_3 := n0_; have HO_4 := n1_; have HO_5 := n2_; have BK320 := n3_; have HB := n4_; clear n0_ n1_ n2_ n3_ n4_; (try (have HP39 := Kd.R_putg HO_4.out ((rd (rd_L1 l0_0 (rd x5_1 x6_1)) x35_2) : Int) true)))); refine store_event (t := 4) (p := 46) (v := ?vo_w40) (w1 := (wr.setCell ⟨go6, ((rd (rd_L1 l0_0 (rd x5_1 x6_1)) x35_2) : Int).toNat, none⟩ (.bool true))) zz5 zz5 zz5 zz6 ?_; intro w40 hw; have hg : wr.grownBy w40 (some go6) := (by rw [hw]; exact HP39.2); have hp_ : Kd.R Kd.bool 4 w40 w.heap.size (fun _ => True) (.slice (some ⟨go6, 0, none⟩) x4_2.length co6) y335 := (by rw [hw, Ny335.out]; exact HP39.1); clear HP39; replace HO_3 := am (Kd.R_over' (v := (.slice (some ⟨go6, 0, none⟩) x4_2.length co6)) (kR HO_3.out) (Kd.R_typed HO_4.out) (by decide) hg); replace HO_5 := am (Kd.R_over' (v := (.slice (some ⟨go6, 0, none⟩) x4_2.length co6)) (kR HO_5.out) (Kd.R_typed HO_4.out) (by decide) hg); replace BK320 := am (blk_grown (g := gb320) (o := .cells #[.slice (some ad332) l0_0.length c0_0] 24 (0, 0)) (kb BK320.out) hg (Kd.R_ne HO_4.out BK320.out (by decide))); replace HO_4 := am (hp_); replace HB := am ((by rw [hw]; exact below_set (HB.out) GB6.out : Below w.heap.size w w40)); clear hg hw hp_; obtain ⟨Ao41, co41, eo41⟩ := Kd.R_slice HO_5.out; subst eo41; have p336 : 0 ≤ (x6_1 : Int) := od zz2; have q336 : x6_1 < (x5_2.length : Int) := od zz2; obtain ⟨ad336, e336, hx336_0⟩ := Kd.at_int (Kd.R_reads' HO_5.out).2.2 x6_1 p336 q336; cases e336; replace p336 := eq_true p336; replace q336 := eq_true q336; obtain ⟨Ao42, co42, eo42⟩ := Kd.R_slice HO_3.out; subst eo42; have p337 : 0 ≤ ((rd x5_2 x6_1) : Int) := od zz2; have q337 : (rd x5_2 x6_1) < (x3_2.length : Int) := od zz2; obtain ⟨ad337, e337, hx337_0⟩ := Kd.at_int (Kd.R_reads' HO_3.out).2.2 (rd x5_2 x6_1) p337 q337; cases e337; replace p337 := eq_true p337; replace q337 := eq_true q337; have p37 : 0 ≤ ((rd (rd_L1 l0_0 (rd x5_1 x6_1)) x35_2) : Int) := od zz2; have q37 : ((rd (rd_L1 l0_0 (rd x5_1 x6_1)) x35_2) : Int) < ((x3_2.length : Int) : Int) := od zz2; obtain ⟨go37, co37, eo37, gb37, gl37, cl37, HG37⟩ := Kd.R_form HO_3.out (by omega); (first | cases eo37 | (injection eo37 with ea_ en_ ec_; (first | subst ea_ | (injection ea_ with ea_; subst ea_)); subst ec_; clear en_)); have GB37 := am gb37; have GG37 := am HG37; clear gb37 gl37 HG37; (first | simp only [add_plain] at hx337_0 | skip); obtain ⟨hx37_0, hf37_0⟩ := Kd.R_celln 0 HO_3.out ((rd (rd_L1 l0_0 (rd x5_1 x6_1)) x35_2) : Int) p37 q37; replace p37 := eq_true p37; replace q37 := eq_true q37; obtain ⟨hy43_, hz43_⟩ := Kd.R_celln 0 HO_3.out ((rd (rd_L1 l0_0 (rd x5_1 x6_1)) x35_2) : Int) (od zz2) (od zz2); have HP43 := Kd.R_putg HO_3.out ((rd (rd_L1 l0_0 (rd x5_1 x6_1)) x35_2) : Int) (wrap64 ((rd x3_2 (rd x5_2 x6_1)) + 1))) | ((with_reducible refine gate_store (t := 3) (p := 57) rfl ?_); (try (rw [drewN_self w40]; generalize hq_ : World.drewN w40 _ = w40; have n0_ := am (Kd.R_at hq_ HO_3.out); have n1_ := am (Kd.R_at hq_ HO_4.out); have n2_ := am (Kd.R_at hq_ HO_5.out); have n3_ := am (blk_at hq_ BK320.out); have n4_ := am (below_at hq_ HB.out); clear hq_ HO_3 HO_4 HO_5 BK320 HB; have HO_3 := n0_; have HO_4 := n1_; have HO_5 := n2_; have BK320 := n3_; have HB := n4_; clear n0_ n1_ n2_ n3_ n4_; (try (obtain ⟨hy43_, hz43_⟩ := Kd.R_celln 0 HO_3.out ((rd (rd_L1 l0_0 (rd x5_1 x6_1)) x35_2) : Int) (od zz2) (od zz2))); (try (have HP43 := Kd.R_putg HO_3.out ((rd (rd_L1 l0_0 (rd x5_1 x6_1)) x35_2) : Int) (wrap64 ((rd x3_2 (rd x5_2 x6_1)) + 1)))))); refine store_event (t := 3) (p := 57) (v := ?vo_w44) (w1 := (w40.setCell ⟨go37, ((rd (rd_L1 l0_0 (rd x5_1 x6_1)) x35_2) : Int).toNat, none⟩ (.int .i64 (wrap64 ((rd x3_2 (rd x5_2 x6_1)) + 1))))) zz5 zz5 zz5 zz6 ?_; intro w44 hw; have hg : w40.grownBy w44 (some go37) := (by rw [hw]; exact HP43.2); have hp_ : Kd.R (Kd.int .i64) 3 w44 w.heap.size (fun k_ => some k_ ≠ (.slice (some ad336) x5_2.length co41 : Value).ownBlock) (.slice (some ⟨go37, 0, none⟩) x3_2.length co42) y338 := (by rw [hw, Ny338.out]; exact HP43.1); clear HP43; replace HO_4 := am (Kd.R_over' (v := (.slice (some ⟨go37, 0, none⟩) x3_2.length co42)) (kR HO_4.out) (Kd.R_typed HO_3.out) (by decide) hg); replace HO_5 := am (Kd.R_after (v := (.slice (some ⟨go37, 0, none⟩) x3_2.length co42)) (v1 := (.slice (some ⟨go37, 0, none⟩) x3_2.length co42)) (ok := (fun _ => True)) (kR (Kd.R_mono HO_5.out (fun _ hk => ⟨trivial, hk⟩))) hg (.inl rfl)); replace BK320 := am (blk_grown (g := gb320) (o := .cells #[.slice (some ad332) l0_0.length c0_0] 24 (0, 0)) (kb BK320.out) hg (Kd.R_ne HO_3.out BK320.out (by decide))); replace HO_3 := am (hp_); replace HB := am ((by rw [hw]; exact below_set (HB.out) GB37.out : Below w.heap.size w w44)); clear hg hw hp_) | ((with_reducible refine gate_builtin (b := .append) (xs := #[.tmp 58, .tmp 60]) rfl ?_); at_builtin; refine Kd.R_append (Kd.int .i64) (w0 := w) w.heap.size rfl (.tmp 58) (.tmp 60) 28 3 (.int .i64 0) 8 rfl Try.underlying28 info3 rfl (by decide) (by omega) (.slice (some ad336) x5_2.length co41) x5_2 (rd (rd_L1 l0_0 (rd x5_1 x6_1)) x35_2) [.int .i64 (rd (rd_L1 l0_0 (rd x5_1 x6_1)) x35_2)] (fun k_ => some k_ ≠ (.slice (some ⟨go37, 0, none⟩) x3_2.length co42 : Value).ownBlock) (fun _ => False) rfl rfl ?aP (fun _ hk => hk.elim) ?aF ?aO ?aB ?aS ?aL ?_; (case aP => exact rfl); (case aB => exact (bs HB.out)); (case aF => exact (fun k_ hk => Kd.fresh' (Kd.R_lt (kR HO_3.out)) k_ hk)); (case aO => exact (kR (Kd.R_mono HO_5.out (fun _ hk => hk.2)))); (case aS => exact (below_size (bs HB.out))); (case aL => have := LMc38.out; omega); intro v340 w45 ho hb hg hat; rw [← Ny339.out] at ho; have n0_ := am (Kd.R_after (ok := (fun _ => True)) (kR (Kd.R_mono HO_3.out (fun _ hk => ⟨trivial, hk⟩))) hg hat); have n1_ := am (Kd.R_over' (kR HO_4.out) (Kd.R_typed (kR HO_5.out)) (by decide) hg); have n2_ := am (blk_grown (g := gb320) (o := .cells #[.slice (some ad332) l0_0.length c0_0] 24 (0, 0)) (kb BK320.out) hg (Kd.R_ne HO_5.out BK320.out (by decide))); have n3_ := am (hb); have n4_ := am (ho); clear HO_3; clear HO_4; clear BK320; clear HB; clear HO_5; have HO_3 := n0_; have HO_4 := n1_; have BK320 := n2_; have HB := n3_; have HO341 := n4_; clear n0_ n1_ n2_ n3_ n4_; clear ho hb hg hat))
     (try simp only [← hl4_2])
     go_roundg k2
     case measure => have := HK1.out; have := HK2.out; omega
     case rel => exact ⟨(y338), (y335), (y339), (wrap64 (x35_2 + 1)), zz3, H', ⟨by have := HK1.out; have := HK2.out; omega⟩, ⟨by (try simp only [hl4_1]); (try simp only [hl4_2]); (with_reducible repeat (first | apply Kd.R_alloc | apply Kd.R_drewN | apply Kd.R_drew)); exact Kd.R_mono HO_3.out (fun _ hk => hk.2)⟩, ⟨by (try simp only [hl4_1]); (try simp only [hl4_2]); (with_reducible repeat (first | apply Kd.R_alloc | apply Kd.R_drewN | apply Kd.R_drew)); exact HO_4.out⟩, ⟨by (try simp only [hl4_1]); (try simp only [hl4_2]); (with_reducible repeat (first | apply Kd.R_alloc | apply Kd.R_drewN | apply Kd.R_drew)); exact HO341.out⟩, ⟨by (try simp only [hl4_1]); (try simp only [hl4_2]); (with_reducible repeat (first | refine blk_drewN ?_ _ | refine blk_drew ?_ | refine blk_alloc ?_ _)); exact BK320.out⟩, ⟨bs HB.out⟩⟩
end Go.Proofs.Ytjgdalhdiohclaa.Q
end
section
namespace Go.Proofs.Ytjgdalhdiohclaa.Q
attribute [local go_sem] max2_int min2_int max_two min_two max_three min_three max_four min_four
def net_common.l0 : Nat → Int → Int → Option (Int)
 | 0, _, _ => none
 | k + 1, x0, x1 => if x1 > 0 then (if x1 = 0 then (none) else (net_common.l0 k x1 (Int.tmod x0 x1))) else (some x0)
def net_common.f (k : Nat) (a0 : Int) (a1 : Int) : Option (Int) := net_common.l0 k a0 a1
theorem net_common.mono_l : ∀ k, (∀ y0 y1, LeO (net_common.l0 k y0 y1) (net_common.l0 (k + 1) y0 y1))
 | 0 => fun _ _ r h => by simp [net_common.l0] at h
 | k + 1 => by
  have ih0 := net_common.mono_l k
  ·intro y0 y1
   unfold net_common.l0
   with_reducible repeat' first | exact ih0 _ _ | exact LeO.refl _ | exact LeO.none _ | refine LeO.ite ?_ ?_ | refine LeO.bind ?_ (fun _ => ?_)
theorem net_common.mono : ∀ a0 a1 k, LeO (net_common.f k a0 a1) (net_common.f (k + 1) a0 a1) := by
 intro a0 a1 k
 have ih0 := net_common.mono_l k
 unfold net_common.f
 with_reducible repeat' first | exact ih0 _ _ | exact LeO.refl _ | exact LeO.none _ | refine LeO.ite ?_ ?_ | refine LeO.bind ?_ (fun _ => ?_)
theorem net_common.calls (k : Nat) (a0 : Int) (a1 : Int) (r : Int) (w : World) (h : net_common.f k a0 a1 = some r) :
  Calls Try.prog 104 #[.int .i64 a0, .int .i64 a1] w fun e w' => e = .returned (.int .i64 r) ∧ Drawn0 w w' := by
 have H : (net_common.l0 k a0 a1) = some r := h
 clear h
 have H' := am H
 clear H
 go_enter Try.func104, Try.ntmps104
 go_wp2
 repeat (go_quiet (fail); try go_wp2)
 go_loopg [0, 1] k (fun kq v0 v1 w' => ∃ (x0_1 : Int) (x1_1 : Int), v0 = .int .i64 x0_1 ∧ v1 = .int .i64 x1_1 ∧ Aside0 (net_common.l0 kq x0_1 x1_1 = some r) ∧ Aside0 (kq ≤ k) ∧ Drawn0 w w')
 case atStart => exact ⟨(a0), (a1), zz3, zz3, H', ⟨Nat.le_refl _⟩, by repeat (first | exact Drawn0.refl _ | apply Drawn0.step)⟩
 case round =>
  clear H'
  (try clear c1); (try clear p2)
  obtain ⟨x0_1, x1_1, rfl, rfl, HA, HK1, ⟨m1, rfl⟩⟩ := hrel
  cases gk with
  | zero => exact absurd HA.out (by simp [net_common.l0])
  | succ k1 =>
   have H := HA.out
   clear HA
   simp only [net_common.l0] at H
   by_cases c3 : x1_1 > 0
   ·rw [if_pos c3] at H
    have c3b0 : decide (0 < x1_1) = true := decide_eq_true c3
    clear c3
    by_cases c4 : x1_1 = 0
    ·rw [if_pos c4] at H
     exact absurd H (by simp)
    ·rw [if_neg c4] at H
     have c4b0 : (x1_1 == 0) = false := beq_eq_false_iff_ne.mpr c4
     have c4b1 : (x1_1 != 0) = true := bne_iff_ne.mpr c4
     have H' := am H
     clear H
     go_wp2
     repeat (go_quiet (fail); try go_wp2)
     go_roundg k1
     case measure => have := HK1.out; omega
     case rel => exact ⟨(x1_1), (Int.tmod x0_1 x1_1), zz3, zz3, H', ⟨by have := HK1.out; omega⟩, by repeat (first | exact Drawn0.refl _ | apply Drawn0.step)⟩
   ·rw [if_neg c3] at H
    have c3b0 : decide (0 < x1_1) = false := decide_eq_false c3
    clear c3
    obtain rfl := Option.some.inj H
    go_wp2
    repeat (go_quiet (fail); try go_wp2)
    go_ret
    exact ⟨by first | rfl | (simp; done) | (simp [*]; done), by repeat (first | exact Drawn0.refl _ | apply Drawn0.step)⟩
end Go.Proofs.Ytjgdalhdiohclaa.Q
end
section
namespace Go.Proofs.Ytjgdalhdiohclaa.Q
attribute [local go_sem] max2_int min2_int max_two min_two max_three min_three max_four min_four
mutual
def net_period.l0 : Nat → List Int → Int → List (List Int) → Int → Int → Option (Int)
 | 0, _, _, _, _, _ => none
 | k + 1, x3, x4, x13, x14, x15 => if x15 < x14 then (if 0 ≤ x15 then (if x15 < (x13.length : Int) then (net_period.l1 k x3 x4 x15 x13 x14 x15 (rd_L1 x13 x15) ((rd_L1 x13 x15).length : Int) 0) else (none)) else (none)) else (some x4)
def net_period.l1 : Nat → List Int → Int → Int → List (List Int) → Int → Int → List Int → Int → Int → Option (Int)
 | 0, _, _, _, _, _, _, _, _, _ => none
 | k + 1, x3, x4, x5, x13, x14, x15, x20, x21, x22 => if x22 < x21 then (if 0 ≤ x22 then (if x22 < (x20.length : Int) then (if 0 ≤ x5 then (if x5 < (x3.length : Int) then (if 0 ≤ (rd x20 x22) then (if (rd x20 x22) < (x3.length : Int) then ((net_common.f k x4 (mx (wrap64 ((wrap64 ((rd x3 x5) + 1)) - (rd x3 (rd x20 x22)))) (wrap64 (-(wrap64 ((wrap64 ((rd x3 x5) + 1)) - (rd x3 (rd x20 x22)))))))).bind fun t350 => (net_period.l1 k x3 t350 x5 x13 x14 x15 x20 x21 (wrap64 (x22 + 1)))) else (none)) else (none)) else (none)) else (none)) else (none)) else (none)) else (net_period.l0 k x3 x4 x13 x14 (wrap64 (x15 + 1)))
end
def net_period.f (k : Nat) (l0_0 : List (List Int)) : Option (Int) := (net_lengths.f k l0_0).bind fun t343 => (net_period.l0 k t343 0 l0_0 (l0_0.length : Int) 0)
theorem net_period.mono_l : ∀ k, (∀ y0 y1 y2 y3 y4, LeO (net_period.l0 k y0 y1 y2 y3 y4) (net_period.l0 (k + 1) y0 y1 y2 y3 y4)) ∧ (∀ y0 y1 y2 y3 y4 y5 y6 y7 y8, LeO (net_period.l1 k y0 y1 y2 y3 y4 y5 y6 y7 y8) (net_period.l1 (k + 1) y0 y1 y2 y3 y4 y5 y6 y7 y8))
 | 0 => ⟨fun _ _ _ _ _ r h => by simp [net_period.l0] at h, fun _ _ _ _ _ _ _ _ _ r h => by simp [net_period.l1] at h⟩
 | k + 1 => by
  obtain ⟨ih0, ih1⟩ := net_period.mono_l k
  refine ⟨?_, ?_⟩
  ·intro y0 y1 y2 y3 y4
   unfold net_period.l0
   with_reducible repeat' first | exact ih0 _ _ _ _ _ | exact ih1 _ _ _ _ _ _ _ _ _ | exact net_common.mono _ _ _ | exact net_lengths.mono _ _ | exact LeO.refl _ | exact LeO.none _ | refine LeO.ite ?_ ?_ | refine LeO.bind ?_ (fun _ => ?_)
  ·intro y0 y1 y2 y3 y4 y5 y6 y7 y8
   unfold net_period.l1
   with_reducible repeat' first | exact ih0 _ _ _ _ _ | exact ih1 _ _ _ _ _ _ _ _ _ | exact net_common.mono _ _ _ | exact net_lengths.mono _ _ | exact LeO.refl _ | exact LeO.none _ | refine LeO.ite ?_ ?_ | refine LeO.bind ?_ (fun _ => ?_)
theorem net_period.mono : ∀ a0 k, LeO (net_period.f k a0) (net_period.f (k + 1) a0) := by
 intro a0 k
 obtain ⟨ih0, ih1⟩ := net_period.mono_l k
 unfold net_period.f
 with_reducible repeat' first | exact ih0 _ _ _ _ _ | exact ih1 _ _ _ _ _ _ _ _ _ | exact net_common.mono _ _ _ | exact net_lengths.mono _ _ | exact LeO.refl _ | exact LeO.none _ | refine LeO.ite ?_ ?_ | refine LeO.bind ?_ (fun _ => ?_)
theorem net_period.calls (k : Nat) (A0_0 : Option Addr) (c0_0 : Nat) (l0_0 : List (List Int)) (r : Int) (w : World) (hr0_0 : Kd.C (Kd.slice 3 (Kd.int .i64)) w A0_0 l0_0.length l0_0) (hc0_0 : l0_0.length ≤ c0_0) (h : net_period.f k l0_0 = some r) :
    Calls Try.prog 70 #[.agg #[.slice A0_0 l0_0.length c0_0]] w fun e w' => e = .returned (.int .i64 r) ∧ Below w.heap.size w w' := by
 have hu24 := Try.underlying24
 have HR0_0 := am hr0_0
 have HC0_0 := am hc0_0
 clear hr0_0 hc0_0
 have HB := am (Below.refl w.heap.size w)
 have H : ((net_lengths.f k l0_0).bind fun t343 => (net_period.l0 k t343 0 l0_0 (l0_0.length : Int) 0)) = some r := h
 clear h
 replace H := Option.bind_eq_some_iff.mp H
 obtain ⟨t343, A20, H⟩ := H
 replace H : (net_period.l0 k t343 0 l0_0 (l0_0.length : Int) 0) = some r := H
 have A2 := am A20
 clear A20
 have H' := am H
 clear H
 go_enter Try.func70, Try.ntmps70
 go_wp2_with (first | ((with_reducible refine gate_dst (N := 1) rfl ?_); refine box_event zz5 (N := 1) zz5 (cs := #[.slice A0_0 l0_0.length c0_0]) (t := 24) zz6 ?_; intro gb342 hg w3 hbox hb; have BK342 := am (hbox); have GW342 := am ((by rw [hg]; exact (below_size (bw HB.out)) : w.heap.size ≤ gb342)); have GE342 := am ((by rw [hg]; exact (below_size (bw HB.out)) : w.heap.size ≤ gb342)); replace HB := am (below_step (bw HB.out) hb); clear hb hbox hg; have hcz4_0 : w3.cell? ⟨gb342, 0, none⟩ = some (.slice A0_0 l0_0.length c0_0) := (blk_cell BK342.out 0).trans rfl; have hfz4_0 := blk_frozen BK342.out 0) | (go_at_call 71; (with_reducible refine (net_lengths.calls k _ _ l0_0 t343 _ ?side1 ?side2 A2.out).mono ?_); (case side1 => exact kc (Kd.C_below HR0_0.out HB.out)); (case side2 => exact HC0_0.out); rintro e w5 ⟨v344, rfl, ho0, hb⟩; have HO345 := am (Kd.R_lower ho0 (below_size (bs HB.out))); replace BK342 := am (blk_below (g := gb342) (o := .cells #[.slice A0_0 l0_0.length c0_0] 24 (0, 0)) (kb BK342.out) hb); replace HB := am (below_step (bs HB.out) hb); (try clear hb); (try clear hb2); (try clear hk); (try clear hi); (try clear ho0); have hcz6_0 : w5.cell? ⟨gb342, 0, none⟩ = some (.slice A0_0 l0_0.length c0_0) := (blk_cell BK342.out 0).trans rfl; have hfz6_0 := blk_frozen BK342.out 0))
 repeat (go_quiet (first | ((with_reducible refine gate_dst (N := 1) rfl ?_); refine box_event zz5 (N := 1) zz5 (cs := #[.slice A0_0 l0_0.length c0_0]) (t := 24) zz6 ?_; intro gb342 hg w3 hbox hb; have BK342 := am (hbox); have GW342 := am ((by rw [hg]; exact (below_size (bw HB.out)) : w.heap.size ≤ gb342)); have GE342 := am ((by rw [hg]; exact (below_size (bw HB.out)) : w.heap.size ≤ gb342)); replace HB := am (below_step (bw HB.out) hb); clear hb hbox hg; have hcz4_0 : w3.cell? ⟨gb342, 0, none⟩ = some (.slice A0_0 l0_0.length c0_0) := (blk_cell BK342.out 0).trans rfl; have hfz4_0 := blk_frozen BK342.out 0) | (go_at_call 71; (with_reducible refine (net_lengths.calls k _ _ l0_0 t343 _ ?side1 ?side2 A2.out).mono ?_); (case side1 => exact kc (Kd.C_below HR0_0.out HB.out)); (case side2 => exact HC0_0.out); rintro e w5 ⟨v344, rfl, ho0, hb⟩; have HO345 := am (Kd.R_lower ho0 (below_size (bs HB.out))); replace BK342 := am (blk_below (g := gb342) (o := .cells #[.slice A0_0 l0_0.length c0_0] 24 (0, 0)) (kb BK342.out) hb); replace HB := am (below_step (bs HB.out) hb); (try clear hb); (try clear hb2); (try clear hk); (try clear hi); (try clear ho0); have hcz6_0 : w5.cell? ⟨gb342, 0, none⟩ = some (.slice A0_0 l0_0.length c0_0) := (blk_cell BK342.out 0).trans rfl; have hfz6_0 := blk_frozen BK342.out 0)); try go_wp2_with (first | ((with_reducible refine gate_dst (N := 1) rfl ?_); refine box_event zz5 (N := 1) zz5 (cs := #[.slice A0_0 l0_0.length c0_0]) (t := 24) zz6 ?_; intro gb342 hg w3 hbox hb; have BK342 := am (hbox); have GW342 := am ((by rw [hg]; exact (below_size (bw HB.out)) : w.heap.size ≤ gb342)); have GE342 := am ((by rw [hg]; exact (below_size (bw HB.out)) : w.heap.size ≤ gb342)); replace HB := am (below_step (bw HB.out) hb); clear hb hbox hg; have hcz4_0 : w3.cell? ⟨gb342, 0, none⟩ = some (.slice A0_0 l0_0.length c0_0) := (blk_cell BK342.out 0).trans rfl; have hfz4_0 := blk_frozen BK342.out 0) | (go_at_call 71; (with_reducible refine (net_lengths.calls k _ _ l0_0 t343 _ ?side1 ?side2 A2.out).mono ?_); (case side1 => exact kc (Kd.C_below HR0_0.out HB.out)); (case side2 => exact HC0_0.out); rintro e w5 ⟨v344, rfl, ho0, hb⟩; have HO345 := am (Kd.R_lower ho0 (below_size (bs HB.out))); replace BK342 := am (blk_below (g := gb342) (o := .cells #[.slice A0_0 l0_0.length c0_0] 24 (0, 0)) (kb BK342.out) hb); replace HB := am (below_step (bs HB.out) hb); (try clear hb); (try clear hb2); (try clear hk); (try clear hi); (try clear ho0); have hcz6_0 : w5.cell? ⟨gb342, 0, none⟩ = some (.slice A0_0 l0_0.length c0_0) := (blk_cell BK342.out 0).trans rfl; have hfz6_0 := blk_frozen BK342.out 0)))
 go_loopg [4, 15] k (fun kq v4 v15 w' => ∃ (x4_1 : Int) (x15_1 : Int), v4 = .int .i64 x4_1 ∧ v15 = .int .i64 x15_1 ∧ Aside0 (net_period.l0 kq t343 x4_1 l0_0 (l0_0.length : Int) x15_1 = some r) ∧ Aside0 (kq ≤ k) ∧ Aside0 (Kd.R (Kd.int .i64) 3 w' w.heap.size (fun _ => True) v344 t343) ∧ Aside0 (w'.heap[gb342]? = some (.cells #[(.slice A0_0 l0_0.length c0_0)] 24 (0, 0))) ∧ Aside0 (Below w.heap.size w w'))
 case atStart => exact ⟨(0), (0), zz3, zz3, H', ⟨Nat.le_refl _⟩, ⟨kR HO345.out⟩, ⟨kb BK342.out⟩, ⟨bs HB.out⟩⟩
 case round =>
  clear H'
  (try clear p2); (try clear hcz4_0); (try clear hcz6_0); (try clear hfz4_0); (try clear hfz6_0)
  obtain ⟨x4_1, x15_1, rfl, rfl, HA, HK1, HO_3, BK342, HB⟩ := hrel
  cases gk with
  | zero => exact absurd HA.out (by simp [net_period.l0])
  | succ k1 =>
   have H := HA.out
   clear HA
   simp only [net_period.l0] at H
   by_cases c7 : x15_1 < (l0_0.length : Int)
   rotate_left
   ·rw [if_neg c7] at H
    have c7b0 : decide (x15_1 < (l0_0.length : Int)) = false := decide_eq_false c7
    clear c7
    obtain rfl := Option.some.inj H
    go_wp2
    repeat (go_quiet (fail); try go_wp2)
    go_ret
    exact ⟨by first | rfl | (simp [errW_none, errW_some] <;> rfl) | (simp [*, errW_none, errW_some] <;> rfl), bs HB.out⟩
   rw [if_pos c7] at H
   have c7b0 : decide (x15_1 < (l0_0.length : Int)) = true := decide_eq_true c7
   clear c7
   by_cases c8 : 0 ≤ x15_1
   rotate_left
   ·rw [if_neg c8] at H
    exact absurd H (by simp)
   rw [if_pos c8] at H
   have c8b0 : decide (0 ≤ x15_1) = true := decide_eq_true c8
   clear c8
   by_cases c9 : x15_1 < (l0_0.length : Int)
   rotate_left
   ·rw [if_neg c9] at H
    exact absurd H (by simp)
   rw [if_pos c9] at H
   have c9b0 : decide (x15_1 < (l0_0.length : Int)) = true := decide_eq_true c9
   clear c9
   have H' := am H
   clear H
   have p346 : 0 ≤ (x15_1 : Int) := od zz2
   have q346 : x15_1 < (l0_0.length : Int) := od zz2
   obtain ⟨ad346, A346_0, c346_0, e346, hx346_0, hl346_0, hi346_0⟩ := at_L1 HR0_0.out x15_1 p346 q346
   cases e346
   replace hx346_0 := (HB.out.cell (World.block_lt_of_cell? w _ hx346_0)).trans hx346_0
   have HR346_0 := am hi346_0
   have HC346_0 := am hl346_0
   clear hi346_0 hl346_0
   replace p346 := eq_true p346
   replace q346 := eq_true q346
   go_wp2
   repeat (go_quiet (fail); try go_wp2)
   go_loopg [4, 22] k1 (fun kq v4 v22 w' => ∃ (x4_2 : Int) (x22_2 : Int), v4 = .int .i64 x4_2 ∧ v22 = .int .i64 x22_2 ∧ Aside0 (net_period.l1 kq t343 x4_2 x15_1 l0_0 (l0_0.length : Int) x15_1 (rd_L1 l0_0 x15_1) ((rd_L1 l0_0 x15_1).length : Int) x22_2 = some r) ∧ Aside0 (kq ≤ k1) ∧ Aside0 (Kd.R (Kd.int .i64) 3 w' w.heap.size (fun _ => True) v344 t343) ∧ Aside0 (w'.heap[gb342]? = some (.cells #[(.slice (some ad346) l0_0.length c0_0)] 24 (0, 0))) ∧ Aside0 (Below w.heap.size w w'))
   case atStart => exact ⟨(x4_1), (0), zz3, zz3, H', ⟨Nat.le_refl _⟩, ⟨kR HO_3.out⟩, ⟨kb BK342.out⟩, ⟨bs HB.out⟩⟩
   case round =>
    clear H'
    (try clear p2); (try clear c3); (try clear p3); (try clear q3); (try clear hx3); (try clear c7); (try clear c7b0); (try clear c8); (try clear c8b0); (try clear c9); (try clear c9b0); (try clear hcz4_0); (try clear hcz6_0); (try clear hfz4_0); (try clear hfz6_0); (try clear hx346_0); (try clear p2); (try clear p346); (try clear q346)
    obtain ⟨x4_2, x22_2, rfl, rfl, HA, HK2, HO_3, BK342, HB⟩ := hrel
    cases gk with
    | zero => exact absurd HA.out (by simp [net_period.l1])
    | succ k2 =>
     have H := HA.out
     clear HA
     simp only [net_period.l1] at H
     by_cases c10 : x22_2 < ((rd_L1 l0_0 x15_1).length : Int)
     rotate_left
     ·rw [if_neg c10] at H
      have c10b0 : decide (x22_2 < ((rd_L1 l0_0 x15_1).length : Int)) = false := decide_eq_false c10
      clear c10
      have H' := am H
      clear H
      go_wp2
      repeat (go_quiet (fail); try go_wp2)
      go_roundg k2
      case measure => have := HK1.out; have := HK2.out; omega
      case rel => exact ⟨(x4_2), (wrap64 (x15_1 + 1)), zz3, zz3, H', ⟨by have := HK1.out; have := HK2.out; omega⟩, ⟨kR HO_3.out⟩, ⟨kb BK342.out⟩, ⟨bs HB.out⟩⟩
     rw [if_pos c10] at H
     have c10b0 : decide (x22_2 < ((rd_L1 l0_0 x15_1).length : Int)) = true := decide_eq_true c10
     clear c10
     by_cases c11 : 0 ≤ x22_2
     rotate_left
     ·rw [if_neg c11] at H
      exact absurd H (by simp)
     rw [if_pos c11] at H
     have c11b0 : decide (0 ≤ x22_2) = true := decide_eq_true c11
     clear c11
     by_cases c12 : x22_2 < ((rd_L1 l0_0 x15_1).length : Int)
     rotate_left
     ·rw [if_neg c12] at H
      exact absurd H (by simp)
     rw [if_pos c12] at H
     have c12b0 : decide (x22_2 < ((rd_L1 l0_0 x15_1).length : Int)) = true := decide_eq_true c12
     clear c12
     by_cases c13 : 0 ≤ x15_1
     rotate_left
     ·rw [if_neg c13] at H
      exact absurd H (by simp)
     rw [if_pos c13] at H
     have c13b0 : decide (0 ≤ x15_1) = true := decide_eq_true c13
     clear c13
     by_cases c14 : x15_1 < (t343.length : Int)
     rotate_left
     ·rw [if_neg c14] at H
      exact absurd H (by simp)
     rw [if_pos c14] at H
     have c14b0 : decide (x15_1 < (t343.length : Int)) = true := decide_eq_true c14
     clear c14
     by_cases c15 : 0 ≤ (rd (rd_L1 l0_0 x15_1) x22_2)
     rotate_left
     ·rw [if_neg c15] at H
      exact absurd H (by simp)
     rw [if_pos c15] at H
     have c15b0 : decide (0 ≤ (rd (rd_L1 l0_0 x15_1) x22_2)) = true := decide_eq_true c15
     clear c15
     by_cases c16 : (rd (rd_L1 l0_0 x15_1) x22_2) < (t343.length : Int)
     rotate_left
     ·rw [if_neg c16] at H
      exact absurd H (by simp)
     rw [if_pos c16] at H
     have c16b0 : decide ((rd (rd_L1 l0_0 x15_1) x22_2) < (t343.length : Int)) = true := decide_eq_true c16
     clear c16
     obtain ⟨ji17, hji17⟩ : ∃ j_ : Int, (mx (wrap64 ((wrap64 ((rd t343 x15_1) + 1)) - (rd t343 (rd (rd_L1 l0_0 x15_1) x22_2)))) (wrap64 (-(wrap64 ((wrap64 ((rd t343 x15_1) + 1)) - (rd t343 (rd (rd_L1 l0_0 x15_1) x22_2))))))) = j_ := ⟨_, rfl⟩
     replace H : ((net_common.f k2 x4_2 (ji17)).bind fun t350 => (net_period.l1 k2 t343 t350 x15_1 l0_0 (l0_0.length : Int) x15_1 (rd_L1 l0_0 x15_1) ((rd_L1 l0_0 x15_1).length : Int) (wrap64 (x22_2 + 1)))) = some r := by first | (rw [hji17] at H; exact H) | (simp only [hji17] at H ⊢; exact H)
     have hji17_ : (if (wrap64 ((wrap64 ((rd t343 x15_1) + 1)) - (rd t343 (rd (rd_L1 l0_0 x15_1) x22_2)))) < (wrap64 (-(wrap64 ((wrap64 ((rd t343 x15_1) + 1)) - (rd t343 (rd (rd_L1 l0_0 x15_1) x22_2)))))) then (wrap64 (-(wrap64 ((wrap64 ((rd t343 x15_1) + 1)) - (rd t343 (rd (rd_L1 l0_0 x15_1) x22_2)))))) else (wrap64 ((wrap64 ((rd t343 x15_1) + 1)) - (rd t343 (rd (rd_L1 l0_0 x15_1) x22_2))))) = ji17 := hji17
     replace H := Option.bind_eq_some_iff.mp H
     obtain ⟨t350, A180, H⟩ := H
     replace H : (net_period.l1 k2 t343 t350 x15_1 l0_0 (l0_0.length : Int) x15_1 (rd_L1 l0_0 x15_1) ((rd_L1 l0_0 x15_1).length : Int) (wrap64 (x22_2 + 1))) = some r := H
     have A18 := am A180
     clear A180
     have H' := am H
     clear H
     have p347 : 0 ≤ (x22_2 : Int) := od zz2
     have q347 : x22_2 < ((rd_L1 l0_0 x15_1).length : Int) := od zz2
     obtain ⟨ad347, e347, hx347_0⟩ := Kd.at_int HR346_0.out x22_2 p347 q347
     cases e347
     replace hx347_0 := (HB.out.cell (World.block_lt_of_cell? w _ hx347_0)).trans hx347_0
     replace p347 := eq_true p347
     replace q347 := eq_true q347
     obtain ⟨Ao19, co19, eo19⟩ := Kd.R_slice HO_3.out
     subst eo19
     have p348 : 0 ≤ (x15_1 : Int) := od zz2
     have q348 : x15_1 < (t343.length : Int) := od zz2
     obtain ⟨ad348, e348, hx348_0⟩ := Kd.at_int (Kd.R_reads' HO_3.out).2.2 x15_1 p348 q348
     cases e348
     replace p348 := eq_true p348
     replace q348 := eq_true q348
     have p349 : 0 ≤ ((rd (rd_L1 l0_0 x15_1) x22_2) : Int) := od zz2
     have q349 : (rd (rd_L1 l0_0 x15_1) x22_2) < (t343.length : Int) := od zz2
     obtain ⟨ad349, e349, hx349_0⟩ := Kd.at_int (Kd.R_reads' HO_3.out).2.2 (rd (rd_L1 l0_0 x15_1) x22_2) p349 q349
     obtain rfl : ad348 = ad349 := (by injection e349)
     replace p349 := eq_true p349
     replace q349 := eq_true q349
     go_wp2_with (first | (go_at_call 104; (with_reducible refine (net_common.calls k2 x4_2 ji17 t350 _ A18.out).mono ?_); rintro e w' ⟨rfl, ⟨nd, rfl⟩⟩; (try exact zz4)))
     repeat (go_quiet (first | (go_at_call 104; (with_reducible refine (net_common.calls k2 x4_2 ji17 t350 _ A18.out).mono ?_); rintro e w' ⟨rfl, ⟨nd, rfl⟩⟩; (try exact zz4))); try go_wp2_with (first | (go_at_call 104; (with_reducible refine (net_common.calls k2 x4_2 ji17 t350 _ A18.out).mono ?_); rintro e w' ⟨rfl, ⟨nd, rfl⟩⟩; (try exact zz4))))
     go_roundg k2
     case measure => have := HK1.out; have := HK2.out; omega
     case rel => exact ⟨(t350), (wrap64 (x22_2 + 1)), zz3, zz3, H', ⟨by have := HK1.out; have := HK2.out; omega⟩, ⟨kR HO_3.out⟩, ⟨kb BK342.out⟩, ⟨bs HB.out⟩⟩
end Go.Proofs.Ytjgdalhdiohclaa.Q
end
section
namespace Go.Proofs.Ytjgdalhdiohclaa.Q
attribute [local go_sem] max2_int min2_int max_two min_two max_three min_three max_four min_four
mutual
def mizmazetop_valid.j0 : Nat → Bool → List (List Int) → Option (Bool)
 | 0, _, _ => none
 | k + 1, x15, x737000 => if x15 = true then (some false) else (if 0 < (x737000.length : Int) then (mizmazetop_valid.l0 k ((rd_L1 x737000 0).length : Int) 0 x737000) else (none))
def mizmazetop_valid.l0 : Nat → Int → Int → List (List Int) → Option (Bool)
 | 0, _, _, _ => none
 | k + 1, x3, x4, x737000 => if x4 < (x737000.length : Int) then (if 0 ≤ x4 then (if ((rd_L1 x737000 x4).length : Int) = x3 then (if x3 < 1 then (mizmazetop_valid.j2 k x3 x4 true x737000) else (mizmazetop_valid.j2 k x3 x4 (decide (x3 > 6)) x737000)) else (mizmazetop_valid.j2 k x3 x4 true x737000)) else (none)) else (some true)
def mizmazetop_valid.j2 : Nat → Int → Int → Bool → List (List Int) → Option (Bool)
 | 0, _, _, _, _ => none
 | k + 1, x3, x4, x43, x737000 => if x43 = true then (some false) else (mizmazetop_valid.l1 k x3 x4 0 x737000)
def mizmazetop_valid.l1 : Nat → Int → Int → Int → List (List Int) → Option (Bool)
 | 0, _, _, _, _ => none
 | k + 1, x3, x4, x5, x737000 => if x5 < x3 then (if 0 ≤ x4 then (if x4 < (x737000.length : Int) then (if 0 ≤ x5 then (if x5 < ((rd_L1 x737000 x4).length : Int) then (if (rd (rd_L1 x737000 x4) x5) < 0 then (some false) else (if (rd (rd_L1 x737000 x4) x5) ≥ (x737000.length : Int) then (some false) else (mizmazetop_valid.l1 k x3 x4 (wrap64 (x5 + 1)) x737000))) else (none)) else (none)) else (none)) else (none)) else (mizmazetop_valid.l0 k x3 (wrap64 (x4 + 1)) x737000)
end
def mizmazetop_valid.f (k : Nat) (l0_0 : List (List Int)) : Option (Bool) := if (l0_0.length : Int) < 1 then (mizmazetop_valid.j0 k true l0_0) else (mizmazetop_valid.j0 k (decide ((l0_0.length : Int) > 60)) l0_0)
theorem mizmazetop_valid.calls (k : Nat) (A0_0 : Option Addr) (c0_0 : Nat) (l0_0 : List (List Int)) (r : Bool) (w : World) (hr0_0 : Kd.C (Kd.slice 3 (Kd.int .i64)) w A0_0 l0_0.length l0_0) (hc0_0 : l0_0.length ≤ c0_0) (h : mizmazetop_valid.f k l0_0 = some r) :
  Calls Try.prog 54 #[.agg #[.slice A0_0 l0_0.length c0_0]] w fun e w' => e = .returned (.bool r) ∧ Below w.heap.size w w' := by
 have hu24 := Try.underlying24
 have HR0_0 := am hr0_0
 have HC0_0 := am hc0_0
 clear hr0_0 hc0_0
 have HB := am (Below.refl w.heap.size w)
 have H : (if (l0_0.length : Int) < 1 then (mizmazetop_valid.j0 k true l0_0) else (mizmazetop_valid.j0 k (decide ((l0_0.length : Int) > 60)) l0_0)) = some r := h
 clear h
 have HC2 := am H
 clear H
 go_enter Try.func54, Try.ntmps54
 go_upto_region 1 with (first | ((with_reducible refine gate_dst (N := 1) rfl ?_); (try (refine gate_guard (by rfl) ?_; dsimp only)); refine box_event zz5 (N := 1) zz5 (cs := #[.slice A0_0 l0_0.length c0_0]) (t := 24) zz6 ?_; intro gb736 hg w3 hbox hb; have BK736 := am (hbox); have GW736 := am ((by rw [hg]; exact (below_size (bw HB.out)) : w.heap.size ≤ gb736)); have GE736 := am ((by rw [hg]; exact (below_size (bw HB.out)) : w.heap.size ≤ gb736)); replace HB := am (below_step (bw HB.out) hb); clear hb hbox hg))
 repeat (go_quiet (first | ((with_reducible refine gate_dst (N := 1) rfl ?_); (try (refine gate_guard (by rfl) ?_; dsimp only)); refine box_event zz5 (N := 1) zz5 (cs := #[.slice A0_0 l0_0.length c0_0]) (t := 24) zz6 ?_; intro gb736 hg w3 hbox hb; have BK736 := am (hbox); have GW736 := am ((by rw [hg]; exact (below_size (bw HB.out)) : w.heap.size ≤ gb736)); have GE736 := am ((by rw [hg]; exact (below_size (bw HB.out)) : w.heap.size ≤ gb736)); replace HB := am (below_step (bw HB.out) hb); clear hb hbox hg)); go_upto_region 1 with (first | ((with_reducible refine gate_dst (N := 1) rfl ?_); (try (refine gate_guard (by rfl) ?_; dsimp only)); refine box_event zz5 (N := 1) zz5 (cs := #[.slice A0_0 l0_0.length c0_0]) (t := 24) zz6 ?_; intro gb736 hg w3 hbox hb; have BK736 := am (hbox); have GW736 := am ((by rw [hg]; exact (below_size (bw HB.out)) : w.heap.size ≤ gb736)); have GE736 := am ((by rw [hg]; exact (below_size (bw HB.out)) : w.heap.size ≤ gb736)); replace HB := am (below_step (bw HB.out) hb); clear hb hbox hg)))
 (try simp only [Act.put, List.setIfInBounds_toArray, List.set_cons_zero, List.set_cons_succ])
 go_cut [15] (fun v15 wc => ∃ (kq : Nat) (x15_1 : Bool), v15 = .bool x15_1 ∧ Aside0 (mizmazetop_valid.j0 kq x15_1 l0_0 = some r) ∧ Aside0 (kq ≤ k) ∧ Aside0 (wc.heap[gb736]? = some (.cells #[(.slice A0_0 l0_0.length c0_0)] 24 (0, 0))) ∧ Aside0 (Below w.heap.size w wc))
 case first =>
  have H := HC2.out
  clear HC2
  by_cases c4 : (l0_0.length : Int) < 1
  ·rw [if_pos c4] at H
   have c4b0 : decide ((l0_0.length : Int) < 1) = true := decide_eq_true c4
   have c4b1 : decide (l0_0.length < 1) = true := decide_eq_true (by omega)
   clear c4
   (first | rw [c4b0] | (simp only [i64_w, i32_w]; rw [c4b0]) | skip)
   have H' := am H
   clear H
   have hcz5_0 : w3.cell? ⟨gb736, 0, none⟩ = some (.slice A0_0 l0_0.length c0_0) := (blk_cell BK736.out 0).trans rfl
   have hfz5_0 := blk_frozen BK736.out 0
   go_wp2
   repeat (go_quiet (fail); try go_wp2)
   go_meet
   case rel => exact ⟨_, (true), zz3, H', ⟨by first | omega | exact Nat.le_refl _⟩, ⟨kb BK736.out⟩, ⟨bs HB.out⟩⟩
  ·rw [if_neg c4] at H
   have c4b0 : decide ((l0_0.length : Int) < 1) = false := decide_eq_false c4
   have c4b1 : decide (l0_0.length < 1) = false := decide_eq_false (by omega)
   clear c4
   (first | rw [c4b0] | (simp only [i64_w, i32_w]; rw [c4b0]) | skip)
   have H' := am H
   clear H
   have hcz6_0 : w3.cell? ⟨gb736, 0, none⟩ = some (.slice A0_0 l0_0.length c0_0) := (blk_cell BK736.out 0).trans rfl
   have hfz6_0 := blk_frozen BK736.out 0
   go_wp2
   repeat (go_quiet (fail); try go_wp2)
   go_meet
   case rel => exact ⟨_, (decide ((l0_0.length : Int) > 60)), zz3, H', ⟨by first | omega | exact Nat.le_refl _⟩, ⟨kb BK736.out⟩, ⟨bs HB.out⟩⟩
 case rest =>
  clear HC2
  (try clear p2); (try clear c4); (try clear c4b0); (try clear c4b1); (try clear c5); (try clear hcz5_0); (try clear hcz6_0); (try clear hfz5_0); (try clear hfz6_0)
  obtain ⟨kq, x15_1, rfl, HA, HJ1, BK736, HB⟩ := hcut
  cases kq with
  | zero => exact absurd HA.out (by simp [mizmazetop_valid.j0])
  | succ kj1 =>
   have H := HA.out
   clear HA
   simp only [mizmazetop_valid.j0] at H
   by_cases c7 : x15_1 = true
   ·subst c7
    have H1 : (some false) = some r := by rw [if_pos rfl] at H; exact H
    clear H
    have H := H1
    clear H1
    obtain rfl := Option.some.inj H
    go_wp2
    repeat (go_quiet (fail); try go_wp2)
    go_ret
    exact ⟨by first | rfl | (simp [errW_none, errW_some] <;> rfl) | (simp [*, errW_none, errW_some] <;> rfl), bs HB.out⟩
   ·replace c7 := Bool.eq_false_iff.mpr c7
    subst c7
    have H1 : (if 0 < (l0_0.length : Int) then (mizmazetop_valid.l0 kj1 ((rd_L1 l0_0 0).length : Int) 0 l0_0) else (none)) = some r := by rw [if_neg (show ¬ (false = true) by decide)] at H; exact H
    clear H
    have H := H1
    clear H1
    by_cases c8 : 0 < (l0_0.length : Int)
    ·rw [if_pos c8] at H
     have c8b0 : decide (0 < (l0_0.length : Int)) = true := decide_eq_true c8
     have c8b1 : decide (0 < l0_0.length) = true := decide_eq_true (by omega)
     clear c8
     have H' := am H
     clear H
     have hcz9_0 : wc.cell? ⟨gb736, 0, none⟩ = some (.slice A0_0 l0_0.length c0_0) := (blk_cell BK736.out 0).trans rfl
     have hfz9_0 := blk_frozen BK736.out 0
     have p737 : 0 ≤ (0 : Int) := (by omega)
     have q737 : 0 < (l0_0.length : Int) := od zz2
     obtain ⟨ad737, A737_0, c737_0, e737, hx737_0, hl737_0, hi737_0⟩ := at_L1 HR0_0.out 0 p737 q737
     cases e737
     have qi737 : (0 < l0_0.length) = True := eq_true (by omega)
     (try rw [show ((0 : Int)).toNat = 0 from rfl] at hx737_0)
     (try rw [Addr.add_zero'] at hx737_0)
     replace hx737_0 := (HB.out.cell (World.block_lt_of_cell? w _ hx737_0)).trans hx737_0
     have HR737_0 := am hi737_0
     have HC737_0 := am hl737_0
     clear hi737_0 hl737_0
     replace p737 := eq_true p737
     replace q737 := eq_true q737
     go_wp2
     repeat (go_quiet (fail); try go_wp2)
     go_loopg [4] kj1 (fun kq v4 w' => ∃ (x4_2 : Int), v4 = .int .i64 x4_2 ∧ Aside0 (mizmazetop_valid.l0 kq ((rd_L1 l0_0 0).length : Int) x4_2 l0_0 = some r) ∧ Aside0 (kq ≤ kj1) ∧ Aside0 (w'.heap[gb736]? = some (.cells #[(.slice (some ad737) l0_0.length c0_0)] 24 (0, 0))) ∧ Aside0 (Below w.heap.size w w'))
     case atStart => exact ⟨(0), zz3, H', ⟨Nat.le_refl _⟩, ⟨kb BK736.out⟩, ⟨bs HB.out⟩⟩
     case round =>
      clear H'
      (try clear p2); (try clear c4); (try clear c4b0); (try clear c4b1); (try clear c5); (try clear c7); (try clear p7); (try clear q7); (try clear hx7); (try clear qi7); (try clear c8); (try clear c8b0); (try clear c8b1); (try clear hcz5_0); (try clear hcz6_0); (try clear hcz9_0); (try clear hfz5_0); (try clear hfz6_0); (try clear hfz9_0); (try clear hx737_0); (try clear p2); (try clear p737); (try clear q737)
      obtain ⟨x4_2, rfl, HA, HK2, BK736, HB⟩ := hrel
      cases gk with
      | zero => exact absurd HA.out (by simp [mizmazetop_valid.l0])
      | succ k2 =>
       have H := HA.out
       clear HA
       simp only [mizmazetop_valid.l0] at H
       by_cases c10 : x4_2 < (l0_0.length : Int)
       ·rw [if_pos c10] at H
        have c10b0 : decide (x4_2 < (l0_0.length : Int)) = true := decide_eq_true c10
        clear c10
        have HC11 := am H
        clear H
        have hcz12_0 : wr.cell? ⟨gb736, 0, none⟩ = some (.slice (some ad737) l0_0.length c0_0) := (blk_cell BK736.out 0).trans rfl
        have hfz12_0 := blk_frozen BK736.out 0
        go_upto_region 7 with (fail)
        repeat (go_quiet (fail); go_upto_region 7 with (fail))
        go_cut [43] (fun v43 wc => ∃ (kq : Nat) (x43_10 : Bool), v43 = .bool x43_10 ∧ Aside0 (mizmazetop_valid.j2 kq ((rd_L1 l0_0 0).length : Int) x4_2 x43_10 l0_0 = some r) ∧ Aside0 (kq ≤ k2) ∧ Aside0 (wc.heap[gb736]? = some (.cells #[(.slice (some ad737) l0_0.length c0_0)] 24 (0, 0))) ∧ Aside0 (Below w.heap.size w wc))
        case first =>
         have H := HC11.out
         clear HC11
         by_cases c13 : 0 ≤ x4_2
         ·rw [if_pos c13] at H
          have c13b0 : decide (0 ≤ x4_2) = true := decide_eq_true c13
          clear c13
          (first | rw [c13b0] | (simp only [i64_w, i32_w]; rw [c13b0]) | skip)
          by_cases c14 : ((rd_L1 l0_0 x4_2).length : Int) = ((rd_L1 l0_0 0).length : Int)
          ·rw [if_pos c14] at H
           have c14b0 : (((rd_L1 l0_0 x4_2).length : Int) == ((rd_L1 l0_0 0).length : Int)) = true := beq_iff_eq.mpr c14
           have c14b1 : (((rd_L1 l0_0 x4_2).length : Int) != ((rd_L1 l0_0 0).length : Int)) = false := bne_eq_false_iff_eq.mpr c14
           have c14b2 : ((rd_L1 l0_0 x4_2).length == (rd_L1 l0_0 0).length) = true := by first | simpa using c14 | (simp at c14 ⊢; omega)
           clear c14
           by_cases c15 : ((rd_L1 l0_0 0).length : Int) < 1
           ·rw [if_pos c15] at H
            have c15b0 : decide (((rd_L1 l0_0 0).length : Int) < 1) = true := decide_eq_true c15
            have c15b1 : decide ((rd_L1 l0_0 0).length < 1) = true := decide_eq_true (by omega)
            clear c15
            have H' := am H
            clear H
            have hcz16_0 : wr.cell? ⟨gb736, 0, none⟩ = some (.slice (some ad737) l0_0.length c0_0) := (blk_cell BK736.out 0).trans rfl
            have hfz16_0 := blk_frozen BK736.out 0
            have p738 : 0 ≤ (x4_2 : Int) := od zz2
            have q738 : x4_2 < (l0_0.length : Int) := od zz2
            obtain ⟨ad738, A738_0, c738_0, e738, hx738_0, hl738_0, hi738_0⟩ := at_L1 HR0_0.out x4_2 p738 q738
            obtain rfl : ad737 = ad738 := (by injection e738)
            replace hx738_0 := (HB.out.cell (World.block_lt_of_cell? w _ hx738_0)).trans hx738_0
            have HR738_0 := am hi738_0
            have HC738_0 := am hl738_0
            clear hi738_0 hl738_0
            replace p738 := eq_true p738
            replace q738 := eq_true q738
            go_wp2
            repeat (go_quiet (fail); try go_wp2)
            go_meet
            case rel => exact ⟨_, (true), zz3, H', ⟨by have := HJ1.out; have := HK2.out; first | omega | exact Nat.le_refl _⟩, ⟨kb BK736.out⟩, ⟨bs HB.out⟩⟩
           ·rw [if_neg c15] at H
            have c15b0 : decide (((rd_L1 l0_0 0).length : Int) < 1) = false := decide_eq_false c15
            have c15b1 : decide ((rd_L1 l0_0 0).length < 1) = false := decide_eq_false (by omega)
            clear c15
            have H' := am H
            clear H
            have hcz17_0 : wr.cell? ⟨gb736, 0, none⟩ = some (.slice (some ad737) l0_0.length c0_0) := (blk_cell BK736.out 0).trans rfl
            have hfz17_0 := blk_frozen BK736.out 0
            have p738 : 0 ≤ (x4_2 : Int) := od zz2
            have q738 : x4_2 < (l0_0.length : Int) := od zz2
            obtain ⟨ad738, A738_0, c738_0, e738, hx738_0, hl738_0, hi738_0⟩ := at_L1 HR0_0.out x4_2 p738 q738
            obtain rfl : ad737 = ad738 := (by injection e738)
            replace hx738_0 := (HB.out.cell (World.block_lt_of_cell? w _ hx738_0)).trans hx738_0
            have HR738_0 := am hi738_0
            have HC738_0 := am hl738_0
            clear hi738_0 hl738_0
            replace p738 := eq_true p738
            replace q738 := eq_true q738
            go_wp2
            repeat (go_quiet (fail); try go_wp2)
            go_meet
            case rel => exact ⟨_, (decide (((rd_L1 l0_0 0).length : Int) > 6)), zz3, H', ⟨by have := HJ1.out; have := HK2.out; first | omega | exact Nat.le_refl _⟩, ⟨kb BK736.out⟩, ⟨bs HB.out⟩⟩
          ·rw [if_neg c14] at H
           have c14b0 : (((rd_L1 l0_0 x4_2).length : Int) == ((rd_L1 l0_0 0).length : Int)) = false := beq_eq_false_iff_ne.mpr c14
           have c14b1 : (((rd_L1 l0_0 x4_2).length : Int) != ((rd_L1 l0_0 0).length : Int)) = true := bne_iff_ne.mpr c14
           have c14b2 : ((rd_L1 l0_0 x4_2).length == (rd_L1 l0_0 0).length) = false := by first | simpa using c14 | (simp at c14 ⊢; omega)
           have H' := am H
           clear H
           have hcz18_0 : wr.cell? ⟨gb736, 0, none⟩ = some (.slice (some ad737) l0_0.length c0_0) := (blk_cell BK736.out 0).trans rfl
           have hfz18_0 := blk_frozen BK736.out 0
           have p738 : 0 ≤ (x4_2 : Int) := od zz2
           have q738 : x4_2 < (l0_0.length : Int) := od zz2
           obtain ⟨ad738, A738_0, c738_0, e738, hx738_0, hl738_0, hi738_0⟩ := at_L1 HR0_0.out x4_2 p738 q738
           obtain rfl : ad737 = ad738 := (by injection e738)
           replace hx738_0 := (HB.out.cell (World.block_lt_of_cell? w _ hx738_0)).trans hx738_0
           have HR738_0 := am hi738_0
           have HC738_0 := am hl738_0
           clear hi738_0 hl738_0
           replace p738 := eq_true p738
           replace q738 := eq_true q738
           go_wp2
           repeat (go_quiet (fail); try go_wp2)
           go_meet
           case rel => exact ⟨_, (true), zz3, H', ⟨by have := HJ1.out; have := HK2.out; first | omega | exact Nat.le_refl _⟩, ⟨kb BK736.out⟩, ⟨bs HB.out⟩⟩
         ·rw [if_neg c13] at H
          exact absurd H (by simp)
        case rest =>
         clear HC11
         (try clear c1); (try clear p2); (try clear c4); (try clear c4b0); (try clear c4b1); (try clear c5); (try clear c7); (try clear p7); (try clear q7); (try clear hx7); (try clear qi7); (try clear c8); (try clear c8b0); (try clear c8b1); (try clear c10); (try clear c10b0); (try clear c13); (try clear c13b0); (try clear c14); (try clear c14b0); (try clear c14b1); (try clear c14b2); (try clear c15); (try clear c15b0); (try clear c15b1); (try clear hcz12_0); (try clear hcz16_0); (try clear hcz17_0); (try clear hcz18_0); (try clear hcz5_0); (try clear hcz6_0); (try clear hcz9_0); (try clear hfz12_0); (try clear hfz16_0); (try clear hfz17_0); (try clear hfz18_0); (try clear hfz5_0); (try clear hfz6_0); (try clear hfz9_0); (try clear hx737_0); (try clear hx738_0); (try clear p2); (try clear p7); (try clear p737); (try clear p738); (try clear q7); (try clear q737); (try clear q738)
         obtain ⟨kq, x43_10, rfl, HA, HJ10, BK736, HB⟩ := hcut
         cases kq with
         | zero => exact absurd HA.out (by simp [mizmazetop_valid.j2])
         | succ kj10 =>
          have H := HA.out
          clear HA
          simp only [mizmazetop_valid.j2] at H
          by_cases c19 : x43_10 = true
          ·subst c19
           have H1 : (some false) = some r := by rw [if_pos rfl] at H; exact H
           clear H
           have H := H1
           clear H1
           obtain rfl := Option.some.inj H
           go_wp2
           repeat (go_quiet (fail); try go_wp2)
           go_ret
           exact ⟨by first | rfl | (simp [errW_none, errW_some] <;> rfl) | (simp [*, errW_none, errW_some] <;> rfl), bs HB.out⟩
          ·replace c19 := Bool.eq_false_iff.mpr c19
           subst c19
           have H1 : (mizmazetop_valid.l1 kj10 ((rd_L1 l0_0 0).length : Int) x4_2 0 l0_0) = some r := by rw [if_neg (show ¬ (false = true) by decide)] at H; exact H
           clear H
           have H := H1
           clear H1
           have H' := am H
           clear H
           go_wp2
           repeat (go_quiet (fail); try go_wp2)
           go_loopg [5] kj10 (fun kq v5 w' => ∃ (x5_4 : Int), v5 = .int .i64 x5_4 ∧ Aside0 (mizmazetop_valid.l1 kq ((rd_L1 l0_0 0).length : Int) x4_2 x5_4 l0_0 = some r) ∧ Aside0 (kq ≤ kj10) ∧ Aside0 (w'.heap[gb736]? = some (.cells #[(.slice (some ad737) l0_0.length c0_0)] 24 (0, 0))) ∧ Aside0 (Below w.heap.size w w'))
           case atStart => exact ⟨(0), zz3, H', ⟨Nat.le_refl _⟩, ⟨kb BK736.out⟩, ⟨bs HB.out⟩⟩
           case round =>
            clear H'
            (try clear c1); (try clear p2); (try clear c4); (try clear c4b0); (try clear c4b1); (try clear c5); (try clear c7); (try clear p7); (try clear q7); (try clear hx7); (try clear qi7); (try clear c8); (try clear c8b0); (try clear c8b1); (try clear c10); (try clear c10b0); (try clear c13); (try clear c13b0); (try clear c14); (try clear c14b0); (try clear c14b1); (try clear c14b2); (try clear c15); (try clear c15b0); (try clear c15b1); (try clear c19); (try clear hcz12_0); (try clear hcz16_0); (try clear hcz17_0); (try clear hcz18_0); (try clear hcz5_0); (try clear hcz6_0); (try clear hcz9_0); (try clear hfz12_0); (try clear hfz16_0); (try clear hfz17_0); (try clear hfz18_0); (try clear hfz5_0); (try clear hfz6_0); (try clear hfz9_0); (try clear hx737_0); (try clear hx738_0); (try clear p2); (try clear p7); (try clear p737); (try clear p738); (try clear q7); (try clear q737); (try clear q738)
            obtain ⟨x5_4, rfl, HA, HK4, BK736, HB⟩ := hrel
            cases gk with
            | zero => exact absurd HA.out (by simp [mizmazetop_valid.l1])
            | succ k4 =>
             have H := HA.out
             clear HA
             simp only [mizmazetop_valid.l1] at H
             by_cases c20 : x5_4 < ((rd_L1 l0_0 0).length : Int)
             ·rw [if_pos c20] at H
              have c20b0 : decide (x5_4 < ((rd_L1 l0_0 0).length : Int)) = true := decide_eq_true c20
              clear c20
              by_cases c21 : 0 ≤ x4_2
              ·rw [if_pos c21] at H
               have c21b0 : decide (0 ≤ x4_2) = true := decide_eq_true c21
               clear c21
               by_cases c22 : x4_2 < (l0_0.length : Int)
               ·rw [if_pos c22] at H
                have c22b0 : decide (x4_2 < (l0_0.length : Int)) = true := decide_eq_true c22
                clear c22
                by_cases c23 : 0 ≤ x5_4
                ·rw [if_pos c23] at H
                 have c23b0 : decide (0 ≤ x5_4) = true := decide_eq_true c23
                 clear c23
                 by_cases c24 : x5_4 < ((rd_L1 l0_0 x4_2).length : Int)
                 ·rw [if_pos c24] at H
                  have c24b0 : decide (x5_4 < ((rd_L1 l0_0 x4_2).length : Int)) = true := decide_eq_true c24
                  clear c24
                  by_cases c25 : (rd (rd_L1 l0_0 x4_2) x5_4) < 0
                  ·rw [if_pos c25] at H
                   have c25b0 : decide ((rd (rd_L1 l0_0 x4_2) x5_4) < 0) = true := decide_eq_true c25
                   clear c25
                   obtain rfl := Option.some.inj H
                   have hcz26_0 : wr.cell? ⟨gb736, 0, none⟩ = some (.slice (some ad737) l0_0.length c0_0) := (blk_cell BK736.out 0).trans rfl
                   have hfz26_0 := blk_frozen BK736.out 0
                   have p739 : 0 ≤ (x4_2 : Int) := od zz2
                   have q739 : x4_2 < (l0_0.length : Int) := od zz2
                   obtain ⟨ad739, A739_0, c739_0, e739, hx739_0, hl739_0, hi739_0⟩ := at_L1 HR0_0.out x4_2 p739 q739
                   obtain rfl : ad737 = ad739 := (by injection e739)
                   replace hx739_0 := (HB.out.cell (World.block_lt_of_cell? w _ hx739_0)).trans hx739_0
                   have HR739_0 := am hi739_0
                   have HC739_0 := am hl739_0
                   clear hi739_0 hl739_0
                   replace p739 := eq_true p739
                   replace q739 := eq_true q739
                   have p740 : 0 ≤ (x5_4 : Int) := od zz2
                   have q740 : x5_4 < ((rd_L1 l0_0 x4_2).length : Int) := od zz2
                   obtain ⟨ad740, e740, hx740_0⟩ := Kd.at_int HR739_0.out x5_4 p740 q740
                   cases e740
                   replace hx740_0 := (HB.out.cell (World.block_lt_of_cell? w _ hx740_0)).trans hx740_0
                   replace p740 := eq_true p740
                   replace q740 := eq_true q740
                   go_wp2
                   repeat (go_quiet (fail); try go_wp2)
                   go_ret
                   exact ⟨by first | rfl | (simp [errW_none, errW_some] <;> rfl) | (simp [*, errW_none, errW_some] <;> rfl), bs HB.out⟩
                  ·rw [if_neg c25] at H
                   have c25b0 : decide ((rd (rd_L1 l0_0 x4_2) x5_4) < 0) = false := decide_eq_false c25
                   clear c25
                   by_cases c27 : (rd (rd_L1 l0_0 x4_2) x5_4) ≥ (l0_0.length : Int)
                   ·rw [if_pos c27] at H
                    have c27b0 : decide ((l0_0.length : Int) ≤ (rd (rd_L1 l0_0 x4_2) x5_4)) = true := decide_eq_true c27
                    clear c27
                    obtain rfl := Option.some.inj H
                    have hcz28_0 : wr.cell? ⟨gb736, 0, none⟩ = some (.slice (some ad737) l0_0.length c0_0) := (blk_cell BK736.out 0).trans rfl
                    have hfz28_0 := blk_frozen BK736.out 0
                    have p739 : 0 ≤ (x4_2 : Int) := od zz2
                    have q739 : x4_2 < (l0_0.length : Int) := od zz2
                    obtain ⟨ad739, A739_0, c739_0, e739, hx739_0, hl739_0, hi739_0⟩ := at_L1 HR0_0.out x4_2 p739 q739
                    obtain rfl : ad737 = ad739 := (by injection e739)
                    replace hx739_0 := (HB.out.cell (World.block_lt_of_cell? w _ hx739_0)).trans hx739_0
                    have HR739_0 := am hi739_0
                    have HC739_0 := am hl739_0
                    clear hi739_0 hl739_0
                    replace p739 := eq_true p739
                    replace q739 := eq_true q739
                    have p740 : 0 ≤ (x5_4 : Int) := od zz2
                    have q740 : x5_4 < ((rd_L1 l0_0 x4_2).length : Int) := od zz2
                    obtain ⟨ad740, e740, hx740_0⟩ := Kd.at_int HR739_0.out x5_4 p740 q740
                    cases e740
                    replace hx740_0 := (HB.out.cell (World.block_lt_of_cell? w _ hx740_0)).trans hx740_0
                    replace p740 := eq_true p740
                    replace q740 := eq_true q740
                    have p741 : 0 ≤ (x4_2 : Int) := od zz2
                    have q741 : x4_2 < (l0_0.length : Int) := od zz2
                    obtain ⟨ad741, A741_0, c741_0, e741, hx741_0, hl741_0, hi741_0⟩ := at_L1 HR0_0.out x4_2 p741 q741
                    obtain rfl : ad737 = ad741 := (by injection e741)
                    replace hx741_0 := (HB.out.cell (World.block_lt_of_cell? w _ hx741_0)).trans hx741_0
                    have HR741_0 := am hi741_0
                    have HC741_0 := am hl741_0
                    clear hi741_0 hl741_0
                    replace p741 := eq_true p741
                    replace q741 := eq_true q741
                    have ea_ := Option.some.inj (hx739_0.symm.trans hx741_0)
                    injection ea_ with ea_ en_ ec_
                    subst ea_
                    subst ec_
                    clear en_
                    have p742 : 0 ≤ (x5_4 : Int) := od zz2
                    have q742 : x5_4 < ((rd_L1 l0_0 x4_2).length : Int) := od zz2
                    obtain ⟨ad742, e742, hx742_0⟩ := Kd.at_int HR741_0.out x5_4 p742 q742
                    cases e742
                    replace hx742_0 := (HB.out.cell (World.block_lt_of_cell? w _ hx742_0)).trans hx742_0
                    replace p742 := eq_true p742
                    replace q742 := eq_true q742
                    go_wp2
                    repeat (go_quiet (fail); try go_wp2)
                    go_ret
                    exact ⟨by first | rfl | (simp [errW_none, errW_some] <;> rfl) | (simp [*, errW_none, errW_some] <;> rfl), bs HB.out⟩
                   ·rw [if_neg c27] at H
                    have c27b0 : decide ((l0_0.length : Int) ≤ (rd (rd_L1 l0_0 x4_2) x5_4)) = false := decide_eq_false c27
                    clear c27
                    have H' := am H
                    clear H
                    have hcz29_0 : wr.cell? ⟨gb736, 0, none⟩ = some (.slice (some ad737) l0_0.length c0_0) := (blk_cell BK736.out 0).trans rfl
                    have hfz29_0 := blk_frozen BK736.out 0
                    have p739 : 0 ≤ (x4_2 : Int) := od zz2
                    have q739 : x4_2 < (l0_0.length : Int) := od zz2
                    obtain ⟨ad739, A739_0, c739_0, e739, hx739_0, hl739_0, hi739_0⟩ := at_L1 HR0_0.out x4_2 p739 q739
                    obtain rfl : ad737 = ad739 := (by injection e739)
                    replace hx739_0 := (HB.out.cell (World.block_lt_of_cell? w _ hx739_0)).trans hx739_0
                    have HR739_0 := am hi739_0
                    have HC739_0 := am hl739_0
                    clear hi739_0 hl739_0
                    replace p739 := eq_true p739
                    replace q739 := eq_true q739
                    have p740 : 0 ≤ (x5_4 : Int) := od zz2
                    have q740 : x5_4 < ((rd_L1 l0_0 x4_2).length : Int) := od zz2
                    obtain ⟨ad740, e740, hx740_0⟩ := Kd.at_int HR739_0.out x5_4 p740 q740
                    cases e740
                    replace hx740_0 := (HB.out.cell (World.block_lt_of_cell? w _ hx740_0)).trans hx740_0
                    replace p740 := eq_true p740
                    replace q740 := eq_true q740
                    have p741 : 0 ≤ (x4_2 : Int) := od zz2
                    have q741 : x4_2 < (l0_0.length : Int) := od zz2
                    obtain ⟨ad741, A741_0, c741_0, e741, hx741_0, hl741_0, hi741_0⟩ := at_L1 HR0_0.out x4_2 p741 q741
                    obtain rfl : ad737 = ad741 := (by injection e741)
                    replace hx741_0 := (HB.out.cell (World.block_lt_of_cell? w _ hx741_0)).trans hx741_0
                    have HR741_0 := am hi741_0
                    have HC741_0 := am hl741_0
                    clear hi741_0 hl741_0
                    replace p741 := eq_true p741
                    replace q741 := eq_true q741
                    have ea_ := Option.some.inj (hx739_0.symm.trans hx741_0)
                    injection ea_ with ea_ en_ ec_
                    subst ea_
                    subst ec_
                    clear en_
                    have p742 : 0 ≤ (x5_4 : Int) := od zz2
                    have q742 : x5_4 < ((rd_L1 l0_0 x4_2).length : Int) := od zz2
                    obtain ⟨ad742, e742, hx742_0⟩ := Kd.at_int HR741_0.out x5_4 p742 q742
                    cases e742
                    replace hx742_0 := (HB.out.cell (World.block_lt_of_cell? w _ hx742_0)).trans hx742_0
                    replace p742 := eq_true p742
                    replace q742 := eq_true q742
                    go_wp2
                    repeat (go_quiet (fail); try go_wp2)
                    go_roundg k4
                    case measure => have := HJ1.out; have := HK2.out; have := HJ10.out; have := HK4.out; omega
                    case rel => exact ⟨(wrap64 (x5_4 + 1)), zz3, H', ⟨by have := HJ1.out; have := HK2.out; have := HJ10.out; have := HK4.out; omega⟩, ⟨kb BK736.out⟩, ⟨bs HB.out⟩⟩
                 ·rw [if_neg c24] at H
                  exact absurd H (by simp)
                ·rw [if_neg c23] at H
                 exact absurd H (by simp)
               ·rw [if_neg c22] at H
                exact absurd H (by simp)
              ·rw [if_neg c21] at H
               exact absurd H (by simp)
             ·rw [if_neg c20] at H
              have c20b0 : decide (x5_4 < ((rd_L1 l0_0 0).length : Int)) = false := decide_eq_false c20
              clear c20
              have H' := am H
              clear H
              go_wp2
              repeat (go_quiet (fail); try go_wp2)
              go_roundg k4
              case measure => have := HJ1.out; have := HK2.out; have := HJ10.out; have := HK4.out; omega
              case rel => exact ⟨(wrap64 (x4_2 + 1)), zz3, H', ⟨by have := HJ1.out; have := HK2.out; have := HJ10.out; have := HK4.out; omega⟩, ⟨kb BK736.out⟩, ⟨bs HB.out⟩⟩
       ·rw [if_neg c10] at H
        have c10b0 : decide (x4_2 < (l0_0.length : Int)) = false := decide_eq_false c10
        clear c10
        obtain rfl := Option.some.inj H
        have hcz30_0 : wr.cell? ⟨gb736, 0, none⟩ = some (.slice (some ad737) l0_0.length c0_0) := (blk_cell BK736.out 0).trans rfl
        have hfz30_0 := blk_frozen BK736.out 0
        go_wp2
        repeat (go_quiet (fail); try go_wp2)
        go_ret
        exact ⟨by first | rfl | (simp [errW_none, errW_some] <;> rfl) | (simp [*, errW_none, errW_some] <;> rfl), bs HB.out⟩
    ·rw [if_neg c8] at H
     exact absurd H (by simp)
end Go.Proofs.Ytjgdalhdiohclaa.Q
end
section
namespace Go.Proofs.Ytjgdalhdiohclaa.Q
attribute [local go_sem] max2_int min2_int max_two min_two max_three min_three max_four min_four
def mizmazetop_lead.l0 : Nat → Int → List Int → Int → List (List Int) → Option (Int)
 | 0, _, _, _, _ => none
 | k + 1, x1, x2, x7, x744000 => if x7 < (x2.length : Int) then (if 0 ≤ x1 then (if x1 < (x744000.length : Int) then (if 0 ≤ x7 then (if 0 ≤ (rd x2 x7) then (if (rd x2 x7) < ((rd_L1 x744000 x1).length : Int) then (mizmazetop_lead.l0 k (rd (rd_L1 x744000 x1) (rd x2 x7)) x2 (wrap64 (x7 + 1)) x744000) else (none)) else (none)) else (none)) else (none)) else (none)) else (some x1)
def mizmazetop_lead.f (k : Nat) (l0_0 : List (List Int)) (a1 : Int) (l2 : List Int) : Option (Int) := mizmazetop_lead.l0 k a1 l2 0 l0_0
theorem mizmazetop_lead.mono_l : ∀ k, (∀ y0 y1 y2 y3, LeO (mizmazetop_lead.l0 k y0 y1 y2 y3) (mizmazetop_lead.l0 (k + 1) y0 y1 y2 y3))
 | 0 => fun _ _ _ _ r h => by simp [mizmazetop_lead.l0] at h
 | k + 1 => by
  have ih0 := mizmazetop_lead.mono_l k
  ·intro y0 y1 y2 y3
   unfold mizmazetop_lead.l0
   with_reducible repeat' first | exact ih0 _ _ _ _ | exact LeO.refl _ | exact LeO.none _ | refine LeO.ite ?_ ?_ | refine LeO.bind ?_ (fun _ => ?_)
theorem mizmazetop_lead.mono : ∀ a0 a1 a2 k, LeO (mizmazetop_lead.f k a0 a1 a2) (mizmazetop_lead.f (k + 1) a0 a1 a2) := by
 intro a0 a1 a2 k
 have ih0 := mizmazetop_lead.mono_l k
 unfold mizmazetop_lead.f
 with_reducible repeat' first | exact ih0 _ _ _ _ | exact LeO.refl _ | exact LeO.none _ | refine LeO.ite ?_ ?_ | refine LeO.bind ?_ (fun _ => ?_)
theorem mizmazetop_lead.calls (k : Nat) (A0_0 : Option Addr) (c0_0 : Nat) (l0_0 : List (List Int)) (a1 : Int) (A2 : Option Addr) (c2 : Nat) (l2 : List Int) (r : Int) (w : World) (hr0_0 : Kd.C (Kd.slice 3 (Kd.int .i64)) w A0_0 l0_0.length l0_0) (hc0_0 : l0_0.length ≤ c0_0) (hr2 : Kd.C (Kd.int .i64) w A2 l2.length l2) (hc2 : l2.length ≤ c2) (h : mizmazetop_lead.f k l0_0 a1 l2 = some r) :
  Calls Try.prog 97 #[.agg #[.slice A0_0 l0_0.length c0_0], .int .i64 a1, .slice A2 l2.length c2] w fun e w' => e = .returned (.int .i64 r) ∧ Below w.heap.size w w' := by
 have hu24 := Try.underlying24
 have HR0_0 := am hr0_0
 have HC0_0 := am hc0_0
 clear hr0_0 hc0_0
 have HR2 := am hr2
 have HC2 := am hc2
 clear hr2 hc2
 have HB := am (Below.refl w.heap.size w)
 have H : (mizmazetop_lead.l0 k a1 l2 0 l0_0) = some r := h
 clear h
 have H' := am H
 clear H
 go_enter Try.func97, Try.ntmps97
 go_wp2_with (first | ((with_reducible refine gate_dst (N := 3) rfl ?_); refine box_event zz5 (N := 3) zz5 (cs := #[.slice A0_0 l0_0.length c0_0]) (t := 24) zz6 ?_; intro gb743 hg w4 hbox hb; have BK743 := am (hbox); have GW743 := am ((by rw [hg]; exact (below_size (bw HB.out)) : w.heap.size ≤ gb743)); have GE743 := am ((by rw [hg]; exact (below_size (bw HB.out)) : w.heap.size ≤ gb743)); replace HB := am (below_step (bw HB.out) hb); clear hb hbox hg))
 repeat (go_quiet (first | ((with_reducible refine gate_dst (N := 3) rfl ?_); refine box_event zz5 (N := 3) zz5 (cs := #[.slice A0_0 l0_0.length c0_0]) (t := 24) zz6 ?_; intro gb743 hg w4 hbox hb; have BK743 := am (hbox); have GW743 := am ((by rw [hg]; exact (below_size (bw HB.out)) : w.heap.size ≤ gb743)); have GE743 := am ((by rw [hg]; exact (below_size (bw HB.out)) : w.heap.size ≤ gb743)); replace HB := am (below_step (bw HB.out) hb); clear hb hbox hg)); try go_wp2_with (first | ((with_reducible refine gate_dst (N := 3) rfl ?_); refine box_event zz5 (N := 3) zz5 (cs := #[.slice A0_0 l0_0.length c0_0]) (t := 24) zz6 ?_; intro gb743 hg w4 hbox hb; have BK743 := am (hbox); have GW743 := am ((by rw [hg]; exact (below_size (bw HB.out)) : w.heap.size ≤ gb743)); have GE743 := am ((by rw [hg]; exact (below_size (bw HB.out)) : w.heap.size ≤ gb743)); replace HB := am (below_step (bw HB.out) hb); clear hb hbox hg)))
 go_loopg [1, 7] k (fun kq v1 v7 w' => ∃ (x1_1 : Int) (x7_1 : Int), v1 = .int .i64 x1_1 ∧ v7 = .int .i64 x7_1 ∧ Aside0 (mizmazetop_lead.l0 kq x1_1 l2 x7_1 l0_0 = some r) ∧ Aside0 (kq ≤ k) ∧ Aside0 (w'.heap[gb743]? = some (.cells #[(.slice A0_0 l0_0.length c0_0)] 24 (0, 0))) ∧ Aside0 (Below w.heap.size w w'))
 case atStart => exact ⟨(a1), (0), zz3, zz3, H', ⟨Nat.le_refl _⟩, ⟨kb BK743.out⟩, ⟨bs HB.out⟩⟩
 case round =>
  clear H'
  (try clear c2); (try clear p2)
  obtain ⟨x1_1, x7_1, rfl, rfl, HA, HK1, BK743, HB⟩ := hrel
  cases gk with
  | zero => exact absurd HA.out (by simp [mizmazetop_lead.l0])
  | succ k1 =>
   have H := HA.out
   clear HA
   simp only [mizmazetop_lead.l0] at H
   by_cases c5 : x7_1 < (l2.length : Int)
   ·rw [if_pos c5] at H
    have c5b0 : decide (x7_1 < (l2.length : Int)) = true := decide_eq_true c5
    clear c5
    by_cases c6 : 0 ≤ x1_1
    ·rw [if_pos c6] at H
     have c6b0 : decide (0 ≤ x1_1) = true := decide_eq_true c6
     clear c6
     by_cases c7 : x1_1 < (l0_0.length : Int)
     ·rw [if_pos c7] at H
      have c7b0 : decide (x1_1 < (l0_0.length : Int)) = true := decide_eq_true c7
      clear c7
      by_cases c8 : 0 ≤ x7_1
      ·rw [if_pos c8] at H
       have c8b0 : decide (0 ≤ x7_1) = true := decide_eq_true c8
       clear c8
       by_cases c9 : 0 ≤ (rd l2 x7_1)
       ·rw [if_pos c9] at H
        have c9b0 : decide (0 ≤ (rd l2 x7_1)) = true := decide_eq_true c9
        clear c9
        by_cases c10 : (rd l2 x7_1) < ((rd_L1 l0_0 x1_1).length : Int)
        ·rw [if_pos c10] at H
         have c10b0 : decide ((rd l2 x7_1) < ((rd_L1 l0_0 x1_1).length : Int)) = true := decide_eq_true c10
         clear c10
         have H' := am H
         clear H
         have hcz11_0 : wr.cell? ⟨gb743, 0, none⟩ = some (.slice A0_0 l0_0.length c0_0) := (blk_cell BK743.out 0).trans rfl
         have hfz11_0 := blk_frozen BK743.out 0
         have p744 : 0 ≤ (x1_1 : Int) := od zz2
         have q744 : x1_1 < (l0_0.length : Int) := od zz2
         obtain ⟨ad744, A744_0, c744_0, e744, hx744_0, hl744_0, hi744_0⟩ := at_L1 HR0_0.out x1_1 p744 q744
         cases e744
         replace hx744_0 := (HB.out.cell (World.block_lt_of_cell? w _ hx744_0)).trans hx744_0
         have HR744_0 := am hi744_0
         have HC744_0 := am hl744_0
         clear hi744_0 hl744_0
         replace p744 := eq_true p744
         replace q744 := eq_true q744
         have p745 : 0 ≤ (x7_1 : Int) := od zz2
         have q745 : x7_1 < (l2.length : Int) := od zz2
         obtain ⟨ad745, e745, hx745_0⟩ := Kd.at_int HR2.out x7_1 p745 q745
         cases e745
         replace hx745_0 := (HB.out.cell (World.block_lt_of_cell? w _ hx745_0)).trans hx745_0
         replace p745 := eq_true p745
         replace q745 := eq_true q745
         have p746 : 0 ≤ ((rd l2 x7_1) : Int) := od zz2
         have q746 : (rd l2 x7_1) < ((rd_L1 l0_0 x1_1).length : Int) := od zz2
         obtain ⟨ad746, e746, hx746_0⟩ := Kd.at_int HR744_0.out (rd l2 x7_1) p746 q746
         cases e746
         replace hx746_0 := (HB.out.cell (World.block_lt_of_cell? w _ hx746_0)).trans hx746_0
         replace p746 := eq_true p746
         replace q746 := eq_true q746
         go_wp2
         repeat (go_quiet (fail); try go_wp2)
         go_roundg k1
         case measure => have := HK1.out; omega
         case rel => exact ⟨(rd (rd_L1 l0_0 x1_1) (rd l2 x7_1)), (wrap64 (x7_1 + 1)), zz3, zz3, H', ⟨by have := HK1.out; omega⟩, ⟨kb BK743.out⟩, ⟨bs HB.out⟩⟩
        ·rw [if_neg c10] at H
         exact absurd H (by simp)
       ·rw [if_neg c9] at H
        exact absurd H (by simp)
      ·rw [if_neg c8] at H
       exact absurd H (by simp)
     ·rw [if_neg c7] at H
      exact absurd H (by simp)
    ·rw [if_neg c6] at H
     exact absurd H (by simp)
   ·rw [if_neg c5] at H
    have c5b0 : decide (x7_1 < (l2.length : Int)) = false := decide_eq_false c5
    clear c5
    obtain rfl := Option.some.inj H
    go_wp2
    repeat (go_quiet (fail); try go_wp2)
    go_ret
    exact ⟨by first | rfl | (simp [errW_none, errW_some] <;> rfl) | (simp [*, errW_none, errW_some] <;> rfl), bs HB.out⟩
end Go.Proofs.Ytjgdalhdiohclaa.Q
end
section
namespace Go.Proofs.Ytjgdalhdiohclaa.Q
attribute [local go_sem] max2_int min2_int max_two min_two max_three min_three max_four min_four
def mizmazetop_spread.l0 : Nat → List Int → List Bool → Int → Int → List (List Int) → Option (Int)
 | 0, _, _, _, _, _ => none
 | k + 1, x1, x5, x6, x7, x748000 => if x7 < (x748000.length : Int) then ((mizmazetop_lead.f k x748000 x7 x1).bind fun t751 => (if 0 ≤ t751 then (if t751 < (x5.length : Int) then (if rdOf false x5 t751 = true then (mizmazetop_spread.l0 k x1 (x5.set (t751 : Int).toNat true) x6 (wrap64 (x7 + 1)) x748000) else (mizmazetop_spread.l0 k x1 (x5.set (t751 : Int).toNat true) (wrap64 (x6 + 1)) (wrap64 (x7 + 1)) x748000)) else (none)) else (none))) else (some x6)
def mizmazetop_spread.f (k : Nat) (l0_0 : List (List Int)) (l1 : List Int) : Option (Int) := if 0 ≤ (l0_0.length : Int) then (if ((l0_0.length : Int) : Int).toNat ≤ 281474976710656 then (mizmazetop_spread.l0 k l1 (List.replicate ((l0_0.length : Int) : Int).toNat false) 0 0 l0_0) else (none)) else (none)
theorem mizmazetop_spread.mono_l : ∀ k, (∀ y0 y1 y2 y3 y4, LeO (mizmazetop_spread.l0 k y0 y1 y2 y3 y4) (mizmazetop_spread.l0 (k + 1) y0 y1 y2 y3 y4))
 | 0 => fun _ _ _ _ _ r h => by simp [mizmazetop_spread.l0] at h
 | k + 1 => by
  have ih0 := mizmazetop_spread.mono_l k
  ·intro y0 y1 y2 y3 y4
   unfold mizmazetop_spread.l0
   with_reducible repeat' first | exact ih0 _ _ _ _ _ | exact mizmazetop_lead.mono _ _ _ _ | exact LeO.refl _ | exact LeO.none _ | refine LeO.ite ?_ ?_ | refine LeO.bind ?_ (fun _ => ?_)
theorem mizmazetop_spread.mono : ∀ a0 a1 k, LeO (mizmazetop_spread.f k a0 a1) (mizmazetop_spread.f (k + 1) a0 a1) := by
 intro a0 a1 k
 have ih0 := mizmazetop_spread.mono_l k
 unfold mizmazetop_spread.f
 with_reducible repeat' first | exact ih0 _ _ _ _ _ | exact mizmazetop_lead.mono _ _ _ _ | exact LeO.refl _ | exact LeO.none _ | refine LeO.ite ?_ ?_ | refine LeO.bind ?_ (fun _ => ?_)
theorem mizmazetop_spread.calls (k : Nat) (A0_0 : Option Addr) (c0_0 : Nat) (l0_0 : List (List Int)) (A1 : Option Addr) (c1 : Nat) (l1 : List Int) (r : Int) (w : World) (hr0_0 : Kd.C (Kd.slice 3 (Kd.int .i64)) w A0_0 l0_0.length l0_0) (hc0_0 : l0_0.length ≤ c0_0) (hr1 : Kd.C (Kd.int .i64) w A1 l1.length l1) (hc1 : l1.length ≤ c1) (h : mizmazetop_spread.f k l0_0 l1 = some r) :
  Calls Try.prog 57 #[.agg #[.slice A0_0 l0_0.length c0_0], .slice A1 l1.length c1] w fun e w' => e = .returned (.int .i64 r) ∧ Below w.heap.size w w' := by
 have hu24 := Try.underlying24
 have HR0_0 := am hr0_0
 have HC0_0 := am hc0_0
 clear hr0_0 hc0_0
 have HR1 := am hr1
 have HC1 := am hc1
 clear hr1 hc1
 have HB := am (Below.refl w.heap.size w)
 have H : (if 0 ≤ (l0_0.length : Int) then (if ((l0_0.length : Int) : Int).toNat ≤ 281474976710656 then (mizmazetop_spread.l0 k l1 (List.replicate ((l0_0.length : Int) : Int).toNat false) 0 0 l0_0) else (none)) else (none)) = some r := h
 clear h
 by_cases c3 : 0 ≤ (l0_0.length : Int)
 ·rw [if_pos c3] at H
  have c3b0 := eq_true c3
  have c3b1 : decide (0 ≤ (l0_0.length : Int)) = true := decide_eq_true c3
  clear c3
  by_cases c4 : ((l0_0.length : Int) : Int).toNat ≤ 281474976710656
  ·rw [if_pos c4] at H
   have c4b0 := eq_true c4
   have c4b1 : decide (((l0_0.length : Int) : Int).toNat ≤ 281474976710656) = true := decide_eq_true c4
   clear c4
   obtain ⟨y748, hy748⟩ : ∃ y_ : List Bool, y_ = (List.replicate ((l0_0.length : Int) : Int).toNat false) := ⟨_, rfl⟩
   replace H : (mizmazetop_spread.l0 k l1 y748 0 0 l0_0) = some r := by first | (rw [hy748]; with_reducible exact H) | (have H2_ := (Option.bind_some _ _).symm.trans H; rw [hy748]; with_reducible exact H2_) | (have H2_ := (Option.bind_some _ _).symm.trans H; with_reducible exact H2_) | with_reducible exact H | (rw [hy748]; exact H) | exact H
   have Ny748 := am hy748
   clear hy748
   have H' := am H
   clear H
   go_enter Try.func57, Try.ntmps57
   go_wp2_with (first | ((with_reducible refine gate_dst (N := 2) rfl ?_); refine box_event zz5 (N := 2) zz5 (cs := #[.slice A0_0 l0_0.length c0_0]) (t := 24) zz6 ?_; intro gb747 hg w5 hbox hb; have BK747 := am (hbox); have GW747 := am ((by rw [hg]; exact (below_size (bw HB.out)) : w.heap.size ≤ gb747)); have GE747 := am ((by rw [hg]; exact (below_size (bw HB.out)) : w.heap.size ≤ gb747)); replace HB := am (below_step (bw HB.out) hb); clear hb hbox hg; have hcz6_0 : w5.cell? ⟨gb747, 0, none⟩ = some (.slice A0_0 l0_0.length c0_0) := (blk_cell BK747.out 0).trans rfl; have hfz6_0 := blk_frozen BK747.out 0) | ((with_reducible refine gate_dst (N := 12) rfl ?_); refine Kd.R_make Kd.bool _ 4 rfl (N := 12) rfl 47 _ _ rfl (l0_0.length : Int) rfl rfl Try.underlying47 (.bool false) 1 info4 rfl (by decide) (by omega) false (ok := fun _ => True) (okp := fun _ => True) rfl (fun _ hk => hk) trivial (od zz2) (Nat.le_trans (Nat.mul_le_mul_right _ (od zz2 : (l0_0.length : Int).toNat ≤ 281474976710656)) (by omega)) (Below.refl _ _) (Nat.le_refl _) ?_; intro v749 w7 ho8 hb hg_ hnew_; clear hg_ hnew_; (first | rw [← Ny748.out] at ho8 | (simp only [Int.reduceToNat] at ho8; rw [← Ny748.out] at ho8)); have HO750 := am (Kd.R_lower ho8 (below_size (bs HB.out))); replace BK747 := am (blk_below (g := gb747) (o := .cells #[.slice A0_0 l0_0.length c0_0] 24 (0, 0)) (kb BK747.out) hb); replace HB := am (below_step (bs HB.out) hb); clear hb ho8))
   go_loopg [6, 7] k (fun kq v6 v7 w' => ∃ (x5_1 : List Bool) (x6_1 : Int) (x7_1 : Int), v6 = .int .i64 x6_1 ∧ v7 = .int .i64 x7_1 ∧ Aside0 (mizmazetop_spread.l0 kq l1 x5_1 x6_1 x7_1 l0_0 = some r) ∧ Aside0 (kq ≤ k) ∧ Aside0 (Kd.R Kd.bool 4 w' w.heap.size (fun _ => True) v749 x5_1) ∧ Aside0 (w'.heap[gb747]? = some (.cells #[(.slice A0_0 l0_0.length c0_0)] 24 (0, 0))) ∧ Aside0 (Below w.heap.size w w'))
   case atStart => exact ⟨(y748), (0), (0), zz3, zz3, H', ⟨Nat.le_refl _⟩, ⟨kR HO750.out⟩, ⟨kb BK747.out⟩, ⟨bs HB.out⟩⟩
   case round =>
    clear H'
    (try clear c1); (try clear p2); (try clear c3); (try clear c3b0); (try clear c3b1); (try clear c4); (try clear c4b0); (try clear c4b1); (try clear c5); (try clear hcz6_0); (try clear hfz6_0)
    obtain ⟨x5_1, x6_1, x7_1, rfl, rfl, HA, HK1, HO_5, BK747, HB⟩ := hrel
    cases gk with
    | zero => exact absurd HA.out (by simp [mizmazetop_spread.l0])
    | succ k1 =>
     have H := HA.out
     clear HA
     simp only [mizmazetop_spread.l0] at H
     by_cases c9 : x7_1 < (l0_0.length : Int)
     ·rw [if_pos c9] at H
      have c9b0 : decide (x7_1 < (l0_0.length : Int)) = true := decide_eq_true c9
      clear c9
      replace H := Option.bind_eq_some_iff.mp H
      obtain ⟨t751, A100, H⟩ := H
      replace H : (if 0 ≤ t751 then (if t751 < (x5_1.length : Int) then (if rdOf false x5_1 t751 = true then (mizmazetop_spread.l0 k1 l1 (x5_1.set (t751 : Int).toNat true) x6_1 (wrap64 (x7_1 + 1)) l0_0) else (mizmazetop_spread.l0 k1 l1 (x5_1.set (t751 : Int).toNat true) (wrap64 (x6_1 + 1)) (wrap64 (x7_1 + 1)) l0_0)) else (none)) else (none)) = some r := H
      have A10 := am A100
      clear A100
      by_cases c11 : 0 ≤ t751
      ·rw [if_pos c11] at H
       have c11b0 : decide (0 ≤ t751) = true := decide_eq_true c11
       clear c11
       by_cases c12 : t751 < (x5_1.length : Int)
       ·rw [if_pos c12] at H
        have c12b0 : decide (t751 < (x5_1.length : Int)) = true := decide_eq_true c12
        clear c12
        obtain ⟨bq13, hbq13⟩ : ∃ b_ : Bool, b_ = (rdOf false x5_1 t751) := ⟨_, rfl⟩
        replace H : (if bq13 = true then (mizmazetop_spread.l0 k1 l1 (x5_1.set (t751 : Int).toNat true) x6_1 (wrap64 (x7_1 + 1)) l0_0) else (mizmazetop_spread.l0 k1 l1 (x5_1.set (t751 : Int).toNat true) (wrap64 (x6_1 + 1)) (wrap64 (x7_1 + 1)) l0_0)) = some r := by rw [← hbq13] at H; exact H
        have Nbq13 := am hbq13
        clear hbq13
        by_cases c14 : bq13 = true
        ·subst c14
         have H1 : (mizmazetop_spread.l0 k1 l1 (x5_1.set (t751 : Int).toNat true) x6_1 (wrap64 (x7_1 + 1)) l0_0) = some r := by rw [if_pos rfl] at H; exact H
         clear H
         have H := H1
         clear H1
         obtain ⟨y753, hy753⟩ : ∃ y_ : List Bool, y_ = (x5_1.set (t751 : Int).toNat true) := ⟨_, rfl⟩
         replace H : (mizmazetop_spread.l0 k1 l1 y753 x6_1 (wrap64 (x7_1 + 1)) l0_0) = some r := by first | (rw [hy753]; with_reducible exact H) | (have H2_ := (Option.bind_some _ _).symm.trans H; rw [hy753]; with_reducible exact H2_) | (have H2_ := (Option.bind_some _ _).symm.trans H; with_reducible exact H2_) | with_reducible exact H | (rw [hy753]; exact H) | exact H
         have Ny753 := am hy753
         clear hy753
         have H' := am H
         clear H
         have hcz16_0 : wr.cell? ⟨gb747, 0, none⟩ = some (.slice A0_0 l0_0.length c0_0) := (blk_cell BK747.out 0).trans rfl
         have hfz16_0 := blk_frozen BK747.out 0
         go_wp2_with (first | ((with_reducible refine gate_callee (f := 97) rfl ?_); refine goesL_ (some 23) rfl rfl Try.func97 (by kernel_rfl) rfl #[.agg #[.slice A0_0 l0_0.length c0_0], .int .i64 x7_1, .slice A1 l1.length c1] rfl zz1 ?_; (with_reducible refine (mizmazetop_lead.calls k1 _ _ l0_0 x7_1 _ _ l1 t751 _ ?side1 ?side2 ?side3 ?side4 A10.out).mono ?_); (case side1 => exact kc (Kd.C_below HR0_0.out HB.out)); (case side2 => exact HC0_0.out); (case side3 => exact kc (Kd.C_below HR1.out HB.out)); (case side4 => exact HC1.out); rintro e w17 ⟨rfl, hb⟩; refine ⟨_, rfl, ?_⟩; replace HO_5 := am (Kd.R_below (kR HO_5.out) hb); replace BK747 := am (blk_below (g := gb747) (o := .cells #[.slice A0_0 l0_0.length c0_0] 24 (0, 0)) (kb BK747.out) hb); replace HB := am (below_step (bs HB.out) hb); (try clear hb); (try clear hb2); (try clear hk); (try clear hi); obtain ⟨Ao18, co18, eo18⟩ := Kd.R_slice HO_5.out; subst eo18; have p752 : 0 ≤ (t751 : Int) := od zz2; have q752 : t751 < (x5_1.length : Int) := od zz2; obtain ⟨ad752, e752, hx752_0⟩ := Kd.at_bool (Kd.R_reads' HO_5.out).2.2 t751 p752 q752; (try rw [← Nbq13.out] at hx752_0); cases e752; replace p752 := eq_true p752; replace q752 := eq_true q752; have p15 : 0 ≤ (t751 : Int) := od zz2; have q15 : (t751 : Int) < ((x5_1.length : Int) : Int) := od zz2; obtain ⟨go15, co15, eo15, gb15, gl15, cl15, HG15⟩ := Kd.R_form HO_5.out (by omega); (first | cases eo15 | (injection eo15 with ea_ en_ ec_; (first | subst ea_ | (injection ea_ with ea_; subst ea_)); subst ec_; clear en_)); have GB15 := am gb15; have GG15 := am HG15; clear gb15 gl15 HG15; (first | simp only [add_plain] at hx752_0 | skip); obtain ⟨hx15_0, hf15_0⟩ := Kd.R_celln false HO_5.out (t751 : Int) p15 q15; replace p15 := eq_true p15; replace q15 := eq_true q15; obtain ⟨hy19_, hz19_⟩ := Kd.R_celln false HO_5.out (t751 : Int) (od zz2) (od zz2); have HP19 := Kd.R_putg HO_5.out (t751 : Int) true) | ((with_reducible refine gate_store (t := 4) (p := 33) rfl ?_); refine store_event (t := 4) (p := 33) (v := ?vo_w20) (w1 := (w17.setCell ⟨go15, (t751 : Int).toNat, none⟩ (.bool true))) zz5 zz5 zz5 zz6 ?_; intro w20 hw; have hg : w17.grownBy w20 (some go15) := (by rw [hw]; exact HP19.2); have hp_ : Kd.R Kd.bool 4 w20 w.heap.size (fun _ => True) (.slice (some ⟨go15, 0, none⟩) x5_1.length co18) y753 := (by rw [hw, Ny753.out]; exact HP19.1); clear HP19; replace BK747 := am (blk_grown (g := gb747) (o := .cells #[.slice A0_0 l0_0.length c0_0] 24 (0, 0)) (kb BK747.out) hg (Kd.R_ne HO_5.out BK747.out (by decide))); replace HO_5 := am (hp_); replace HB := am ((by rw [hw]; exact below_set (HB.out) GB15.out : Below w.heap.size w w20)); clear hg hw hp_))
         go_roundg k1
         case measure => have := HK1.out; omega
         case rel => exact ⟨(y753), (x6_1), (wrap64 (x7_1 + 1)), zz3, zz3, H', ⟨by have := HK1.out; omega⟩, ⟨kR HO_5.out⟩, ⟨kb BK747.out⟩, ⟨bs HB.out⟩⟩
        ·replace c14 := Bool.eq_false_iff.mpr c14
         subst c14
         have H1 : (mizmazetop_spread.l0 k1 l1 (x5_1.set (t751 : Int).toNat true) (wrap64 (x6_1 + 1)) (wrap64 (x7_1 + 1)) l0_0) = some r := by rw [if_neg (show ¬ (false = true) by decide)] at H; exact H
         clear H
         have H := H1
         clear H1
         obtain ⟨y754, hy754⟩ : ∃ y_ : List Bool, y_ = (x5_1.set (t751 : Int).toNat true) := ⟨_, rfl⟩
         replace H : (mizmazetop_spread.l0 k1 l1 y754 (wrap64 (x6_1 + 1)) (wrap64 (x7_1 + 1)) l0_0) = some r := by first | (rw [hy754]; with_reducible exact H) | (have H2_ := (Option.bind_some _ _).symm.trans H; rw [hy754]; with_reducible exact H2_) | (have H2_ := (Option.bind_some _ _).symm.trans H; with_reducible exact H2_) | with_reducible exact H | (rw [hy754]; exact H) | exact H
         have Ny754 := am hy754
         clear hy754
         have H' := am H
         clear H
         have hcz22_0 : wr.cell? ⟨gb747, 0, none⟩ = some (.slice A0_0 l0_0.length c0_0) := (blk_cell BK747.out 0).trans rfl
         have hfz22_0 := blk_frozen BK747.out 0
         go_wp2_with (first | ((with_reducible refine gate_callee (f := 97) rfl ?_); refine goesL_ (some 23) rfl rfl Try.func97 (by kernel_rfl) rfl #[.agg #[.slice A0_0 l0_0.length c0_0], .int .i64 x7_1, .slice A1 l1.length c1] rfl zz1 ?_; (with_reducible refine (mizmazetop_lead.calls k1 _ _ l0_0 x7_1 _ _ l1 t751 _ ?side1 ?side2 ?side3 ?side4 A10.out).mono ?_); (case side1 => exact kc (Kd.C_below HR0_0.out HB.out)); (case side2 => exact HC0_0.out); (case side3 => exact kc (Kd.C_below HR1.out HB.out)); (case side4 => exact HC1.out); rintro e w23 ⟨rfl, hb⟩; refine ⟨_, rfl, ?_⟩; replace HO_5 := am (Kd.R_below (kR HO_5.out) hb); replace BK747 := am (blk_below (g := gb747) (o := .cells #[.slice A0_0 l0_0.length c0_0] 24 (0, 0)) (kb BK747.out) hb); replace HB := am (below_step (bs HB.out) hb); (try clear hb); (try clear hb2); (try clear hk); (try clear hi); obtain ⟨Ao24, co24, eo24⟩ := Kd.R_slice HO_5.out; subst eo24; have p752 : 0 ≤ (t751 : Int) := od zz2; have q752 : t751 < (x5_1.length : Int) := od zz2; obtain ⟨ad752, e752, hx752_0⟩ := Kd.at_bool (Kd.R_reads' HO_5.out).2.2 t751 p752 q752; (try rw [← Nbq13.out] at hx752_0); cases e752; replace p752 := eq_true p752; replace q752 := eq_true q752; have p21 : 0 ≤ (t751 : Int) := od zz2; have q21 : (t751 : Int) < ((x5_1.length : Int) : Int) := od zz2; obtain ⟨go21, co21, eo21, gb21, gl21, cl21, HG21⟩ := Kd.R_form HO_5.out (by omega); (first | cases eo21 | (injection eo21 with ea_ en_ ec_; (first | subst ea_ | (injection ea_ with ea_; subst ea_)); subst ec_; clear en_)); have GB21 := am gb21; have GG21 := am HG21; clear gb21 gl21 HG21; (first | simp only [add_plain] at hx752_0 | skip); obtain ⟨hx21_0, hf21_0⟩ := Kd.R_celln false HO_5.out (t751 : Int) p21 q21; replace p21 := eq_true p21; replace q21 := eq_true q21; obtain ⟨hy25_, hz25_⟩ := Kd.R_celln false HO_5.out (t751 : Int) (od zz2) (od zz2); have HP25 := Kd.R_putg HO_5.out (t751 : Int) true) | ((with_reducible refine gate_store (t := 4) (p := 33) rfl ?_); refine store_event (t := 4) (p := 33) (v := ?vo_w26) (w1 := (w23.setCell ⟨go21, (t751 : Int).toNat, none⟩ (.bool true))) zz5 zz5 zz5 zz6 ?_; intro w26 hw; have hg : w23.grownBy w26 (some go21) := (by rw [hw]; exact HP25.2); have hp_ : Kd.R Kd.bool 4 w26 w.heap.size (fun _ => True) (.slice (some ⟨go21, 0, none⟩) x5_1.length co24) y754 := (by rw [hw, Ny754.out]; exact HP25.1); clear HP25; replace BK747 := am (blk_grown (g := gb747) (o := .cells #[.slice A0_0 l0_0.length c0_0] 24 (0, 0)) (kb BK747.out) hg (Kd.R_ne HO_5.out BK747.out (by decide))); replace HO_5 := am (hp_); replace HB := am ((by rw [hw]; exact below_set (HB.out) GB21.out : Below w.heap.size w w26)); clear hg hw hp_))
         go_roundg k1
         case measure => have := HK1.out; omega
         case rel => exact ⟨(y754), (wrap64 (x6_1 + 1)), (wrap64 (x7_1 + 1)), zz3, zz3, H', ⟨by have := HK1.out; omega⟩, ⟨kR HO_5.out⟩, ⟨kb BK747.out⟩, ⟨bs HB.out⟩⟩
       ·rw [if_neg c12] at H
        exact absurd H (by simp)
      ·rw [if_neg c11] at H
       exact absurd H (by simp)
     ·rw [if_neg c9] at H
      have c9b0 : decide (x7_1 < (l0_0.length : Int)) = false := decide_eq_false c9
      clear c9
      obtain rfl := Option.some.inj H
      have hcz27_0 : wr.cell? ⟨gb747, 0, none⟩ = some (.slice A0_0 l0_0.length c0_0) := (blk_cell BK747.out 0).trans rfl
      have hfz27_0 := blk_frozen BK747.out 0
      go_wp2
      go_ret
      exact ⟨by first | rfl | (simp [errW_none, errW_some] <;> rfl) | (simp [*, errW_none, errW_some] <;> rfl), bs HB.out⟩
  ·rw [if_neg c4] at H
   exact absurd H (by simp)
 ·rw [if_neg c3] at H
  exact absurd H (by simp)
end Go.Proofs.Ytjgdalhdiohclaa.Q
end
section
namespace Go.Proofs.Ytjgdalhdiohclaa.Q
attribute [local go_sem] max2_int min2_int max_two min_two max_three min_three max_four min_four
def reset_of.f (a0 : Int) (a1 : Int) : Option (Int × Int) := some (mn a0 a1, mx a0 a1)
theorem reset_of.calls (a0 : Int) (a1 : Int) (r1 : Int) (r2 : Int) (w : World) (h : reset_of.f a0 a1 = some (r1, r2)) :
  Calls Try.prog 132 #[.int .i64 a0, .int .i64 a1] w fun e w' => e = .returned (.agg #[.int .i64 r1, .int .i64 r2]) ∧ Below w.heap.size w w' := by
 have hu97 := Try.underlying97
 have HB := am (Below.refl w.heap.size w)
 have H : (some (mn a0 a1, mx a0 a1)) = some (r1, r2) := h
 clear h
 obtain ⟨ji3, hji3⟩ : ∃ j_ : Int, (mn a0 a1) = j_ := ⟨_, rfl⟩
 replace H : (some (ji3, mx a0 a1)) = some (r1, r2) := by first | (rw [hji3] at H; exact H) | (simp only [hji3] at H ⊢; exact H)
 have hji3_ : (if a1 < a0 then a1 else a0) = ji3 := hji3
 obtain ⟨ji4, hji4⟩ : ∃ j_ : Int, (mx a0 a1) = j_ := ⟨_, rfl⟩
 replace H : (some (ji3, ji4)) = some (r1, r2) := by first | (rw [hji4] at H; exact H) | (simp only [hji4] at H ⊢; exact H)
 have hji4_ : (if a0 < a1 then a1 else a0) = ji4 := hji4
 simp only [Option.some.injEq, Prod.mk.injEq] at H
 obtain ⟨rfl, rfl⟩ := H
 go_enter Try.func132, Try.ntmps132
 go_wp2_with (first | ((with_reducible refine gate_dst (N := 4) rfl ?_); refine box_event zz5 (N := 4) zz5 (cs := #[.int .i64 0, .int .i64 0]) (t := 97) zz6 ?_; intro gb373 hg w5 hbox hb; have BK373 := am (hbox); have GW373 := am ((by rw [hg]; exact (below_size (bw HB.out)) : w.heap.size ≤ gb373)); have GE373 := am ((by rw [hg]; exact (below_size (bw HB.out)) : w.heap.size ≤ gb373)); replace HB := am (below_step (bw HB.out) hb); clear hb hbox hg; have hcz6_0 : w5.cell? ⟨gb373, 0, none⟩ = some (.int .i64 0) := (blk_cell BK373.out 0).trans rfl; have hcz6_1 : w5.cell? ⟨gb373, 1, none⟩ = some (.int .i64 0) := (blk_cell BK373.out 1).trans rfl; have hfz6_0 := blk_frozen BK373.out 0; have hfz6_1 := blk_frozen BK373.out 1))
 refine bodyPost_ret (results_cell_row rfl _ _ gb373 97 #[.int .i64 ji3, .int .i64 ji4] (0, 0) _ rfl (by (with_reducible repeat (first | refine blk_drewN ?_ _ | refine blk_drew ?_ | refine blk_alloc ?_ _)); refine blk_put (cs := #[.int .i64 ji3, .int .i64 0]) ?_ 1 _ rfl; (with_reducible repeat (first | refine blk_drewN ?_ _ | refine blk_drew ?_ | refine blk_alloc ?_ _)); refine blk_put (cs := #[.int .i64 0, .int .i64 0]) ?_ 0 _ rfl; (with_reducible repeat (first | refine blk_drewN ?_ _ | refine blk_drew ?_ | refine blk_alloc ?_ _)); exact BK373.out) Try.underlying97 rfl (by kernel_rfl)) rfl ?_
 exact ⟨by first | rfl | (simp [errW_none, errW_some] <;> rfl) | (simp only [← hji3, ← hji4]; first | rfl | (simp [errW_none, errW_some] <;> rfl)) | (simp [*, errW_none, errW_some] <;> rfl), bs HB.out⟩
end Go.Proofs.Ytjgdalhdiohclaa.Q
end
section
namespace Go.Proofs.Ytjgdalhdiohclaa.Q
attribute [local go_sem] max2_int min2_int max_two min_two max_three min_three max_four min_four
def auto_Letters.f (l0_0 : List (List Int)) : Option (Int) := if 0 < (l0_0.length : Int) then (some ((rd_L1 l0_0 0).length : Int)) else (none)
theorem auto_Letters.calls (A0_0 : Option Addr) (c0_0 : Nat) (l0_0 : List (List Int)) (r : Int) (w : World) (hr0_0 : Kd.C (Kd.slice 3 (Kd.int .i64)) w A0_0 l0_0.length l0_0) (hc0_0 : l0_0.length ≤ c0_0) (h : auto_Letters.f l0_0 = some r) :
  Calls Try.prog 80 #[.agg #[.slice A0_0 l0_0.length c0_0]] w fun e w' => e = .returned (.int .i64 r) ∧ Below w.heap.size w w' := by
 have hu24 := Try.underlying24
 have HR0_0 := am hr0_0
 have HC0_0 := am hc0_0
 clear hr0_0 hc0_0
 have HB := am (Below.refl w.heap.size w)
 have H : (if 0 < (l0_0.length : Int) then (some ((rd_L1 l0_0 0).length : Int)) else (none)) = some r := h
 clear h
 by_cases c2 : 0 < (l0_0.length : Int)
 ·rw [if_pos c2] at H
  have c2b0 : decide (0 < (l0_0.length : Int)) = true := decide_eq_true c2
  have c2b1 : decide (0 < l0_0.length) = true := decide_eq_true (by omega)
  clear c2
  obtain rfl := Option.some.inj H
  go_enter Try.func80, Try.ntmps80
  go_wp2_with (first | ((with_reducible refine gate_dst (N := 1) rfl ?_); refine box_event zz5 (N := 1) zz5 (cs := #[.slice A0_0 l0_0.length c0_0]) (t := 24) zz6 ?_; intro gb122 hg w3 hbox hb; have BK122 := am (hbox); have GW122 := am ((by rw [hg]; exact (below_size (bw HB.out)) : w.heap.size ≤ gb122)); have GE122 := am ((by rw [hg]; exact (below_size (bw HB.out)) : w.heap.size ≤ gb122)); replace HB := am (below_step (bw HB.out) hb); clear hb hbox hg; have hcz4_0 : w3.cell? ⟨gb122, 0, none⟩ = some (.slice A0_0 l0_0.length c0_0) := (blk_cell BK122.out 0).trans rfl; have hfz4_0 := blk_frozen BK122.out 0; have p123 : 0 ≤ (0 : Int) := (by omega); have q123 : 0 < (l0_0.length : Int) := od zz2; obtain ⟨ad123, A123_0, c123_0, e123, hx123_0, hl123_0, hi123_0⟩ := at_L1 HR0_0.out 0 p123 q123; cases e123; have qi123 : (0 < l0_0.length) = True := eq_true (by omega); (try rw [show ((0 : Int)).toNat = 0 from rfl] at hx123_0); (try rw [Addr.add_zero'] at hx123_0); replace hx123_0 := (HB.out.cell (World.block_lt_of_cell? w _ hx123_0)).trans hx123_0; have HR123_0 := am hi123_0; have HC123_0 := am hl123_0; clear hi123_0 hl123_0; replace p123 := eq_true p123; replace q123 := eq_true q123))
  go_ret
  exact ⟨by first | rfl | (simp [errW_none, errW_some] <;> rfl) | (simp [*, errW_none, errW_some] <;> rfl), bs HB.out⟩
 ·rw [if_neg c2] at H
  exact absurd H (by simp)
end Go.Proofs.Ytjgdalhdiohclaa.Q
end
section
namespace Go.Proofs.Ytjgdalhdiohclaa.Q
attribute [local go_sem] max2_int min2_int max_two min_two max_three min_three max_four min_four
end Go.Proofs.Ytjgdalhdiohclaa.Q
end
section
namespace Go.Proofs.Ytjgdalhdiohclaa.Q
attribute [local go_sem] max2_int min2_int max_two min_two max_three min_three max_four min_four
def auto_All.l0 : Nat → List Int → Int → Int → Option (List Int)
 | 0, _, _, _ => none
 | k + 1, x3, x8, x9 => if x9 < x8 then (if x3.length < 17592186044416 then (auto_All.l0 k (x3 ++ [x9]) x8 (wrap64 (x9 + 1))) else (none)) else (some x3)
def auto_All.f (k : Nat) (l0_0 : List (List Int)) : Option (List Int) := auto_All.l0 k (([] : List Int)) (l0_0.length : Int) 0
theorem auto_All.mono_l : ∀ k, (∀ y0 y1 y2, LeO (auto_All.l0 k y0 y1 y2) (auto_All.l0 (k + 1) y0 y1 y2))
 | 0 => fun _ _ _ r h => by simp [auto_All.l0] at h
 | k + 1 => by
  have ih0 := auto_All.mono_l k
  ·intro y0 y1 y2
   unfold auto_All.l0
   with_reducible repeat' first | exact ih0 _ _ _ | exact LeO.refl _ | exact LeO.none _ | refine LeO.ite ?_ ?_ | refine LeO.bind ?_ (fun _ => ?_)
theorem auto_All.mono : ∀ a0 k, LeO (auto_All.f k a0) (auto_All.f (k + 1) a0) := by
 intro a0 k
 have ih0 := auto_All.mono_l k
 unfold auto_All.f
 with_reducible repeat' first | exact ih0 _ _ _ | exact LeO.refl _ | exact LeO.none _ | refine LeO.ite ?_ ?_ | refine LeO.bind ?_ (fun _ => ?_)
theorem auto_All.calls (k : Nat) (A0_0 : Option Addr) (c0_0 : Nat) (l0_0 : List (List Int)) (r : List Int) (w : World) (hr0_0 : Kd.C (Kd.slice 3 (Kd.int .i64)) w A0_0 l0_0.length l0_0) (hc0_0 : l0_0.length ≤ c0_0) (h : auto_All.f k l0_0 = some r) :
  Calls Try.prog 93 #[.agg #[.slice A0_0 l0_0.length c0_0]] w fun e w' => ∃ v0_ : Value, e = .returned (v0_) ∧ Kd.R (Kd.int .i64) 3 w' w.heap.size (fun _ => True) v0_ r ∧ Below w.heap.size w w' := by
 have hu24 := Try.underlying24
 have HR0_0 := am hr0_0
 have HC0_0 := am hc0_0
 clear hr0_0 hc0_0
 have HB := am (Below.refl w.heap.size w)
 have H : (auto_All.l0 k (([] : List Int)) (l0_0.length : Int) 0) = some r := h
 clear h
 obtain ⟨y383, hy383⟩ : ∃ y_ : List Int, y_ = (([] : List Int)) := ⟨_, rfl⟩
 replace H : (auto_All.l0 k y383 (l0_0.length : Int) 0) = some r := by first | (rw [hy383]; with_reducible exact H) | (have H2_ := (Option.bind_some _ _).symm.trans H; rw [hy383]; with_reducible exact H2_) | (have H2_ := (Option.bind_some _ _).symm.trans H; with_reducible exact H2_) | with_reducible exact H | (rw [hy383]; exact H) | exact H
 have Ny383 := am hy383
 clear hy383
 have H' := am H
 clear H
 go_enter Try.func93, Try.ntmps93
 go_wp2_with (first | ((with_reducible refine gate_dst (N := 1) rfl ?_); refine box_event zz5 (N := 1) zz5 (cs := #[.slice A0_0 l0_0.length c0_0]) (t := 24) zz6 ?_; intro gb382 hg w2 hbox hb; have BK382 := am (hbox); have GW382 := am ((by rw [hg]; exact (below_size (bw HB.out)) : w.heap.size ≤ gb382)); have GE382 := am ((by rw [hg]; exact (below_size (bw HB.out)) : w.heap.size ≤ gb382)); replace HB := am (below_step (bw HB.out) hb); clear hb hbox hg) | ((with_reducible refine gate_dst (N := 5) rfl ?_); refine Kd.R_lit (Kd.int .i64) _ 3 zz5 (N := 5) zz5 (xs := ([] : List Int)) (inner := []) (ok := fun _ => True) (okp := fun _ => True) zz6 ?hp (fun _ hk => hk) trivial (Below.refl _ _) (Nat.le_refl _) (by simp) ?_; (case hp => exact (Reps.none _ _)); intro v384 w3 ho4 hb hg_ hnew_; clear hg_ hnew_; (first | rw [← Ny383.out] at ho4 | (simp only [Int.reduceToNat] at ho4; rw [← Ny383.out] at ho4)); have HO385 := am (Kd.R_lower ho4 (below_size (bs HB.out))); replace BK382 := am (blk_below (g := gb382) (o := .cells #[.slice A0_0 l0_0.length c0_0] 24 (0, 0)) (kb BK382.out) hb); replace HB := am (below_step (bs HB.out) hb); clear hb ho4; have hcz5_0 : w3.cell? ⟨gb382, 0, none⟩ = some (.slice A0_0 l0_0.length c0_0) := (blk_cell BK382.out 0).trans rfl; have hfz5_0 := blk_frozen BK382.out 0))
 go_loopg [3, 9] k (fun kq v3 v9 w' => ∃ (x3_1 : List Int) (x9_1 : Int), v9 = .int .i64 x9_1 ∧ Aside0 (auto_All.l0 kq x3_1 (l0_0.length : Int) x9_1 = some r) ∧ Aside0 (kq ≤ k) ∧ Aside0 (Kd.R (Kd.int .i64) 3 w' w.heap.size (fun _ => True) v3 x3_1) ∧ Aside0 (w'.heap[gb382]? = some (.cells #[(.slice A0_0 l0_0.length c0_0)] 24 (0, 0))) ∧ Aside0 (Below w.heap.size w w'))
 case atStart => exact ⟨(y383), (0), zz3, H', ⟨Nat.le_refl _⟩, ⟨kR HO385.out⟩, ⟨kb BK382.out⟩, ⟨bs HB.out⟩⟩
 case round =>
  clear H'
  (try clear p2); (try clear hcz5_0); (try clear hfz5_0)
  obtain ⟨x3_1, x9_1, rfl, HA, HK1, HO_3, BK382, HB⟩ := hrel
  cases gk with
  | zero => exact absurd HA.out (by simp [auto_All.l0])
  | succ k1 =>
   have H := HA.out
   clear HA
   simp only [auto_All.l0] at H
   by_cases c6 : x9_1 < (l0_0.length : Int)
   ·rw [if_pos c6] at H
    have c6b0 : decide (x9_1 < (l0_0.length : Int)) = true := decide_eq_true c6
    clear c6
    by_cases c7 : x3_1.length < 17592186044416
    ·rw [if_pos c7] at H
     have LMc7 := am c7
     clear c7
     obtain ⟨y386, hy386⟩ : ∃ y_ : List Int, y_ = (x3_1 ++ [x9_1]) := ⟨_, rfl⟩
     replace H : (auto_All.l0 k1 y386 (l0_0.length : Int) (wrap64 (x9_1 + 1))) = some r := by first | (rw [hy386]; with_reducible exact H) | (have H2_ := (Option.bind_some _ _).symm.trans H; rw [hy386]; with_reducible exact H2_) | (have H2_ := (Option.bind_some _ _).symm.trans H; with_reducible exact H2_) | with_reducible exact H | (rw [hy386]; exact H) | exact H
     have Ny386 := am hy386
     clear hy386
     have H' := am H
     clear H
     go_wp2_with (first | ((with_reducible refine gate_builtin (b := .append) (xs := #[.tmp 12, .tmp 14]) rfl ?_); at_builtin; refine Kd.R_append (Kd.int .i64) (w0 := w) w.heap.size rfl (.tmp 12) (.tmp 14) 28 3 (.int .i64 0) 8 rfl Try.underlying28 info3 rfl (by decide) (by omega) u3 x3_1 x9_1 [.int .i64 x9_1] (fun _ => True) (fun _ => False) rfl rfl ?aP (fun _ hk => hk.elim) ?aF ?aO ?aB ?aS ?aL ?_; (case aP => exact rfl); (case aB => exact (bs HB.out)); (case aF => exact (fun _ _ => trivial)); (case aO => exact (kR HO_3.out)); (case aS => exact (below_size (bs HB.out))); (case aL => have := LMc7.out; omega); intro v387 w8 ho hb hg hat; rw [← Ny386.out] at ho; have n0_ := am (blk_grown (g := gb382) (o := .cells #[.slice A0_0 l0_0.length c0_0] 24 (0, 0)) (kb BK382.out) hg (Kd.R_ne HO_3.out BK382.out (by decide))); have n1_ := am (hb); have n2_ := am (ho); clear BK382; clear HB; clear HO_3; have BK382 := n0_; have HB := n1_; have HO388 := n2_; clear n0_ n1_ n2_; clear ho hb hg hat))
     go_roundg k1
     case measure => have := HK1.out; omega
     case rel => exact ⟨(y386), (wrap64 (x9_1 + 1)), zz3, H', ⟨by have := HK1.out; omega⟩, ⟨kR HO388.out⟩, ⟨kb BK382.out⟩, ⟨bs HB.out⟩⟩
    ·rw [if_neg c7] at H
     exact absurd H (by simp)
   ·rw [if_neg c6] at H
    have c6b0 : decide (x9_1 < (l0_0.length : Int)) = false := decide_eq_false c6
    clear c6
    obtain rfl := Option.some.inj H
    go_wp2
    go_ret
    exact ⟨_, by first | rfl | (simp [errW_none, errW_some] <;> rfl) | (simp [*, errW_none, errW_some] <;> rfl), kR HO_3.out, bs HB.out⟩
end Go.Proofs.Ytjgdalhdiohclaa.Q
end
section
namespace Go.Proofs.Ytjgdalhdiohclaa.Q
attribute [local go_sem] max2_int min2_int max_two min_two max_three min_three max_four min_four
def auto_Lead.l0 : Nat → Int → List Int → Int → Int → List (List Int) → Option (Int)
 | 0, _, _, _, _, _ => none
 | k + 1, x1, x9, x10, x11, x356000 => if x11 < x10 then (if 0 ≤ x11 then (if x11 < (x9.length : Int) then (if 0 ≤ x1 then (if x1 < (x356000.length : Int) then (if 0 ≤ (rd x9 x11) then (if (rd x9 x11) < ((rd_L1 x356000 x1).length : Int) then (auto_Lead.l0 k (rd (rd_L1 x356000 x1) (rd x9 x11)) x9 x10 (wrap64 (x11 + 1)) x356000) else (none)) else (none)) else (none)) else (none)) else (none)) else (none)) else (some x1)
def auto_Lead.f (k : Nat) (l0_0 : List (List Int)) (a1 : Int) (l2 : List Int) : Option (Int) := auto_Lead.l0 k a1 l2 (l2.length : Int) 0 l0_0
theorem auto_Lead.mono_l : ∀ k, (∀ y0 y1 y2 y3 y4, LeO (auto_Lead.l0 k y0 y1 y2 y3 y4) (auto_Lead.l0 (k + 1) y0 y1 y2 y3 y4))
 | 0 => fun _ _ _ _ _ r h => by simp [auto_Lead.l0] at h
 | k + 1 => by
  have ih0 := auto_Lead.mono_l k
  ·intro y0 y1 y2 y3 y4
   unfold auto_Lead.l0
   with_reducible repeat' first | exact ih0 _ _ _ _ _ | exact LeO.refl _ | exact LeO.none _ | refine LeO.ite ?_ ?_ | refine LeO.bind ?_ (fun _ => ?_)
theorem auto_Lead.mono : ∀ a0 a1 a2 k, LeO (auto_Lead.f k a0 a1 a2) (auto_Lead.f (k + 1) a0 a1 a2) := by
 intro a0 a1 a2 k
 have ih0 := auto_Lead.mono_l k
 unfold auto_Lead.f
 with_reducible repeat' first | exact ih0 _ _ _ _ _ | exact LeO.refl _ | exact LeO.none _ | refine LeO.ite ?_ ?_ | refine LeO.bind ?_ (fun _ => ?_)
theorem auto_Lead.calls (k : Nat) (A0_0 : Option Addr) (c0_0 : Nat) (l0_0 : List (List Int)) (a1 : Int) (A2 : Option Addr) (c2 : Nat) (l2 : List Int) (r : Int) (w : World) (hr0_0 : Kd.C (Kd.slice 3 (Kd.int .i64)) w A0_0 l0_0.length l0_0) (hc0_0 : l0_0.length ≤ c0_0) (hr2 : Kd.C (Kd.int .i64) w A2 l2.length l2) (hc2 : l2.length ≤ c2) (h : auto_Lead.f k l0_0 a1 l2 = some r) :
  Calls Try.prog 74 #[.agg #[.slice A0_0 l0_0.length c0_0], .int .i64 a1, .slice A2 l2.length c2] w fun e w' => e = .returned (.int .i64 r) ∧ Below w.heap.size w w' := by
 have hu24 := Try.underlying24
 have HR0_0 := am hr0_0
 have HC0_0 := am hc0_0
 clear hr0_0 hc0_0
 have HR2 := am hr2
 have HC2 := am hc2
 clear hr2 hc2
 have HB := am (Below.refl w.heap.size w)
 have H : (auto_Lead.l0 k a1 l2 (l2.length : Int) 0 l0_0) = some r := h
 clear h
 have H' := am H
 clear H
 go_enter Try.func74, Try.ntmps74
 go_wp2_with (first | ((with_reducible refine gate_dst (N := 3) rfl ?_); refine box_event zz5 (N := 3) zz5 (cs := #[.slice A0_0 l0_0.length c0_0]) (t := 24) zz6 ?_; intro gb355 hg w4 hbox hb; have BK355 := am (hbox); have GW355 := am ((by rw [hg]; exact (below_size (bw HB.out)) : w.heap.size ≤ gb355)); have GE355 := am ((by rw [hg]; exact (below_size (bw HB.out)) : w.heap.size ≤ gb355)); replace HB := am (below_step (bw HB.out) hb); clear hb hbox hg))
 go_loopg [1, 11] k (fun kq v1 v11 w' => ∃ (x1_1 : Int) (x11_1 : Int), v1 = .int .i64 x1_1 ∧ v11 = .int .i64 x11_1 ∧ Aside0 (auto_Lead.l0 kq x1_1 l2 (l2.length : Int) x11_1 l0_0 = some r) ∧ Aside0 (kq ≤ k) ∧ Aside0 (w'.heap[gb355]? = some (.cells #[(.slice A0_0 l0_0.length c0_0)] 24 (0, 0))) ∧ Aside0 (Below w.heap.size w w'))
 case atStart => exact ⟨(a1), (0), zz3, zz3, H', ⟨Nat.le_refl _⟩, ⟨kb BK355.out⟩, ⟨bs HB.out⟩⟩
 case round =>
  clear H'
  (try clear c2); (try clear p2)
  obtain ⟨x1_1, x11_1, rfl, rfl, HA, HK1, BK355, HB⟩ := hrel
  cases gk with
  | zero => exact absurd HA.out (by simp [auto_Lead.l0])
  | succ k1 =>
   have H := HA.out
   clear HA
   simp only [auto_Lead.l0] at H
   by_cases c5 : x11_1 < (l2.length : Int)
   ·rw [if_pos c5] at H
    have c5b0 : decide (x11_1 < (l2.length : Int)) = true := decide_eq_true c5
    clear c5
    by_cases c6 : 0 ≤ x11_1
    ·rw [if_pos c6] at H
     have c6b0 : decide (0 ≤ x11_1) = true := decide_eq_true c6
     clear c6
     by_cases c7 : x11_1 < (l2.length : Int)
     ·rw [if_pos c7] at H
      have c7b0 : decide (x11_1 < (l2.length : Int)) = true := decide_eq_true c7
      clear c7
      by_cases c8 : 0 ≤ x1_1
      ·rw [if_pos c8] at H
       have c8b0 : decide (0 ≤ x1_1) = true := decide_eq_true c8
       clear c8
       by_cases c9 : x1_1 < (l0_0.length : Int)
       ·rw [if_pos c9] at H
        have c9b0 : decide (x1_1 < (l0_0.length : Int)) = true := decide_eq_true c9
        clear c9
        by_cases c10 : 0 ≤ (rd l2 x11_1)
        ·rw [if_pos c10] at H
         have c10b0 : decide (0 ≤ (rd l2 x11_1)) = true := decide_eq_true c10
         clear c10
         by_cases c11 : (rd l2 x11_1) < ((rd_L1 l0_0 x1_1).length : Int)
         ·rw [if_pos c11] at H
          have c11b0 : decide ((rd l2 x11_1) < ((rd_L1 l0_0 x1_1).length : Int)) = true := decide_eq_true c11
          clear c11
          have H' := am H
          clear H
          have p356 : 0 ≤ (x11_1 : Int) := od zz2
          have q356 : x11_1 < (l2.length : Int) := od zz2
          obtain ⟨ad356, e356, hx356_0⟩ := Kd.at_int HR2.out x11_1 p356 q356
          cases e356
          replace hx356_0 := (HB.out.cell (World.block_lt_of_cell? w _ hx356_0)).trans hx356_0
          replace p356 := eq_true p356
          replace q356 := eq_true q356
          have hcz12_0 : wr.cell? ⟨gb355, 0, none⟩ = some (.slice A0_0 l0_0.length c0_0) := (blk_cell BK355.out 0).trans rfl
          have hfz12_0 := blk_frozen BK355.out 0
          have p357 : 0 ≤ (x1_1 : Int) := od zz2
          have q357 : x1_1 < (l0_0.length : Int) := od zz2
          obtain ⟨ad357, A357_0, c357_0, e357, hx357_0, hl357_0, hi357_0⟩ := at_L1 HR0_0.out x1_1 p357 q357
          cases e357
          replace hx357_0 := (HB.out.cell (World.block_lt_of_cell? w _ hx357_0)).trans hx357_0
          have HR357_0 := am hi357_0
          have HC357_0 := am hl357_0
          clear hi357_0 hl357_0
          replace p357 := eq_true p357
          replace q357 := eq_true q357
          have p358 : 0 ≤ ((rd l2 x11_1) : Int) := od zz2
          have q358 : (rd l2 x11_1) < ((rd_L1 l0_0 x1_1).length : Int) := od zz2
          obtain ⟨ad358, e358, hx358_0⟩ := Kd.at_int HR357_0.out (rd l2 x11_1) p358 q358
          cases e358
          replace hx358_0 := (HB.out.cell (World.block_lt_of_cell? w _ hx358_0)).trans hx358_0
          replace p358 := eq_true p358
          replace q358 := eq_true q358
          go_wp2
          go_roundg k1
          case measure => have := HK1.out; omega
          case rel => exact ⟨(rd (rd_L1 l0_0 x1_1) (rd l2 x11_1)), (wrap64 (x11_1 + 1)), zz3, zz3, H', ⟨by have := HK1.out; omega⟩, ⟨kb BK355.out⟩, ⟨bs HB.out⟩⟩
         ·rw [if_neg c11] at H
          exact absurd H (by simp)
        ·rw [if_neg c10] at H
         exact absurd H (by simp)
       ·rw [if_neg c9] at H
        exact absurd H (by simp)
      ·rw [if_neg c8] at H
       exact absurd H (by simp)
     ·rw [if_neg c7] at H
      exact absurd H (by simp)
    ·rw [if_neg c6] at H
     exact absurd H (by simp)
   ·rw [if_neg c5] at H
    have c5b0 : decide (x11_1 < (l2.length : Int)) = false := decide_eq_false c5
    clear c5
    obtain rfl := Option.some.inj H
    go_wp2
    go_ret
    exact ⟨by first | rfl | (simp [errW_none, errW_some] <;> rfl) | (simp [*, errW_none, errW_some] <;> rfl), bs HB.out⟩
end Go.Proofs.Ytjgdalhdiohclaa.Q
end
section
namespace Go.Proofs.Ytjgdalhdiohclaa.Q
attribute [local go_sem] max2_int min2_int max_two min_two max_three min_three max_four min_four
def mizmazetop_cycle.f (a0 : Int) (a1 : Int) : Option (Int) := if a1 = 0 then (none) else (some (Int.tmod (wrap64 ((Int.tmod a0 a1) + a1)) a1))
theorem mizmazetop_cycle.calls (a0 : Int) (a1 : Int) (r : Int) (w : World) (h : mizmazetop_cycle.f a0 a1 = some r) :
  Calls Try.prog 96 #[.int .i64 a0, .int .i64 a1] w fun e w' => e = .returned (.int .i64 r) ∧ Drawn0 w w' := by
 have H : (if a1 = 0 then (none) else (some (Int.tmod (wrap64 ((Int.tmod a0 a1) + a1)) a1))) = some r := h
 clear h
 by_cases c3 : a1 = 0
 ·rw [if_pos c3] at H
  exact absurd H (by simp)
 ·rw [if_neg c3] at H
  have c3b0 : (a1 == 0) = false := beq_eq_false_iff_ne.mpr c3
  have c3b1 : (a1 != 0) = true := bne_iff_ne.mpr c3
  obtain rfl := Option.some.inj H
  go_enter Try.func96, Try.ntmps96
  go_wp2
  go_ret
  exact ⟨by first | rfl | (simp; done) | (simp [*]; done), by repeat (first | exact Drawn0.refl _ | apply Drawn0.step)⟩
end Go.Proofs.Ytjgdalhdiohclaa.Q
end
section
namespace Go.Proofs.Ytjgdalhdiohclaa.Q
attribute [local go_sem] max2_int min2_int max_two min_two max_three min_three max_four min_four
mutual
def mizmazetop_coloured.l0 : Nat → List Int → Int → Int → List (List Int) → List (List Int) → Option ((List (List Int)))
 | 0, _, _, _, _, _ => none
 | k + 1, x1, x6, x7, x791000, x793000 => if x7 < (x791000.length : Int) then ((some (([] : List Int) : List Int)).bind fun y794 => (if 0 ≤ x7 then (if y794.length + (rd_L1 x791000 x7).length < 17592186044416 then (mizmazetop_coloured.l1 k x1 x6 x7 (y794 ++ (rd_L1 x791000 x7)) 0 x791000 x793000) else (none)) else (none))) else (some x793000)
def mizmazetop_coloured.l1 : Nat → List Int → Int → Int → List Int → Int → List (List Int) → List (List Int) → Option ((List (List Int)))
 | 0, _, _, _, _, _, _, _ => none
 | k + 1, x1, x6, x7, x8, x9, x791000, x793000 => if x9 < x6 then (if (wrap64 ((wrap64 (x7 * x6)) + x9)) < (x1.length : Int) then (if 0 ≤ (wrap64 ((wrap64 (x7 * x6)) + x9)) then ((mizmazetop_cycle.f (rd x1 (wrap64 ((wrap64 (x7 * x6)) + x9))) x6).bind fun t802 => (if 0 ≤ x9 then (if x9 < (x8.length : Int) then (if 0 ≤ t802 then (if t802 < (x8.length : Int) then (mizmazetop_coloured.l1 k x1 x6 x7 ((x8.set (x9 : Int).toNat (rd x8 t802)).set (t802 : Int).toNat (rd x8 x9)) (wrap64 (x9 + 1)) x791000 x793000) else (none)) else (none)) else (none)) else (none))) else (none)) else (if 0 ≤ x9 then (if x9 < (x8.length : Int) then (mizmazetop_coloured.l1 k x1 x6 x7 ((x8.set (x9 : Int).toNat (rd x8 x9)).set (x9 : Int).toNat (rd x8 x9)) (wrap64 (x9 + 1)) x791000 x793000) else (none)) else (none))) else (if x793000.length < 5864062014805 then (mizmazetop_coloured.l0 k x1 x6 (wrap64 (x7 + 1)) x791000 (x793000 ++ [x8])) else (none))
end
def mizmazetop_coloured.f (k : Nat) (l0_0 : List (List Int)) (l1 : List Int) : Option ((List (List Int))) := if 0 < (l0_0.length : Int) then (mizmazetop_coloured.l0 k l1 ((rd_L1 l0_0 0).length : Int) 0 l0_0 ([] : List (List Int))) else (none)
theorem mizmazetop_coloured.calls (k : Nat) (A0_0 : Option Addr) (c0_0 : Nat) (l0_0 : List (List Int)) (A1 : Option Addr) (c1 : Nat) (l1 : List Int) (r : List (List Int)) (w : World) (hr0_0 : Kd.C (Kd.slice 3 (Kd.int .i64)) w A0_0 l0_0.length l0_0) (hc0_0 : l0_0.length ≤ c0_0) (hr1 : Kd.C (Kd.int .i64) w A1 l1.length l1) (hc1 : l1.length ≤ c1) (h : mizmazetop_coloured.f k l0_0 l1 = some r) :
    Calls Try.prog 56 #[.agg #[.slice A0_0 l0_0.length c0_0], .slice A1 l1.length c1] w fun e w' => ∃ v0_ : Value, e = .returned (.agg #[v0_]) ∧ Kd.S (Kd.slice 3 (Kd.int .i64)) 28 w' w.heap.size (fun _ => True) v0_ r ∧ Below w.heap.size w w' := by
 have hu24 := Try.underlying24
 have HR0_0 := am hr0_0
 have HC0_0 := am hc0_0
 clear hr0_0 hc0_0
 have HR1 := am hr1
 have HC1 := am hc1
 clear hr1 hc1
 have HB := am (Below.refl w.heap.size w)
 have H : (if 0 < (l0_0.length : Int) then (mizmazetop_coloured.l0 k l1 ((rd_L1 l0_0 0).length : Int) 0 l0_0 ([] : List (List Int))) else (none)) = some r := h
 clear h
 by_cases c3 : 0 < (l0_0.length : Int)
 rotate_left
 ·rw [if_neg c3] at H
  exact absurd H (by simp)
 rw [if_pos c3] at H
 have c3b0 : decide (0 < (l0_0.length : Int)) = true := decide_eq_true c3
 have c3b1 : decide (0 < l0_0.length) = true := decide_eq_true (by omega)
 clear c3
 have H' := am H
 clear H
 go_enter Try.func56, Try.ntmps56
 go_wp2_with (first | ((with_reducible refine gate_dst (N := 2) rfl ?_); refine box_event zz5 (N := 2) zz5 (cs := #[.slice A0_0 l0_0.length c0_0]) (t := 24) zz6 ?_; intro gb790 hg w4 hbox hb; have BK790 := am (hbox); have GW790 := am ((by rw [hg]; exact (below_size (bw HB.out)) : w.heap.size ≤ gb790)); have GE790 := am ((by rw [hg]; exact (below_size (bw HB.out)) : w.heap.size ≤ gb790)); replace HB := am (below_step (bw HB.out) hb); clear hb hbox hg) | ((with_reducible refine gate_dst (N := 4) rfl ?_); refine box_event zz5 (N := 4) zz5 (cs := #[.slice none 0 0]) (t := 24) zz6 ?_; intro gb791 hg w5 hbox hb; have BK791 := am (hbox); have GW791 := am ((by rw [hg]; exact (below_size (bs HB.out)) : w.heap.size ≤ gb791)); have GE791 := am ((by rw [hg]; exact (below_size (bs HB.out)) : w.heap.size ≤ gb791)); replace HB := am (below_step (bs HB.out) hb); have NB790_791 := am ((by rw [hg]; exact Nat.ne_of_lt (blk_lt (g := gb790) (o := .cells #[.slice A0_0 l0_0.length c0_0] 24 (0, 0)) (kb BK790.out)) : gb790 ≠ gb791)); have NB791_790 := am ((by rw [hg]; exact Nat.ne_of_gt (blk_lt (g := gb790) (o := .cells #[.slice A0_0 l0_0.length c0_0] 24 (0, 0)) (kb BK790.out)) : gb791 ≠ gb790)); replace BK790 := am (blk_below (g := gb790) (o := .cells #[.slice A0_0 l0_0.length c0_0] 24 (0, 0)) (kb BK790.out) hb); clear hb hbox hg) | ((with_reducible refine gate_dst (N := 5) rfl ?_); refine box_event zz5 (N := 5) zz5 (cs := #[.slice none 0 0]) (t := 24) zz6 ?_; intro gb792 hg w6 hbox hb; have BK792 := am (hbox); have GW792 := am ((by rw [hg]; exact (below_size (bs HB.out)) : w.heap.size ≤ gb792)); have GE792 := am ((by rw [hg]; exact (below_size (bs HB.out)) : w.heap.size ≤ gb792)); replace HB := am (below_step (bs HB.out) hb); have NB790_792 := am ((by rw [hg]; exact Nat.ne_of_lt (blk_lt (g := gb790) (o := .cells #[.slice A0_0 l0_0.length c0_0] 24 (0, 0)) (kb BK790.out)) : gb790 ≠ gb792)); have NB792_790 := am ((by rw [hg]; exact Nat.ne_of_gt (blk_lt (g := gb790) (o := .cells #[.slice A0_0 l0_0.length c0_0] 24 (0, 0)) (kb BK790.out)) : gb792 ≠ gb790)); replace BK790 := am (blk_below (g := gb790) (o := .cells #[.slice A0_0 l0_0.length c0_0] 24 (0, 0)) (kb BK790.out) hb); have NB791_792 := am ((by rw [hg]; exact Nat.ne_of_lt (blk_lt (g := gb791) (o := .cells #[.slice none 0 0] 24 (0, 0)) (kb BK791.out)) : gb791 ≠ gb792)); have NB792_791 := am ((by rw [hg]; exact Nat.ne_of_gt (blk_lt (g := gb791) (o := .cells #[.slice none 0 0] 24 (0, 0)) (kb BK791.out)) : gb792 ≠ gb791)); replace BK791 := am (blk_below (g := gb791) (o := .cells #[.slice none 0 0] 24 (0, 0)) (kb BK791.out) hb); clear hb hbox hg; have hnb7 := NB790_791.out; have hnc7 := NB791_790.out; have hnb8 := NB790_792.out; have hnc8 := NB792_790.out; have hcz9_0 : w6.cell? ⟨gb790, 0, none⟩ = some (.slice A0_0 l0_0.length c0_0) := (blk_cell BK790.out 0).trans rfl; have hfz9_0 := blk_frozen BK790.out 0; have p793 : 0 ≤ (0 : Int) := (by omega); have q793 : 0 < (l0_0.length : Int) := od zz2; obtain ⟨ad793, A793_0, c793_0, e793, hx793_0, hl793_0, hi793_0⟩ := at_L1 HR0_0.out 0 p793 q793; cases e793; have qi793 : (0 < l0_0.length) = True := eq_true (by omega); (try rw [show ((0 : Int)).toNat = 0 from rfl] at hx793_0); (try rw [Addr.add_zero'] at hx793_0); replace hx793_0 := (HB.out.cell (World.block_lt_of_cell? w _ hx793_0)).trans hx793_0; have HR793_0 := am hi793_0; have HC793_0 := am hl793_0; clear hi793_0 hl793_0; replace p793 := eq_true p793; replace q793 := eq_true q793))
 go_loopg [7] k (fun kq v7 w' => ∃ (x7_1 : Int) (x793000_1 : List (List Int)) (u793000 : Value), v7 = .int .i64 x7_1 ∧ Aside0 (mizmazetop_coloured.l0 kq l1 ((rd_L1 l0_0 0).length : Int) x7_1 l0_0 x793000_1 = some r) ∧ Aside0 (kq ≤ k) ∧ Aside0 (Kd.S (Kd.slice 3 (Kd.int .i64)) 28 w' w.heap.size (fun _ => True) u793000 x793000_1) ∧ Aside0 (w'.heap[gb790]? = some (.cells #[(.slice (some ad793) l0_0.length c0_0)] 24 (0, 0))) ∧ Aside0 (w'.heap[gb791]? = some (.cells #[(.slice none 0 0)] 24 (0, 0))) ∧ Aside0 (w'.heap[gb792]? = some (.cells #[u793000] 24 (0, 0))) ∧ Aside0 (Below w.heap.size w w'))
 case atStart => exact ⟨(0), (([] : List (List Int))), (.slice none 0 0), zz3, H', ⟨Nat.le_refl _⟩, ⟨by first | exact Kd.S_nil _ _ _ _ _ | exact Kd.N_nil _ _ _ _ _ | exact Kd.V_nil _ _ _ _ _ | exact Kd.Q_nil _ _ _ _ _ | exact Kd.R_nil _ _ _ _ _⟩, ⟨kb BK790.out⟩, ⟨kb BK791.out⟩, ⟨kb BK792.out⟩, ⟨bs HB.out⟩⟩
 case round =>
  clear H'
  (try clear c1); (try clear p2); (try clear c3); (try clear c3b0); (try clear c3b1); (try clear c5); (try clear c7); (try clear p7); (try clear q7); (try clear hx7); (try clear qi7); (try clear c8); (try clear hcz9_0); (try clear hfz9_0); (try clear hx793_0); (try clear p793); (try clear q793)
  obtain ⟨x7_1, x793000_1, u793000, rfl, HA, HK1, HO_793000, BK790, BK791, BK792, HB⟩ := hrel
  cases gk with
  | zero => exact absurd HA.out (by simp [mizmazetop_coloured.l0])
  | succ k1 =>
   have H := HA.out
   clear HA
   simp only [mizmazetop_coloured.l0] at H
   by_cases c10 : x7_1 < (l0_0.length : Int)
   rotate_left
   ·rw [if_neg c10] at H
    have c10b0 : decide (x7_1 < (l0_0.length : Int)) = false := decide_eq_false c10
    clear c10
    obtain rfl := Option.some.inj H
    have hnb53 := NB790_791.out
    have hnc53 := NB791_790.out
    have hnb54 := NB790_792.out
    have hnc54 := NB792_790.out
    have hcz55_0 : wr.cell? ⟨gb790, 0, none⟩ = some (.slice (some ad793) l0_0.length c0_0) := (blk_cell BK790.out 0).trans rfl
    have hfz55_0 := blk_frozen BK790.out 0
    have hnb56 := NB792_791.out
    have hnc56 := NB791_792.out
    have hcz57_0 : wr.cell? ⟨gb792, 0, none⟩ = some (u793000) := (blk_cell BK792.out 0).trans rfl
    have hfz57_0 := blk_frozen BK792.out 0
    obtain ⟨Ao58, co58, eo58⟩ := Kd.S_slice HO_793000.out
    subst eo58
    have hcz59_0 : wr.cell? ⟨gb791, 0, none⟩ = some (.slice none 0 0) := (blk_cell BK791.out 0).trans rfl
    have hfz59_0 := blk_frozen BK791.out 0
    go_wp2
    refine bodyPost_ret (results_cell_row rfl _ _ gb791 24 #[.slice Ao58 x793000_1.length co58] (0, 0) _ rfl (by (with_reducible repeat (first | refine blk_drewN ?_ _ | refine blk_drew ?_ | refine blk_alloc ?_ _)); refine blk_put (cs := #[.slice none 0 0]) ?_ 0 _ rfl; (with_reducible repeat (first | refine blk_drewN ?_ _ | refine blk_drew ?_ | refine blk_alloc ?_ _)); exact BK791.out) Try.underlying24 rfl (by kernel_rfl)) rfl ?_
    exact ⟨_, by first | rfl | (simp [errW_none, errW_some] <;> rfl) | (simp [*, errW_none, errW_some] <;> rfl), kS (Kd.S_mono (Kd.S_far (p := ⟨gb791, 0, none⟩) (Kd.S_types HO_793000.out BK791.out (by decide)) (fun _ hk => hk.2) (.slice Ao58 x793000_1.length co58)) (fun _ hk => trivial)), bs HB.out⟩
   rw [if_pos c10] at H
   have c10b0 : decide (x7_1 < (l0_0.length : Int)) = true := decide_eq_true c10
   clear c10
   obtain ⟨y794, hy794⟩ : ∃ y_ : List Int, y_ = (([] : List Int)) := ⟨_, rfl⟩
   replace H : (if 0 ≤ x7_1 then (if y794.length + (rd_L1 l0_0 x7_1).length < 17592186044416 then (mizmazetop_coloured.l1 k1 l1 ((rd_L1 l0_0 0).length : Int) x7_1 (y794 ++ (rd_L1 l0_0 x7_1)) 0 l0_0 x793000_1) else (none)) else (none)) = some r := by first | (rw [hy794]; with_reducible exact H) | (have H2_ := (Option.bind_some _ _).symm.trans H; rw [hy794]; with_reducible exact H2_) | (have H2_ := (Option.bind_some _ _).symm.trans H; with_reducible exact H2_) | with_reducible exact H | (rw [hy794]; exact H) | exact H
   have Ny794 := am hy794
   clear hy794
   by_cases c11 : 0 ≤ x7_1
   rotate_left
   ·rw [if_neg c11] at H
    exact absurd H (by simp)
   rw [if_pos c11] at H
   have c11b0 : decide (0 ≤ x7_1) = true := decide_eq_true c11
   clear c11
   by_cases c12 : y794.length + (rd_L1 l0_0 x7_1).length < 17592186044416
   rotate_left
   ·rw [if_neg c12] at H
    exact absurd H (by simp)
   rw [if_pos c12] at H
   have LMc12 := am c12
   clear c12
   obtain ⟨y798, hy798⟩ : ∃ y_ : List Int, y_ = (y794 ++ (rd_L1 l0_0 x7_1)) := ⟨_, rfl⟩
   replace H : (mizmazetop_coloured.l1 k1 l1 ((rd_L1 l0_0 0).length : Int) x7_1 y798 0 l0_0 x793000_1) = some r := by first | (rw [hy798]; with_reducible exact H) | (have H2_ := (Option.bind_some _ _).symm.trans H; rw [hy798]; with_reducible exact H2_) | (have H2_ := (Option.bind_some _ _).symm.trans H; with_reducible exact H2_) | with_reducible exact H | (rw [hy798]; exact H) | exact H
   have Ny798 := am hy798
   clear hy798
   have H' := am H
   clear H
   have hnb13 := NB790_791.out
   have hnc13 := NB791_790.out
   have hnb14 := NB790_792.out
   have hnc14 := NB792_790.out
   have hcz15_0 : wr.cell? ⟨gb790, 0, none⟩ = some (.slice (some ad793) l0_0.length c0_0) := (blk_cell BK790.out 0).trans rfl
   have hfz15_0 := blk_frozen BK790.out 0
   go_wp2_with (first | ((with_reducible refine gate_dst (N := 25) rfl ?_); refine Kd.R_lit (Kd.int .i64) _ 3 zz5 (N := 25) zz5 (xs := ([] : List Int)) (inner := []) (ok := fun _ => True) (okp := fun _ => True) zz6 ?hp (fun _ hk => hk) trivial (Below.refl _ _) (Nat.le_refl _) (by simp) ?_; (case hp => exact (Reps.none _ _)); intro v795 w16 ho17 hb hg_ hnew_; clear hg_ hnew_; (first | rw [← Ny794.out] at ho17 | (simp only [Int.reduceToNat] at ho17; rw [← Ny794.out] at ho17)); replace HO_793000 := am (Kd.S_elder' (kS HO_793000.out) (Kd.R_base ho17) hb); have HO796 := am (Kd.R_lower ho17 (below_size (bs HB.out))); replace BK790 := am (blk_below (g := gb790) (o := .cells #[.slice (some ad793) l0_0.length c0_0] 24 (0, 0)) (kb BK790.out) hb); replace BK791 := am (blk_below (g := gb791) (o := .cells #[.slice none 0 0] 24 (0, 0)) (kb BK791.out) hb); replace BK792 := am (blk_below (g := gb792) (o := .cells #[u793000] 24 (0, 0)) (kb BK792.out) hb); replace HB := am (below_step (bs HB.out) hb); clear hb ho17; have hcz18_0 : w16.cell? ⟨gb790, 0, none⟩ = some (.slice (some ad793) l0_0.length c0_0) := (blk_cell BK790.out 0).trans rfl; have hfz18_0 := blk_frozen BK790.out 0; have p797 : 0 ≤ (x7_1 : Int) := od zz2; have q797 : x7_1 < (l0_0.length : Int) := od zz2; obtain ⟨ad797, A797_0, c797_0, e797, hx797_0, hl797_0, hi797_0⟩ := at_L1 HR0_0.out x7_1 p797 q797; obtain rfl : ad793 = ad797 := (by injection e797); replace hx797_0 := (HB.out.cell (World.block_lt_of_cell? w _ hx797_0)).trans hx797_0; have HR797_0 := am hi797_0; have HC797_0 := am hl797_0; clear hi797_0 hl797_0; replace p797 := eq_true p797; replace q797 := eq_true q797) | ((with_reducible refine gate_builtin (b := .append) (xs := #[.tmp 25, .tmp 30]) rfl ?_); at_builtin; refine Kd.R_append_rows (Kd.int .i64) (w0 := w) w.heap.size rfl (.tmp 25) (.tmp 30) 28 3 (.int .i64 0) 8 rfl Try.underlying28 info3 rfl (by decide) (by omega) v795 y794 (rd_L1 l0_0 x7_1) _ _ _ (fun _ => True) (fun _ => False) rfl rfl ?aO ?aR (fun _ _ h => h) (fun _ h => h.elim) ?aF ?aB ?aS ?aL ?_; (case aR => exact kc (Kd.C_below HR797_0.out HB.out)); (case aB => exact (bs HB.out)); (case aF => exact (fun _ _ => trivial)); (case aO => exact (kR HO796.out)); (case aS => exact (below_size (bs HB.out))); (case aL => have := LMc12.out; omega); intro v799 w19 ho hb hg hat; rw [← Ny798.out] at ho; have n0_ := am (Kd.S_after (ok := (fun _ => True)) (kS HO_793000.out) hg hat); have n1_ := am (blk_grown (g := gb790) (o := .cells #[.slice (some ad793) l0_0.length c0_0] 24 (0, 0)) (kb BK790.out) hg (Kd.R_ne HO796.out BK790.out (by decide))); have n2_ := am (blk_grown (g := gb791) (o := .cells #[.slice none 0 0] 24 (0, 0)) (kb BK791.out) hg (Kd.R_ne HO796.out BK791.out (by decide))); have n3_ := am (blk_grown (g := gb792) (o := .cells #[u793000] 24 (0, 0)) (kb BK792.out) hg (Kd.R_ne HO796.out BK792.out (by decide))); have n4_ := am (hb); have n5_ := am (ho); clear HO_793000; clear BK790; clear BK791; clear BK792; clear HB; clear HO796; have HO_793000 := n0_; have BK790 := n1_; have BK791 := n2_; have BK792 := n3_; have HB := n4_; have HO800 := n5_; clear n0_ n1_ n2_ n3_ n4_ n5_; clear ho hb hg hat))
   go_loopg [9] k1 (fun kq v9 w' => ∃ (x8_2 : List Int) (x9_2 : Int), v9 = .int .i64 x9_2 ∧ Aside0 (mizmazetop_coloured.l1 kq l1 ((rd_L1 l0_0 0).length : Int) x7_1 x8_2 x9_2 l0_0 x793000_1 = some r) ∧ Aside0 (kq ≤ k1) ∧ Aside0 (Kd.R (Kd.int .i64) 3 w' w.heap.size (fun _ => True) v799 x8_2) ∧ Aside0 (Kd.S (Kd.slice 3 (Kd.int .i64)) 28 w' w.heap.size (fun k_ => some k_ ≠ (v799 : Value).ownBlock) u793000 x793000_1) ∧ Aside0 (w'.heap[gb790]? = some (.cells #[(.slice (some ad793) l0_0.length c0_0)] 24 (0, 0))) ∧ Aside0 (w'.heap[gb791]? = some (.cells #[(.slice none 0 0)] 24 (0, 0))) ∧ Aside0 (w'.heap[gb792]? = some (.cells #[u793000] 24 (0, 0))) ∧ Aside0 (Below w.heap.size w w'))
   case atStart => exact ⟨(y798), (0), zz3, H', ⟨Nat.le_refl _⟩, ⟨kR HO800.out⟩, ⟨kS (Kd.S_mono HO_793000.out (fun _ hk => hk.2))⟩, ⟨kb BK790.out⟩, ⟨kb BK791.out⟩, ⟨kb BK792.out⟩, ⟨bs HB.out⟩⟩
   case round =>
    clear H'
    (try clear c1); (try clear p2); (try clear c3); (try clear c3b0); (try clear c3b1); (try clear c5); (try clear c7); (try clear p7); (try clear q7); (try clear hx7); (try clear qi7); (try clear c8); (try clear c10); (try clear c10b0); (try clear c11); (try clear c11b0); (try clear c12); (try clear c13); (try clear c14); (try clear hcz15_0); (try clear hcz18_0); (try clear hcz9_0); (try clear hfz15_0); (try clear hfz18_0); (try clear hfz9_0); (try clear hx793_0); (try clear hx797_0); (try clear p2); (try clear p7); (try clear p793); (try clear p797); (try clear q7); (try clear q793); (try clear q797)
    obtain ⟨x8_2, x9_2, rfl, HA, HK2, HO_8, HO_793000, BK790, BK791, BK792, HB⟩ := hrel
    cases gk with
    | zero => exact absurd HA.out (by simp [mizmazetop_coloured.l1])
    | succ k2 =>
     have H := HA.out
     clear HA
     simp only [mizmazetop_coloured.l1] at H
     by_cases c20 : x9_2 < ((rd_L1 l0_0 0).length : Int)
     rotate_left
     ·rw [if_neg c20] at H
      have c20b0 : decide (x9_2 < ((rd_L1 l0_0 0).length : Int)) = false := decide_eq_false c20
      clear c20
      by_cases c45 : x793000_1.length < 5864062014805
      rotate_left
      ·rw [if_neg c45] at H
       exact absurd H (by simp)
      rw [if_pos c45] at H
      have LMc45 := am c45
      clear c45
      obtain ⟨y811, hy811⟩ : ∃ y_ : List (List Int), y_ = (x793000_1 ++ [x8_2]) := ⟨_, rfl⟩
      replace H : (mizmazetop_coloured.l0 k2 l1 ((rd_L1 l0_0 0).length : Int) (wrap64 (x7_1 + 1)) l0_0 y811) = some r := by first | (rw [hy811]; with_reducible exact H) | (have H2_ := (Option.bind_some _ _).symm.trans H; rw [hy811]; with_reducible exact H2_) | (have H2_ := (Option.bind_some _ _).symm.trans H; with_reducible exact H2_) | with_reducible exact H | (rw [hy811]; exact H) | exact H
      have Ny811 := am hy811
      clear hy811
      have H' := am H
      clear H
      have hnb46 := NB792_790.out
      have hnc46 := NB790_792.out
      have hnb47 := NB792_791.out
      have hnc47 := NB791_792.out
      have hcz48_0 : wr.cell? ⟨gb792, 0, none⟩ = some (u793000) := (blk_cell BK792.out 0).trans rfl
      have hfz48_0 := blk_frozen BK792.out 0
      obtain ⟨Ao50, co50, eo50⟩ := Kd.R_slice HO_8.out
      subst eo50
      go_wp2_with (first | ((with_reducible refine gate_builtin (b := .append) (xs := #[.tmp 69, .tmp 71]) rfl ?_); at_builtin; refine Kd.S_append (Kd.slice 3 (Kd.int .i64)) (w0 := w) w.heap.size rfl (.tmp 69) (.tmp 71) 22 28 (.slice none 0 0) 24 rfl Try.underlying22 info28 rfl (by decide) (by omega) u793000 x793000_1 x8_2 [.slice Ao50 x8_2.length co50] (fun _ => True) (fun k_ => some k_ = (.slice Ao50 x8_2.length co50 : Value).ownBlock) rfl rfl ?aP (fun k_ hk_ => ((Kd.R_mono (ok' := fun k_ => ((fun _ => True)) k_ ∧ some k_ ≠ (u793000 : Value).ownBlock) (Kd.R_apart' (HO_8.out) (Kd.S_typed HO_793000.out) (by decide)) (fun k_ hk => ⟨trivial, hk.2⟩))).1 k_ hk_.symm) ?aF ?aO ?aB ?aS ?aL ?_; (case aP => exact Kd.M_row (Kd.R_mono (Kd.R_tight rfl (Kd.R_mono (ok' := fun k_ => ((fun _ => True)) k_ ∧ some k_ ≠ (u793000 : Value).ownBlock) (Kd.R_apart' (HO_8.out) (Kd.S_typed HO_793000.out) (by decide)) (fun k_ hk => ⟨trivial, hk.2⟩))) (fun _ h_ => h_))); (case aB => exact (bs HB.out)); (case aF => exact (fun _ _ => trivial)); (case aO => exact (kS (Kd.S_mono HO_793000.out (fun k_ hk => ⟨trivial, fun e_ => hk e_⟩)))); (case aS => exact (below_size (bs HB.out))); (case aL => have := LMc45.out; omega); intro v812 w49 ho hb hg hat; rw [← Ny811.out] at ho; have n0_ := am (blk_grown (g := gb790) (o := .cells #[.slice (some ad793) l0_0.length c0_0] 24 (0, 0)) (kb BK790.out) hg (Kd.S_ne HO_793000.out BK790.out (by decide))); have n1_ := am (blk_grown (g := gb791) (o := .cells #[.slice none 0 0] 24 (0, 0)) (kb BK791.out) hg (Kd.S_ne HO_793000.out BK791.out (by decide))); have n2_ := am (blk_grown (g := gb792) (o := .cells #[u793000] 24 (0, 0)) (kb BK792.out) hg (Kd.S_ne HO_793000.out BK792.out (by decide))); have n3_ := am (hb); have n4_ := am (ho); clear BK790; clear BK791; clear BK792; clear HB; clear HO_793000; clear HO_8; have BK790 := n0_; have BK791 := n1_; have BK792 := n2_; have HB := n3_; have HO813 := n4_; clear n0_ n1_ n2_ n3_ n4_; clear ho hb hg hat; obtain ⟨Ao51, co51, eo51⟩ := Kd.S_slice HO813.out; subst eo51; have hcz52_0 : w49.cell? ⟨gb792, 0, none⟩ = some (u793000) := (blk_cell BK792.out 0).trans rfl; have hfz52_0 := blk_frozen BK792.out 0))
      go_roundg k2
      case measure => have := HK1.out; have := HK2.out; omega
      case rel => exact ⟨(wrap64 (x7_1 + 1)), (y811), (.slice Ao51 y811.length co51), zz3, H', ⟨by have := HK1.out; have := HK2.out; omega⟩, ⟨kS (Kd.S_mono (Kd.S_far (p := ⟨gb792, 0, none⟩) (Kd.S_types HO813.out BK792.out (by decide)) (fun _ hk => hk.2) (.slice Ao51 y811.length co51)) (fun _ hk => trivial))⟩, ⟨by (with_reducible repeat (first | refine blk_drewN ?_ _ | refine blk_drew ?_ | refine blk_alloc ?_ _)); refine blk_far ?_ NB790_792.out _; (with_reducible repeat (first | refine blk_drewN ?_ _ | refine blk_drew ?_ | refine blk_alloc ?_ _)); exact BK790.out⟩, ⟨by (with_reducible repeat (first | refine blk_drewN ?_ _ | refine blk_drew ?_ | refine blk_alloc ?_ _)); refine blk_far ?_ NB791_792.out _; (with_reducible repeat (first | refine blk_drewN ?_ _ | refine blk_drew ?_ | refine blk_alloc ?_ _)); exact BK791.out⟩, ⟨by (with_reducible repeat (first | refine blk_drewN ?_ _ | refine blk_drew ?_ | refine blk_alloc ?_ _)); refine blk_put (cs := #[u793000]) ?_ 0 _ rfl; (with_reducible repeat (first | refine blk_drewN ?_ _ | refine blk_drew ?_ | refine blk_alloc ?_ _)); exact BK792.out⟩, ⟨bs HB.out⟩⟩
     rw [if_pos c20] at H
     have c20b0 : decide (x9_2 < ((rd_L1 l0_0 0).length : Int)) = true := decide_eq_true c20
     clear c20
     by_cases c21 : (wrap64 ((wrap64 (x7_1 * ((rd_L1 l0_0 0).length : Int))) + x9_2)) < (l1.length : Int)
     rotate_left
     ·rw [if_neg c21] at H
      have c21b0 : decide ((wrap64 ((wrap64 (x7_1 * ((rd_L1 l0_0 0).length : Int))) + x9_2)) < (l1.length : Int)) = false := decide_eq_false c21
      clear c21
      by_cases c36 : 0 ≤ x9_2
      rotate_left
      ·rw [if_neg c36] at H
       exact absurd H (by simp)
      rw [if_pos c36] at H
      have c36b0 : decide (0 ≤ x9_2) = true := decide_eq_true c36
      clear c36
      by_cases c37 : x9_2 < (x8_2.length : Int)
      rotate_left
      ·rw [if_neg c37] at H
       exact absurd H (by simp)
      rw [if_pos c37] at H
      have c37b0 : decide (x9_2 < (x8_2.length : Int)) = true := decide_eq_true c37
      clear c37
      obtain ⟨y809, hy809⟩ : ∃ y_ : List Int, y_ = (x8_2.set (x9_2 : Int).toNat (rd x8_2 x9_2)) := ⟨_, rfl⟩
      replace H : (mizmazetop_coloured.l1 k2 l1 ((rd_L1 l0_0 0).length : Int) x7_1 (y809.set (x9_2 : Int).toNat (rd x8_2 x9_2)) (wrap64 (x9_2 + 1)) l0_0 x793000_1) = some r := by first | (rw [hy809]; with_reducible exact H) | (have H2_ := (Option.bind_some _ _).symm.trans H; rw [hy809]; with_reducible exact H2_) | (have H2_ := (Option.bind_some _ _).symm.trans H; with_reducible exact H2_) | with_reducible exact H | (rw [hy809]; exact H) | exact H
      have Ny809 := am hy809
      clear hy809
      obtain ⟨y810, hy810⟩ : ∃ y_ : List Int, y_ = (y809.set (x9_2 : Int).toNat (rd x8_2 x9_2)) := ⟨_, rfl⟩
      replace H : (mizmazetop_coloured.l1 k2 l1 ((rd_L1 l0_0 0).length : Int) x7_1 y810 (wrap64 (x9_2 + 1)) l0_0 x793000_1) = some r := by first | (rw [hy810]; with_reducible exact H) | (have H2_ := (Option.bind_some _ _).symm.trans H; rw [hy810]; with_reducible exact H2_) | (have H2_ := (Option.bind_some _ _).symm.trans H; with_reducible exact H2_) | with_reducible exact H | (rw [hy810]; exact H) | exact H
      have Ny810 := am hy810
      clear hy810
      have H' := am H
      clear H
      obtain ⟨Ao40, co40, eo40⟩ := Kd.R_slice HO_8.out
      subst eo40
      have p807 : 0 ≤ (x9_2 : Int) := od zz2
      have q807 : x9_2 < (x8_2.length : Int) := od zz2
      obtain ⟨ad807, e807, hx807_0⟩ := Kd.at_int (Kd.R_reads' HO_8.out).2.2 x9_2 p807 q807
      cases e807
      replace p807 := eq_true p807
      replace q807 := eq_true q807
      have p808 : 0 ≤ (x9_2 : Int) := od zz2
      have q808 : x9_2 < (x8_2.length : Int) := od zz2
      obtain ⟨ad808, e808, hx808_0⟩ := Kd.at_int (Kd.R_reads' HO_8.out).2.2 x9_2 p808 q808
      obtain rfl : ad807 = ad808 := (by injection e808)
      replace p808 := eq_true p808
      replace q808 := eq_true q808
      have p38 : 0 ≤ (x9_2 : Int) := od zz2
      have q38 : (x9_2 : Int) < ((x8_2.length : Int) : Int) := od zz2
      obtain ⟨go38, co38, eo38, gb38, gl38, cl38, HG38⟩ := Kd.R_form HO_8.out (by omega)
      (first | cases eo38 | (injection eo38 with ea_ en_ ec_; (first | subst ea_ | (injection ea_ with ea_; subst ea_)); subst ec_; clear en_))
      have GB38 := am gb38
      have GG38 := am HG38
      clear gb38 gl38 HG38
      (first | simp only [add_plain] at hx807_0 | skip)
      (first | simp only [add_plain] at hx808_0 | skip)
      obtain ⟨hx38_0, hf38_0⟩ := Kd.R_celln 0 HO_8.out (x9_2 : Int) p38 q38
      replace p38 := eq_true p38
      replace q38 := eq_true q38
      have HP41 := Kd.R_putg HO_8.out (x9_2 : Int) (rd x8_2 x9_2)
      go_wp2_with (first | ((with_reducible refine gate_store (t := 3) (p := 63) rfl ?_); refine store_event (t := 3) (p := 63) (v := ?vo_w42) (w1 := (wr.setCell ⟨go38, (x9_2 : Int).toNat, none⟩ (.int .i64 (rd x8_2 x9_2)))) zz5 zz5 zz5 zz6 ?_; intro w42 hw; have hg : wr.grownBy w42 (some go38) := (by rw [hw]; exact HP41.2); have hp_ : Kd.R (Kd.int .i64) 3 w42 w.heap.size (fun _ => True) (.slice (some ⟨go38, 0, none⟩) x8_2.length co40) y809 := (by rw [hw, Ny809.out]; exact HP41.1); clear HP41; replace HO_793000 := am (Kd.S_after (v := (.slice (some ⟨go38, 0, none⟩) x8_2.length co40)) (v1 := (.slice (some ⟨go38, 0, none⟩) x8_2.length co40)) (ok := (fun _ => True)) (kS (Kd.S_mono HO_793000.out (fun _ hk => ⟨trivial, hk⟩))) hg (.inl rfl)); replace BK790 := am (blk_grown (g := gb790) (o := .cells #[.slice (some ad793) l0_0.length c0_0] 24 (0, 0)) (kb BK790.out) hg (Kd.R_ne HO_8.out BK790.out (by decide))); replace BK791 := am (blk_grown (g := gb791) (o := .cells #[.slice none 0 0] 24 (0, 0)) (kb BK791.out) hg (Kd.R_ne HO_8.out BK791.out (by decide))); replace BK792 := am (blk_grown (g := gb792) (o := .cells #[u793000] 24 (0, 0)) (kb BK792.out) hg (Kd.R_ne HO_8.out BK792.out (by decide))); replace HO_8 := am (hp_); replace HB := am ((by rw [hw]; exact below_set (HB.out) GB38.out : Below w.heap.size w w42)); clear hg hw hp_; have p39 : 0 ≤ (x9_2 : Int) := od zz2; have q39 : (x9_2 : Int) < ((x8_2.length : Int) : Int) := od zz2; obtain ⟨hx39_0, hf39_0⟩ := Kd.R_celln 0 HO_8.out (x9_2 : Int) p39 q39; replace p39 := eq_true p39; replace q39 := eq_true q39; obtain ⟨hy43_, hz43_⟩ := Kd.R_celln 0 HO_8.out (x9_2 : Int) (od zz2) (od zz2); have HP43 := Kd.R_putg HO_8.out (x9_2 : Int) (rd x8_2 x9_2)) | ((with_reducible refine gate_store (t := 3) (p := 67) rfl ?_); refine store_event (t := 3) (p := 67) (v := ?vo_w44) (w1 := (w42.setCell ⟨go38, (x9_2 : Int).toNat, none⟩ (.int .i64 (rd x8_2 x9_2)))) zz5 zz5 zz5 zz6 ?_; intro w44 hw; have hg : w42.grownBy w44 (some go38) := (by rw [hw]; exact HP43.2); have hp_ : Kd.R (Kd.int .i64) 3 w44 w.heap.size (fun _ => True) (.slice (some ⟨go38, 0, none⟩) x8_2.length co40) y810 := (by rw [hw, Ny810.out]; exact HP43.1); clear HP43; replace HO_793000 := am (Kd.S_after (v := (.slice (some ⟨go38, 0, none⟩) x8_2.length co40)) (v1 := (.slice (some ⟨go38, 0, none⟩) x8_2.length co40)) (ok := (fun _ => True)) (kS HO_793000.out) hg (.inl rfl)); replace BK790 := am (blk_grown (g := gb790) (o := .cells #[.slice (some ad793) l0_0.length c0_0] 24 (0, 0)) (kb BK790.out) hg (Kd.R_ne HO_8.out BK790.out (by decide))); replace BK791 := am (blk_grown (g := gb791) (o := .cells #[.slice none 0 0] 24 (0, 0)) (kb BK791.out) hg (Kd.R_ne HO_8.out BK791.out (by decide))); replace BK792 := am (blk_grown (g := gb792) (o := .cells #[u793000] 24 (0, 0)) (kb BK792.out) hg (Kd.R_ne HO_8.out BK792.out (by decide))); replace HO_8 := am (hp_); replace HB := am ((by rw [hw]; exact below_set (HB.out) GB38.out : Below w.heap.size w w44)); clear hg hw hp_))
      go_roundg k2
      case measure => have := HK1.out; have := HK2.out; omega
      case rel => exact ⟨(y810), (wrap64 (x9_2 + 1)), zz3, H', ⟨by have := HK1.out; have := HK2.out; omega⟩, ⟨kR HO_8.out⟩, ⟨kS (Kd.S_mono HO_793000.out (fun _ hk => hk.2))⟩, ⟨kb BK790.out⟩, ⟨kb BK791.out⟩, ⟨kb BK792.out⟩, ⟨bs HB.out⟩⟩
     rw [if_pos c21] at H
     have c21b0 : decide ((wrap64 ((wrap64 (x7_1 * ((rd_L1 l0_0 0).length : Int))) + x9_2)) < (l1.length : Int)) = true := decide_eq_true c21
     clear c21
     obtain ⟨ji22, hji22⟩ : ∃ j_ : Int, (wrap64 ((wrap64 (x7_1 * ((rd_L1 l0_0 0).length : Int))) + x9_2)) = j_ := ⟨_, rfl⟩
     replace H : (if 0 ≤ (ji22) then ((mizmazetop_cycle.f (rd l1 (ji22)) ((rd_L1 l0_0 0).length : Int)).bind fun t802 => (if 0 ≤ x9_2 then (if x9_2 < (x8_2.length : Int) then (if 0 ≤ t802 then (if t802 < (x8_2.length : Int) then (mizmazetop_coloured.l1 k2 l1 ((rd_L1 l0_0 0).length : Int) x7_1 ((x8_2.set (x9_2 : Int).toNat (rd x8_2 t802)).set (t802 : Int).toNat (rd x8_2 x9_2)) (wrap64 (x9_2 + 1)) l0_0 x793000_1) else (none)) else (none)) else (none)) else (none))) else (none)) = some r := by first | (rw [hji22] at H; exact H) | (simp only [hji22] at H ⊢; exact H)
     (try rw [hji22] at c21b0)
     have hji22w : (IntKind.i64.wrap ((wrap64 (x7_1 * ((rd_L1 l0_0 0).length : Int))) + x9_2)) = ji22 := (i64_w _).trans hji22
     by_cases c23 : 0 ≤ (ji22)
     rotate_left
     ·rw [if_neg c23] at H
      exact absurd H (by simp)
     rw [if_pos c23] at H
     have c23b0 : decide (0 ≤ (ji22)) = true := decide_eq_true c23
     clear c23
     replace H := Option.bind_eq_some_iff.mp H
     obtain ⟨t802, A240, H⟩ := H
     replace H : (if 0 ≤ x9_2 then (if x9_2 < (x8_2.length : Int) then (if 0 ≤ t802 then (if t802 < (x8_2.length : Int) then (mizmazetop_coloured.l1 k2 l1 ((rd_L1 l0_0 0).length : Int) x7_1 ((x8_2.set (x9_2 : Int).toNat (rd x8_2 t802)).set (t802 : Int).toNat (rd x8_2 x9_2)) (wrap64 (x9_2 + 1)) l0_0 x793000_1) else (none)) else (none)) else (none)) else (none)) = some r := H
     have A24 := am A240
     clear A240
     by_cases c25 : 0 ≤ x9_2
     rotate_left
     ·rw [if_neg c25] at H
      exact absurd H (by simp)
     rw [if_pos c25] at H
     have c25b0 : decide (0 ≤ x9_2) = true := decide_eq_true c25
     clear c25
     by_cases c26 : x9_2 < (x8_2.length : Int)
     rotate_left
     ·rw [if_neg c26] at H
      exact absurd H (by simp)
     rw [if_pos c26] at H
     have c26b0 : decide (x9_2 < (x8_2.length : Int)) = true := decide_eq_true c26
     clear c26
     by_cases c27 : 0 ≤ t802
     rotate_left
     ·rw [if_neg c27] at H
      exact absurd H (by simp)
     rw [if_pos c27] at H
     have c27b0 : decide (0 ≤ t802) = true := decide_eq_true c27
     clear c27
     by_cases c28 : t802 < (x8_2.length : Int)
     rotate_left
     ·rw [if_neg c28] at H
      exact absurd H (by simp)
     rw [if_pos c28] at H
     have c28b0 : decide (t802 < (x8_2.length : Int)) = true := decide_eq_true c28
     clear c28
     obtain ⟨y805, hy805⟩ : ∃ y_ : List Int, y_ = (x8_2.set (x9_2 : Int).toNat (rd x8_2 t802)) := ⟨_, rfl⟩
     replace H : (mizmazetop_coloured.l1 k2 l1 ((rd_L1 l0_0 0).length : Int) x7_1 (y805.set (t802 : Int).toNat (rd x8_2 x9_2)) (wrap64 (x9_2 + 1)) l0_0 x793000_1) = some r := by first | (rw [hy805]; with_reducible exact H) | (have H2_ := (Option.bind_some _ _).symm.trans H; rw [hy805]; with_reducible exact H2_) | (have H2_ := (Option.bind_some _ _).symm.trans H; with_reducible exact H2_) | with_reducible exact H | (rw [hy805]; exact H) | exact H
     have Ny805 := am hy805
     clear hy805
     obtain ⟨y806, hy806⟩ : ∃ y_ : List Int, y_ = (y805.set (t802 : Int).toNat (rd x8_2 x9_2)) := ⟨_, rfl⟩
     replace H : (mizmazetop_coloured.l1 k2 l1 ((rd_L1 l0_0 0).length : Int) x7_1 y806 (wrap64 (x9_2 + 1)) l0_0 x793000_1) = some r := by first | (rw [hy806]; with_reducible exact H) | (have H2_ := (Option.bind_some _ _).symm.trans H; rw [hy806]; with_reducible exact H2_) | (have H2_ := (Option.bind_some _ _).symm.trans H; with_reducible exact H2_) | with_reducible exact H | (rw [hy806]; exact H) | exact H
     have Ny806 := am hy806
     clear hy806
     have H' := am H
     clear H
     have p801 : 0 ≤ ((ji22) : Int) := od zz2
     have q801 : (ji22) < (l1.length : Int) := od zz2
     obtain ⟨ad801, e801, hx801_0⟩ := Kd.at_int HR1.out (ji22) p801 q801
     cases e801
     replace hx801_0 := (HB.out.cell (World.block_lt_of_cell? w _ hx801_0)).trans hx801_0
     replace p801 := eq_true p801
     replace q801 := eq_true q801
     go_wp2_with (first | ((with_reducible refine gate_callee (f := 96) rfl ?_); refine goesL_ (some 52) rfl rfl Try.func96 (by kernel_rfl) rfl #[.int .i64 (rd l1 (ji22)), .int .i64 ((rd_L1 l0_0 0).length : Int)] rfl (by (try simp only [List.map_toArray, List.map_cons, List.map_nil]); first | done | (simp only [hji22]; rfl) | rfl | (simp only [List.length_drop, List.length_take]; rfl)) ?_; (with_reducible refine (mizmazetop_cycle.calls (rd l1 (ji22)) ((rd_L1 l0_0 0).length : Int) t802 _ A24.out).mono ?_); rintro e w' ⟨rfl, ⟨nd, rfl⟩⟩; refine ⟨_, rfl, ?_⟩; (try (rw [drewN_self wr]; generalize hq_ : World.drewN wr _ = wr; have n0_ : Aside0 (Kd.S (Kd.slice 3 (Kd.int .i64)) 28 wr w.heap.size (fun k_ => some k_ ≠ (v799 : Value).ownBlock) u793000 x793000_1) := ⟨by rw [← hq_]; exact (kS HO_793000.out)⟩; have n1_ : Aside0 (Kd.R (Kd.int .i64) 3 wr w.heap.size (fun _ => True) v799 x8_2) := ⟨by rw [← hq_]; exact (kR HO_8.out)⟩; have n2_ : Aside0 (wr.heap[gb790]? = some (.cells #[.slice (some ad793) l0_0.length c0_0] 24 (0, 0))) := ⟨by rw [← hq_]; exact (kb BK790.out)⟩; have n3_ : Aside0 (wr.heap[gb791]? = some (.cells #[.slice none 0 0] 24 (0, 0))) := ⟨by rw [← hq_]; exact (kb BK791.out)⟩; have n4_ : Aside0 (wr.heap[gb792]? = some (.cells #[u793000] 24 (0, 0))) := ⟨by rw [← hq_]; exact (kb BK792.out)⟩; have n5_ : Aside0 (Below w.heap.size w wr) := ⟨by rw [← hq_]; exact (bs HB.out)⟩; clear HO_793000 HO_8 BK790 BK791 BK792 HB hq_; have HO_793000 := n0_; have HO_8 := n1_; have BK790 := n2_; have BK791 := n3_; have BK792 := n4_; have HB := n5_; clear n0_ n1_ n2_ n3_ n4_ n5_)); obtain ⟨Ao31, co31, eo31⟩ := Kd.R_slice HO_8.out; subst eo31; have p803 : 0 ≤ (x9_2 : Int) := od zz2; have q803 : x9_2 < (x8_2.length : Int) := od zz2; obtain ⟨ad803, e803, hx803_0⟩ := Kd.at_int (Kd.R_reads' HO_8.out).2.2 x9_2 p803 q803; cases e803; replace p803 := eq_true p803; replace q803 := eq_true q803; have p804 : 0 ≤ (t802 : Int) := od zz2; have q804 : t802 < (x8_2.length : Int) := od zz2; obtain ⟨ad804, e804, hx804_0⟩ := Kd.at_int (Kd.R_reads' HO_8.out).2.2 t802 p804 q804; obtain rfl : ad803 = ad804 := (by injection e804); replace p804 := eq_true p804; replace q804 := eq_true q804; have p29 : 0 ≤ (x9_2 : Int) := od zz2; have q29 : (x9_2 : Int) < ((x8_2.length : Int) : Int) := od zz2; obtain ⟨go29, co29, eo29, gb29, gl29, cl29, HG29⟩ := Kd.R_form HO_8.out (by omega); (first | cases eo29 | (injection eo29 with ea_ en_ ec_; (first | subst ea_ | (injection ea_ with ea_; subst ea_)); subst ec_; clear en_)); have GB29 := am gb29; have GG29 := am HG29; clear gb29 gl29 HG29; (first | simp only [add_plain] at hx803_0 | skip); (first | simp only [add_plain] at hx804_0 | skip); obtain ⟨hx29_0, hf29_0⟩ := Kd.R_celln 0 HO_8.out (x9_2 : Int) p29 q29; replace p29 := eq_true p29; replace q29 := eq_true q29; obtain ⟨hy32_, hz32_⟩ := Kd.R_celln 0 HO_8.out (x9_2 : Int) (od zz2) (od zz2); have HP32 := Kd.R_putg HO_8.out (x9_2 : Int) (rd x8_2 t802)) | ((with_reducible refine gate_store (t := 3) (p := 63) rfl ?_); refine store_event (t := 3) (p := 63) (v := ?vo_w33) (w1 := (wr.setCell ⟨go29, (x9_2 : Int).toNat, none⟩ (.int .i64 (rd x8_2 t802)))) zz5 zz5 zz5 zz6 ?_; intro w33 hw; have hg : wr.grownBy w33 (some go29) := (by rw [hw]; exact HP32.2); have hp_ : Kd.R (Kd.int .i64) 3 w33 w.heap.size (fun _ => True) (.slice (some ⟨go29, 0, none⟩) x8_2.length co31) y805 := (by rw [hw, Ny805.out]; exact HP32.1); clear HP32; replace HO_793000 := am (Kd.S_after (v := (.slice (some ⟨go29, 0, none⟩) x8_2.length co31)) (v1 := (.slice (some ⟨go29, 0, none⟩) x8_2.length co31)) (ok := (fun _ => True)) (kS (Kd.S_mono HO_793000.out (fun _ hk => ⟨trivial, hk⟩))) hg (.inl rfl)); replace BK790 := am (blk_grown (g := gb790) (o := .cells #[.slice (some ad793) l0_0.length c0_0] 24 (0, 0)) (kb BK790.out) hg (Kd.R_ne HO_8.out BK790.out (by decide))); replace BK791 := am (blk_grown (g := gb791) (o := .cells #[.slice none 0 0] 24 (0, 0)) (kb BK791.out) hg (Kd.R_ne HO_8.out BK791.out (by decide))); replace BK792 := am (blk_grown (g := gb792) (o := .cells #[u793000] 24 (0, 0)) (kb BK792.out) hg (Kd.R_ne HO_8.out BK792.out (by decide))); replace HO_8 := am (hp_); replace HB := am ((by rw [hw]; exact below_set (HB.out) GB29.out : Below w.heap.size w w33)); clear hg hw hp_; have p30 : 0 ≤ (t802 : Int) := od zz2; have q30 : (t802 : Int) < ((x8_2.length : Int) : Int) := od zz2; obtain ⟨hx30_0, hf30_0⟩ := Kd.R_celln 0 HO_8.out (t802 : Int) p30 q30; replace p30 := eq_true p30; replace q30 := eq_true q30; obtain ⟨hy34_, hz34_⟩ := Kd.R_celln 0 HO_8.out (t802 : Int) (od zz2) (od zz2); have HP34 := Kd.R_putg HO_8.out (t802 : Int) (rd x8_2 x9_2)) | ((with_reducible refine gate_store (t := 3) (p := 67) rfl ?_); refine store_event (t := 3) (p := 67) (v := ?vo_w35) (w1 := (w33.setCell ⟨go29, (t802 : Int).toNat, none⟩ (.int .i64 (rd x8_2 x9_2)))) zz5 zz5 zz5 zz6 ?_; intro w35 hw; have hg : w33.grownBy w35 (some go29) := (by rw [hw]; exact HP34.2); have hp_ : Kd.R (Kd.int .i64) 3 w35 w.heap.size (fun _ => True) (.slice (some ⟨go29, 0, none⟩) x8_2.length co31) y806 := (by rw [hw, Ny806.out]; exact HP34.1); clear HP34; replace HO_793000 := am (Kd.S_after (v := (.slice (some ⟨go29, 0, none⟩) x8_2.length co31)) (v1 := (.slice (some ⟨go29, 0, none⟩) x8_2.length co31)) (ok := (fun _ => True)) (kS HO_793000.out) hg (.inl rfl)); replace BK790 := am (blk_grown (g := gb790) (o := .cells #[.slice (some ad793) l0_0.length c0_0] 24 (0, 0)) (kb BK790.out) hg (Kd.R_ne HO_8.out BK790.out (by decide))); replace BK791 := am (blk_grown (g := gb791) (o := .cells #[.slice none 0 0] 24 (0, 0)) (kb BK791.out) hg (Kd.R_ne HO_8.out BK791.out (by decide))); replace BK792 := am (blk_grown (g := gb792) (o := .cells #[u793000] 24 (0, 0)) (kb BK792.out) hg (Kd.R_ne HO_8.out BK792.out (by decide))); replace HO_8 := am (hp_); replace HB := am ((by rw [hw]; exact below_set (HB.out) GB29.out : Below w.heap.size w w35)); clear hg hw hp_))
     go_roundg k2
     case measure => have := HK1.out; have := HK2.out; omega
     case rel => exact ⟨(y806), (wrap64 (x9_2 + 1)), zz3, H', ⟨by have := HK1.out; have := HK2.out; omega⟩, ⟨kR HO_8.out⟩, ⟨kS (Kd.S_mono HO_793000.out (fun _ hk => hk.2))⟩, ⟨kb BK790.out⟩, ⟨kb BK791.out⟩, ⟨kb BK792.out⟩, ⟨bs HB.out⟩⟩
end Go.Proofs.Ytjgdalhdiohclaa.Q
end
section
namespace Go.Proofs.Ytjgdalhdiohclaa.Q
def qtps0 : Array Bool := #[true, false, false, false, false, false, false, false, false, false, false, false, false, false]
def qtps1 : Array Bool := #[true, true, false, false, false, false, false, false, false, false, false, false, false, false]
def qtps2 : Array Bool := #[true, true, true, false, false, false, false, false, false, false, false, false, false, false]
def qtps3 : Array Bool := #[true, true, true, true, false, false, false, false, false, false, false, false, false, false]
def qtps4 : Array Bool := #[true, true, true, true, false, true, false, false, false, false, false, false, false, false]
def qtps5 : Array Bool := #[true, true, true, true, true, true, false, false, false, false, false, false, false, false]
def qtps6 : Array Bool := #[true, true, true, true, true, true, true, false, false, false, false, false, false, false]
def qtps7 : Array Bool := #[true, true, true, true, true, true, true, true, false, false, false, false, false, false]
def qtps8 : Array Bool := #[true, true, true, true, true, true, true, true, true, false, false, false, false, false]
def qtps9 : Array Bool := #[true, true, true, true, true, true, true, true, true, true, false, false, false, false]
def qtps10 : Array Bool := #[true, true, true, true, true, true, true, true, true, true, true, false, false, false]
def qtps11 : Array Bool := #[true, true, true, true, true, true, true, true, true, true, true, true, false, false]
def qtps12 : Array Bool := #[true, true, true, true, true, true, true, true, true, true, true, true, true, false]
def qtps13 : Array Bool := #[true, true, true, true, true, true, true, true, true, true, true, true, true, true]
attribute [local go_sem] max2_int min2_int max_two min_two max_three min_three max_four min_four
def mizmazetop_proper.l0 : Nat → List Int → List Int → Int → List (List Int) → Option (List Int)
 | 0, _, _, _, _ => none
 | k + 1, x1, x5, x6, x815000 => if x6 < (x1.length : Int) then (if x6 < 2000 then (if 0 ≤ x6 then (if 0 < (x815000.length : Int) then ((mizmazetop_cycle.f (rd x1 x6) ((rd_L1 x815000 0).length : Int)).bind fun t817 => (if x5.length < 17592186044416 then (mizmazetop_proper.l0 k x1 (x5 ++ [t817]) (wrap64 (x6 + 1)) x815000) else (none))) else (none)) else (none)) else (some x5)) else (some x5)
def mizmazetop_proper.f (k : Nat) (l0_0 : List (List Int)) (l1 : List Int) : Option (List Int) := mizmazetop_proper.l0 k l1 ([] : List Int) 0 l0_0
def mizmazetop_proper.T5 : Bool × List (List Nat × List Nat) := (true, [([], []), ([], []), ([], []), ([1, 2], [1, 2]), ([3], [3]), ([], []), ([5], [5]), ([6], [6]), ([7], [7]), ([8], [8]), ([4, 9], [4, 9]), ([10], [10]), ([0, 11, 10], [0, 11]), ([12, 12, 0, 1, 2, 3, 4, 5, 6, 7, 8, 9, 10, 11, 12], [0, 12])])
def mizmazetop_proper.B5 : List Nat := [0, 0, 0, 6, 14, 0, 32, 96, 224, 480, 1022, 2046, 4095, 8191]
theorem mizmazetop_proper.tab5 : rtab .any (opsOf Try.f58 5) = mizmazetop_proper.T5 := by kernel_rfl
theorem mizmazetop_proper.bits5 : waitsOk mizmazetop_proper.T5.2 mizmazetop_proper.B5 = true := by kernel_rfl
theorem mizmazetop_proper.calls (k : Nat) (A0_0 : Option Addr) (c0_0 : Nat) (l0_0 : List (List Int)) (A1 : Option Addr) (c1 : Nat) (l1 : List Int) (r : List Int) (w : World) (hr0_0 : Kd.C (Kd.slice 3 (Kd.int .i64)) w A0_0 l0_0.length l0_0) (hc0_0 : l0_0.length ≤ c0_0) (hr1 : Kd.C (Kd.int .i64) w A1 l1.length l1) (hc1 : l1.length ≤ c1) (h : mizmazetop_proper.f k l0_0 l1 = some r) :
  Calls Try.prog 58 #[.agg #[.slice A0_0 l0_0.length c0_0], .slice A1 l1.length c1] w fun e w' => ∃ v0_ : Value, e = .returned (v0_) ∧ Kd.R (Kd.int .i64) 3 w' w.heap.size (fun _ => True) v0_ r ∧ Below w.heap.size w w' := by
 have hu24 := Try.underlying24
 have HR0_0 := am hr0_0
 have HC0_0 := am hc0_0
 clear hr0_0 hc0_0
 have HR1 := am hr1
 have HC1 := am hc1
 clear hr1 hc1
 have HB := am (Below.refl w.heap.size w)
 have H : (mizmazetop_proper.l0 k l1 ([] : List Int) 0 l0_0) = some r := h
 clear h
 have H' := am H
 clear H
 go_enter Try.func58, Try.ntmps58
 go_wp2_with (first | ((with_reducible refine gate_dst (N := 2) rfl ?_); refine box_event zz5 (N := 2) zz5 (cs := #[.slice A0_0 l0_0.length c0_0]) (t := 24) zz6 ?_; intro gb814 hg w3 hbox hb; have BK814 := am (hbox); have GW814 := am ((by rw [hg]; exact (below_size (bw HB.out)) : w.heap.size ≤ gb814)); have GE814 := am ((by rw [hg]; exact (below_size (bw HB.out)) : w.heap.size ≤ gb814)); replace HB := am (below_step (bw HB.out) hb); clear hb hbox hg))
 go_loopg [5, 6] k (fun kq v5 v6 w' => ∃ (x5_1 : List Int) (x6_1 : Int), v6 = .int .i64 x6_1 ∧ Aside0 (mizmazetop_proper.l0 kq l1 x5_1 x6_1 l0_0 = some r) ∧ Aside0 (kq ≤ k) ∧ Aside0 (Kd.R (Kd.int .i64) 3 w' w.heap.size (fun _ => True) v5 x5_1) ∧ Aside0 (w'.heap[gb814]? = some (.cells #[(.slice A0_0 l0_0.length c0_0)] 24 (0, 0))) ∧ Aside0 (Below w.heap.size w w'))
 case atStart => exact ⟨(([] : List Int)), (0), zz3, H', ⟨Nat.le_refl _⟩, ⟨by first | exact Kd.R_nil _ _ _ _ _ | exact Kd.N_nil _ _ _ _ _ | exact Kd.V_nil _ _ _ _ _ | exact Kd.Q_nil _ _ _ _ _ | exact Kd.S_nil _ _ _ _ _⟩, ⟨kb BK814.out⟩, ⟨bs HB.out⟩⟩
 case round =>
  clear H'
  (try clear c1); (try clear p2)
  obtain ⟨x5_1, x6_1, rfl, HA, HK1, HO_5, BK814, HB⟩ := hrel
  cases gk with
  | zero => exact absurd HA.out (by simp [mizmazetop_proper.l0])
  | succ k1 =>
   have H := HA.out
   clear HA
   simp only [mizmazetop_proper.l0] at H
   by_cases c4 : x6_1 < (l1.length : Int)
   ·rw [if_pos c4] at H
    have c4b0 : decide (x6_1 < (l1.length : Int)) = true := decide_eq_true c4
    clear c4
    by_cases c5 : x6_1 < 2000
    ·rw [if_pos c5] at H
     have c5b0 : decide (x6_1 < 2000) = true := decide_eq_true c5
     clear c5
     by_cases c6 : 0 ≤ x6_1
     ·rw [if_pos c6] at H
      have c6b0 : decide (0 ≤ x6_1) = true := decide_eq_true c6
      clear c6
      by_cases c7 : 0 < (l0_0.length : Int)
      ·rw [if_pos c7] at H
       have c7b0 : decide (0 < (l0_0.length : Int)) = true := decide_eq_true c7
       have c7b1 : decide (0 < l0_0.length) = true := decide_eq_true (by omega)
       clear c7
       replace H := Option.bind_eq_some_iff.mp H
       obtain ⟨t817, A80, H⟩ := H
       replace H : (if x5_1.length < 17592186044416 then (mizmazetop_proper.l0 k1 l1 (x5_1 ++ [t817]) (wrap64 (x6_1 + 1)) l0_0) else (none)) = some r := H
       have A8 := am A80
       clear A80
       by_cases c9 : x5_1.length < 17592186044416
       ·rw [if_pos c9] at H
        have LMc9 := am c9
        clear c9
        obtain ⟨y818, hy818⟩ : ∃ y_ : List Int, y_ = (x5_1 ++ [t817]) := ⟨_, rfl⟩
        replace H : (mizmazetop_proper.l0 k1 l1 y818 (wrap64 (x6_1 + 1)) l0_0) = some r := by first | (rw [hy818]; with_reducible exact H) | (have H2_ := (Option.bind_some _ _).symm.trans H; rw [hy818]; with_reducible exact H2_) | (have H2_ := (Option.bind_some _ _).symm.trans H; with_reducible exact H2_) | with_reducible exact H | (rw [hy818]; exact H) | exact H
        have Ny818 := am hy818
        clear hy818
        have H' := am H
        clear H
        try go_wp2
        replace HO_5 := am (Kd.R_drew HO_5.out)
        replace BK814 := am (blk_drew BK814.out)
        replace HB := am (bd HB.out)
        have p815 : 0 ≤ (x6_1 : Int) := od zz2
        have q815 : x6_1 < (l1.length : Int) := od zz2
        obtain ⟨ad815, e815, hx815_0⟩ := Kd.at_int HR1.out x6_1 p815 q815
        have hw815_0 := hx815_0
        cases e815
        replace hx815_0 := (HB.out.cell (World.block_lt_of_cell? w _ hx815_0)).trans hx815_0
        replace p815 := eq_true p815
        replace q815 := eq_true q815
        have p816 : 0 ≤ (0 : Int) := (by omega)
        have q816 : 0 < (l0_0.length : Int) := od zz2
        obtain ⟨ad816, A816_0, c816_0, e816, hx816_0, hl816_0, hi816_0⟩ := at_L1 HR0_0.out 0 p816 q816
        have hw816_0 := hx816_0
        (try rw [show ((0 : Int)).toNat = 0 from rfl] at hw816_0)
        (try rw [show 0 * 1 = 0 from rfl] at hw816_0)
        (try rw [Addr.add_zero'] at hw816_0)
        cases e816
        have qi816 : (0 < l0_0.length) = True := eq_true (by omega)
        (try rw [show ((0 : Int)).toNat = 0 from rfl] at hx816_0)
        (try rw [Addr.add_zero'] at hx816_0)
        replace hx816_0 := (HB.out.cell (World.block_lt_of_cell? w _ hx816_0)).trans hx816_0
        have HR816_0 := am hi816_0
        have HC816_0 := am hl816_0
        clear hi816_0 hl816_0
        replace p816 := eq_true p816
        replace q816 := eq_true q816
        refine start_ (n := 14) (S := fun w' => w'.cell? ⟨gb814, 0, none⟩ = some (.slice (some ad816) l0_0.length c0_0) ∧ w'.cell? (ad815.add (x6_1).toNat) = some (.int .i64 (rd l1 x6_1)) ∧ w'.cell? ad816 = some (.slice A816_0 (rd_L1 l0_0 0).length c816_0)) (ds := []) #[false, false, false, false, false, false, false, false, false, false, false, false, false, false] (by kernel_rfl) rfl rfl ⟨(blk_cell BK814.out 0).trans rfl, ((HB.out.cell (World.block_lt_of_cell? w _ hw815_0)).trans hw815_0), ((HB.out.cell (World.block_lt_of_cell? w _ hw816_0)).trans hw816_0)⟩ (fun hHeld => ?_); refine with_tabW mizmazetop_proper.tab5 mizmazetop_proper.bits5 (fun HT_ HW_ => ?_)
        generalize wr.drew = w10 at HO_5 BK814 HB HR816_0 hx815_0 hx816_0 hHeld ⊢
        refine pv_ 0 17 qtps0 HT_ ?_
        refine pv_ 1 18 qtps1 HT_ ?_
        refine pv_ 2 19 qtps2 HT_ ?_
        refine pv_ 3 20 qtps3 HT_ ?_
        refine pv_ 5 22 qtps4 HT_ ?_
        refine tv_ 4 21 qtps5 HT_ HW_ hHeld ?_
        refine tv_ 6 23 qtps6 HT_ HW_ hHeld ?_
        refine pv_ 7 24 qtps7 HT_ ?_
        refine tv_ 8 25 qtps8 HT_ HW_ hHeld ?_
        refine pv_ 9 26 qtps9 HT_ ?_
        refine one_ (i := 10) (N := some 27) qtps10 rfl rfl (one_of HT_.out (by kernel_rfl)) (by decide) (fun K hK => ?_)
        refine goes_ Try.func96 (by kernel_rfl) rfl #[.int .i64 (rd l1 x6_1), .int .i64 ((rd_L1 l0_0 0).length : Int)] (by rfl) rfl rfl zz1 ?_
        with_reducible refine (mizmazetop_cycle.calls (rd l1 x6_1) ((rd_L1 l0_0 0).length : Int) t817 _ A8.out).mono ?_
        rintro e w' ⟨rfl, ⟨nd, rfl⟩⟩
        refine ⟨_, rfl, ?_⟩
        refine hK.out _ _ ⟨(blk_cell BK814.out 0).trans rfl, ((HB.out.cell (World.block_lt_of_cell? w _ hw815_0)).trans hw815_0), ((HB.out.cell (World.block_lt_of_cell? w _ hw816_0)).trans hw816_0)⟩ (fun hHeld => ?_)
        clear hK K
        refine nm_ 27 ?_
        refine one_ (i := 11) (N := some 28) qtps11 rfl rfl (one_of HT_.out (by kernel_rfl)) (by decide) (fun K hK => ?_)
        refine value_ (w1 := ?_) (v := ?_) (by rfl) rfl ?_ ?_
        rotate_left 2
        ·go_simp
         constructor
         ·rfl
         ·rfl
        refine hK.out _ _ ⟨(blk_cell (blk_alloc BK814.out _) 0).trans rfl, (World.cell?_alloc_lt _ _ _ (World.block_lt_of_cell? _ _ (((HB.out.cell (World.block_lt_of_cell? w _ hw815_0)).trans hw815_0)))).trans (((HB.out.cell (World.block_lt_of_cell? w _ hw815_0)).trans hw815_0)), (World.cell?_alloc_lt _ _ _ (World.block_lt_of_cell? _ _ (((HB.out.cell (World.block_lt_of_cell? w _ hw816_0)).trans hw816_0)))).trans (((HB.out.cell (World.block_lt_of_cell? w _ hw816_0)).trans hw816_0))⟩ (fun hHeld => ?_)
        clear hK K
        refine nm_ 28 ?_
        refine one_ (i := 12) (N := some 29) qtps12 rfl rfl (one_of HT_.out (by kernel_rfl)) (by decide) (fun K hK => ?_)
        refine Kd.R_append_step (Kd.int .i64) (w0 := w) w.heap.size (by rfl) (.tmp 17) (.tmp 28) 28 3 (.int .i64 0) 8 rfl Try.underlying28 info3 rfl (by decide) (by omega) u5 x5_1 t817 [.int .i64 t817] (fun _ => True) (fun _ => False) rfl rfl ?aP (fun _ hk => hk.elim) ?aF ?aO ?aB ?aS ?aL ?_
        (case aP => exact rfl)
        (case aB => exact (bs HB.out))
        (case aF => exact (fun _ _ => trivial))
        (case aO => exact (kR HO_5.out))
        (case aS => exact (below_size (bs HB.out)))
        (case aL => have := LMc9.out; omega)
        intro v819 w11 ho hb hg hat
        rw [← Ny818.out] at ho
        have n0_ := am (blk_grown (g := gb814) (o := .cells #[.slice (some ad816) l0_0.length c0_0] 24 (0, 0)) (kb BK814.out) hg (Kd.R_ne HO_5.out BK814.out (by decide)))
        have n1_ := am (hb)
        have n2_ := am (ho)
        clear BK814
        clear HB
        clear HO_5
        have BK814 := n0_
        have HB := n1_
        have HO820 := n2_
        clear n0_ n1_ n2_
        clear ho hb hg hat
        refine hK.out _ _ ⟨(blk_cell BK814.out 0).trans rfl, ((HB.out.cell (World.block_lt_of_cell? w _ hw815_0)).trans hw815_0), ((HB.out.cell (World.block_lt_of_cell? w _ hw816_0)).trans hw816_0)⟩ (fun hHeld => ?_)
        clear hK K
        refine nm_ 29 ?_
        refine pv_ 13 5 qtps13 HT_ ?_
        refine done_ (done_of HT_.out (by kernel_rfl)) ?_
        try go_wp2
        go_roundg k1
        case measure => have := HK1.out; omega
        case rel => exact ⟨(y818), (wrap64 (x6_1 + 1)), zz3, H', ⟨by have := HK1.out; omega⟩, ⟨kR HO820.out⟩, ⟨kb BK814.out⟩, ⟨bs HB.out⟩⟩
       ·rw [if_neg c9] at H
        exact absurd H (by simp)
      ·rw [if_neg c7] at H
       exact absurd H (by simp)
     ·rw [if_neg c6] at H
      exact absurd H (by simp)
    ·rw [if_neg c5] at H
     have c5b0 : decide (x6_1 < 2000) = false := decide_eq_false c5
     clear c5
     obtain rfl := Option.some.inj H
     go_wp2
     go_ret
     exact ⟨_, by first | rfl | (simp [errW_none, errW_some] <;> rfl) | (simp [*, errW_none, errW_some] <;> rfl), kR HO_5.out, bs HB.out⟩
   ·rw [if_neg c4] at H
    have c4b0 : decide (x6_1 < (l1.length : Int)) = false := decide_eq_false c4
    clear c4
    obtain rfl := Option.some.inj H
    go_wp2
    go_ret
    exact ⟨_, by first | rfl | (simp [errW_none, errW_some] <;> rfl) | (simp [*, errW_none, errW_some] <;> rfl), kR HO_5.out, bs HB.out⟩
end Go.Proofs.Ytjgdalhdiohclaa.Q
end
section
namespace Go.Proofs.Ytjgdalhdiohclaa.Q
attribute [local go_sem] max2_int min2_int max_two min_two max_three min_three max_four min_four
end Go.Proofs.Ytjgdalhdiohclaa.Q
end
section
namespace Go.Proofs.Ytjgdalhdiohclaa.Q
attribute [local go_sem] max2_int min2_int max_two min_two max_three min_three max_four min_four
end Go.Proofs.Ytjgdalhdiohclaa.Q
end
section
namespace Go.Proofs.Ytjgdalhdiohclaa.Q
attribute [local go_sem] max2_int min2_int max_two min_two max_three min_three max_four min_four
end Go.Proofs.Ytjgdalhdiohclaa.Q
end
section
namespace Go.Proofs.Ytjgdalhdiohclaa.Q
attribute [local go_sem] max2_int min2_int max_two min_two max_three min_three max_four min_four
end Go.Proofs.Ytjgdalhdiohclaa.Q
end
section
namespace Go.Proofs.Ytjgdalhdiohclaa.Q
attribute [local go_sem] max2_int min2_int max_two min_two max_three min_three max_four min_four
def mizmazeref01_Letters.f (l0_0 : List (List Int)) : Option (Int) := if 0 < (l0_0.length : Int) then (some ((rd_L1 l0_0 0).length : Int)) else (none)
end Go.Proofs.Ytjgdalhdiohclaa.Q
end
section
namespace Go.Proofs.Ytjgdalhdiohclaa.Q
attribute [local go_sem] max2_int min2_int max_two min_two max_three min_three max_four min_four
end Go.Proofs.Ytjgdalhdiohclaa.Q
end
section
namespace Go.Proofs.Ytjgdalhdiohclaa.Q
attribute [local go_sem] max2_int min2_int max_two min_two max_three min_three max_four min_four
end Go.Proofs.Ytjgdalhdiohclaa.Q
end
section
namespace Go.Proofs.Ytjgdalhdiohclaa.Q
attribute [local go_sem] max2_int min2_int max_two min_two max_three min_three max_four min_four
end Go.Proofs.Ytjgdalhdiohclaa.Q
end
section
namespace Go.Proofs.Ytjgdalhdiohclaa.Q
attribute [local go_sem] max2_int min2_int max_two min_two max_three min_three max_four min_four
end Go.Proofs.Ytjgdalhdiohclaa.Q
end
section
namespace Go.Proofs.Ytjgdalhdiohclaa.Q
attribute [local go_sem] max2_int min2_int max_two min_two max_three min_three max_four min_four
end Go.Proofs.Ytjgdalhdiohclaa.Q
end
