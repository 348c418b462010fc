/- Part of the proof of ColorRoads (text 8 of 31) -/
import Derived.Test.YtjgdalhdiohclaaProg
import Derived.Below
import Derived.Deep.Draws
import Derived.Deep.AppendLies
import Derived.Maps.AppendAt
import Derived.OwnWalk
import Derived.Laws.BytesArg
import Derived.Laws.MakeOwn
import Derived.Laws.OwnMore
import Derived.Deep.OwnRows
import Derived.Tactics
import Derived.Lib.ConvBytes
import Derived.Laws.Slices
import Derived.WalkKit
import Derived.KernelRfl
import Derived.RowKit3
import Derived.Deep.LoopGhost
import Derived.Deep.QuietTactic
import Derived.BigQuiet
import Derived.WideLaws
import Derived.Deep.DeepCutAuto
import Derived.Deep.CutBlock
import Derived.Deep.RegionHeld3
import Derived.Laws.Rows
import Derived.Lib.AppendStr
import Derived.ArgAppend
import Derived.Laws.IdiomCopy
import Derived.OrdersHeld
import Derived.Laws.BitsLemmas
import Derived.RowKit
import Derived.WalkMore
import Derived.Test.YtjgdalhdiohclaaZColorRoadsa
import Derived.Test.YtjgdalhdiohclaaZColorRoadsf
import Derived.Test.YtjgdalhdiohclaaZColorRoadsg
import Derived.Test.YtjgdalhdiohclaaZColorRoadse
set_option linter.unusedVariables false
set_option linter.unusedSimpArgs false
set_option linter.unusedSectionVars false
set_option maxRecDepth 100000
set_option maxHeartbeats 8000000
open Go.RowKit Go.Proofs.YtjgdalhdiohclaaW.PrintWords Go.Proofs.YtjgdalhdiohclaaW.PrintLast Go.Proofs.YtjgdalhdiohclaaW.PrintMore
section
namespace Go.Proofs.Ytjgdalhdiohclaa.Q
attribute [local go_sem] max2_int min2_int max_two min_two max_three min_three max_four min_four
def errW : Option Int → Value
 | none => .nilIface
 | some c => .iface 0 (.int .i64 c)
theorem errW_none : errW none = .nilIface := rfl
theorem errW_some (c : Int) : errW (some c) = .iface 0 (.int .i64 c) := rfl
theorem info3 : (Try.prog.info? 3).map (fun i => (i.zero, i.size, i.bytes)) = some (some (.int .i64 0), 1, 8) := by kernel_rfl
theorem info4 : (Try.prog.info? 4).map (fun i => (i.zero, i.size, i.bytes)) = some (some (.bool false), 1, 1) := by kernel_rfl
theorem info22 : (Try.prog.info? 22).map (fun i => (i.zero, i.size, i.bytes)) = some (some (.slice none 0 0), 1, 24) := by kernel_rfl
theorem info28 : (Try.prog.info? 28).map (fun i => (i.zero, i.size, i.bytes)) = some (some (.slice none 0 0), 1, 24) := by kernel_rfl
def rd_L1 (xs : List (List Int)) (i : Int) : (List Int) := xs.getD i.toNat ([] : List Int)
theorem at_L1 {w : World} {A : Option Addr} {n : Nat} {xs : List (List Int)} (h : Kd.C (Kd.slice 3 (Kd.int .i64)) w A n xs) (i : Int) (h0 : 0 ≤ i) (h1 : i < n) : ∃ ad A0 c0, A = some ad ∧ w.cell? (ad.add i.toNat) = some (.slice A0 (rd_L1 xs i).length c0) ∧ (rd_L1 xs i).length ≤ c0 ∧ (Kd.int .i64).C w A0 (rd_L1 xs i).length (rd_L1 xs i) := by
 obtain ⟨ad, c, e, _, hK, hc0⟩ := Kd.C_get h ([] : List Int) i h0 h1
 have hc : ∀ j u, c[j]? = some u → w.cell? (ad.add (i.toNat * 1 + j)) = some u := hc0
 obtain ⟨A0, c0, rfl, l0, g0⟩ := hK
 exact ⟨ad, A0, c0, e, by have hq := hc 0 _ rfl; rwa [Nat.mul_one, Nat.add_zero] at hq, l0, g0⟩
def rd_L2 (xs : List (List (List Int))) (i : Int) : (List (List Int)) := xs.getD i.toNat ([] : List (List Int))
theorem at_L2 {w : World} {A : Option Addr} {n : Nat} {xs : List (List (List Int))} (h : Kd.C (Kd.slice 28 (Kd.slice 3 (Kd.int .i64))) w A n xs) (i : Int) (h0 : 0 ≤ i) (h1 : i < n) : ∃ ad A0 c0, A = some ad ∧ w.cell? (ad.add i.toNat) = some (.slice A0 (rd_L2 xs i).length c0) ∧ (rd_L2 xs i).length ≤ c0 ∧ (Kd.slice 3 (Kd.int .i64)).C w A0 (rd_L2 xs i).length (rd_L2 xs i) := by
 obtain ⟨ad, c, e, _, hK, hc0⟩ := Kd.C_get h ([] : List (List Int)) i h0 h1
 have hc : ∀ j u, c[j]? = some u → w.cell? (ad.add (i.toNat * 1 + j)) = some u := hc0
 obtain ⟨A0, c0, rfl, l0, g0⟩ := hK
 exact ⟨ad, A0, c0, e, by have hq := hc 0 _ rfl; rwa [Nat.mul_one, Nat.add_zero] at hq, l0, g0⟩
structure S24 where
 f0 : (List (List Int))
theorem am {p : Prop} (h : p) : Aside0 p := ⟨h⟩
abbrev pb := @pw_below_drewN
abbrev ba := @below_alloc
abbrev bd := @below_drew1
theorem od {p : Prop} [Decidable p] (h : decide p = true) : p := of_decide_eq_true h
theorem bw {s : Nat} {w W V : World} (h : Below s w W) (e : Below s w W → Below s w V := by intro h_; repeat (first | (with_reducible first | exact h_ | apply below_alloc | apply pw_below_drewN | apply below_drew1) | exact h_)) : Below s w V := e h
theorem bs {s : Nat} {w W V : World} (h : Below s w W) (e : Below s w W → Below s w V := by intro h_; repeat (first | (with_reducible first | exact h_ | apply below_alloc | apply pw_below_drewN | apply below_drew1 | refine below_set ?_ (Aside0.out (by assumption))) | exact h_)) : Below s w V := e h
theorem kb {g : Nat} {o : Obj} {w W : World} (h : w.heap[g]? = some o) (e : w.heap[g]? = some o → W.heap[g]? = some o := by intro h_; (with_reducible repeat (first | refine blk_drewN ?_ _ | refine blk_drew ?_ | refine blk_alloc ?_ _)); exact h_) : W.heap[g]? = some o := e h
theorem kN {α : Type} {d : Kd α} {e : Nat} {w W : World} {base : Nat} {ok : Nat → Prop} {v : Value} {xs : List α} (h : Kd.N d e w base ok v xs) (i : Kd.N d e w base ok v xs → Kd.N d e W base ok v xs := by intro h_; (with_reducible repeat (first | apply Kd.N_alloc | apply Kd.N_drewN | apply Kd.N_drew)); exact h_) : Kd.N d e W base ok v xs := i h
theorem kR {α : Type} {d : Kd α} {e : Nat} {w W : World} {base : Nat} {ok : Nat → Prop} {v : Value} {xs : List α} (h : Kd.R d e w base ok v xs) (i : Kd.R d e w base ok v xs → Kd.R d e W base ok v xs := by intro h_; (with_reducible repeat (first | apply Kd.R_alloc | apply Kd.R_drewN | apply Kd.R_drew)); exact h_) : Kd.R d e W base ok v xs := i h
theorem kS {α : Type} {d : Kd α} {e : Nat} {w W : World} {base : Nat} {ok : Nat → Prop} {v : Value} {xs : List α} (h : Kd.S d e w base ok v xs) (i : Kd.S d e w base ok v xs → Kd.S d e W base ok v xs := by intro h_; (with_reducible repeat (first | apply Kd.S_alloc | apply Kd.S_drewN | apply Kd.S_drew)); exact h_) : Kd.S d e W base ok v xs := i h
theorem zz4 {p : Prop} (h : p := by first | exact ⟨rfl, _, World.drewN_drewN _ _ _⟩ | exact ⟨rfl, _, Eq.trans (World.drewN_drewN _ _ _) (congrArg (World.drewN _) (Nat.add_assoc _ _ _))⟩) : p := h
theorem zz1 {p : Prop} (h : p := by (try simp only [List.map_toArray, List.map_cons, List.map_nil]); first | done | rfl | (simp only [List.length_drop, List.length_take]; rfl)) : p := h
theorem zz2 {p : Prop} (h : p := by first | (with_reducible assumption) | assumption) : p := h
theorem zz3 {p : Prop} (h : p := by first | rfl | (simp; done) | (simp [*]; done)) : p := h
theorem zz5 {p : Prop} (h : p := by rfl) : p := h
theorem zz6 {p : Prop} (h : p := by first | (go_simp; done) | (go_simp; rfl)) : p := h
theorem kc {α : Type} {d : Kd α} {w W : World} {A : Option Addr} {n : Nat} {xs : List α} (h : Kd.C d w A n xs) (e : Kd.C d w A n xs → Kd.C d W A n xs := by intro h_; repeat (first | exact h_ | (with_reducible refine Kd.C_alloc ?_ _) | (with_reducible refine Kd.C_drewN ?_ _) | (with_reducible refine Kd.C_drew ?_))) : Kd.C d W A n xs := e h
end Go.Proofs.Ytjgdalhdiohclaa.Q
end
section
namespace Go.Proofs.Ytjgdalhdiohclaa.Q
section
variable {P : Program} {md : Region.Mode} {ops : Array Oper} {Q : Exit → Act → World → Prop} {S : World → Prop} {ds : List Nat} {T : Bool × List (List Nat × List Nat)} {B : List Nat}
variable {oi : Oper} {v : Value} {fuel : Nat} {l : Array Bool} {a a' : Act} {w : World}
theorem pv_ (i n : Nat) (l' : Array Bool) (hT : Aside0 (rtab md ops = T)) (h : wpAnyLast P md ops Q S ds fuel l' a' w) (hi : ops[i]? = some oi := by exact rfl) (hN : oi.dst = some n := by exact rfl) (hc : anyT T l.toList l'.toList i = true := by kernel_rfl)
  (hQ : ∀ c a w, Q (.panic c) (a.put oi.dst v) w → Q (.panic c) a w := by exact fun _ _ _ h => h) (hy : Yields P ops oi v a := by exact Or.inl ⟨by rfl, by intro w'; go_simp; with_reducible rfl⟩)
  (ha : a.put (some n) v = a' := by simp only [Act.put, List.setIfInBounds_toArray, List.set_cons_zero, List.set_cons_succ, i64_w, i32_w]; rfl) : wpAnyLast P md ops Q S ds (fuel + 1) l a w :=
 pure_ l' hi hN (any_of hT.out hc) hQ hy ha h
theorem pu_ (i n : Nat) (l' : Array Bool) (hT : Aside0 (rtab md ops = T)) (h : wpAnyLast P md ops Q S ds fuel l' a' w) (hi : ops[i]? = some oi := by exact rfl) (hN : oi.dst = some n := by exact rfl) (hc : anyT T l.toList l'.toList i = true := by kernel_rfl)
  (hQ : ∀ c a w, Q (.panic c) (a.put oi.dst undef) w → Q (.panic c) a w := by exact fun _ _ _ h => h) (hy : Yields P ops oi undef a := by exact Or.inr ⟨by rfl, rfl⟩)
  (ha : a.put (some n) undef = a' := by simp only [Act.put, List.setIfInBounds_toArray, List.set_cons_zero, List.set_cons_succ, i64_w, i32_w]; rfl) : wpAnyLast P md ops Q S ds (fuel + 1) l a w :=
 pure_ l' hi hN (any_of hT.out hc) hQ hy ha h
theorem tv_ (i n : Nat) (l' : Array Bool) (hT : Aside0 (rtab md ops = T)) (hW : Aside0 (waitsOk T.2 B = true)) (hS : S w) (h : wpAnyLast P md ops Q S ds fuel l' a' w) (hi : ops[i]? = some oi := by exact rfl) (hN : oi.dst = some n := by exact rfl) (hc : takeW T B ds l.toList l'.toList i = true := by kernel_rfl)
  (hQ : ∀ c a w, Q (.panic c) (a.put oi.dst v) w → Q (.panic c) a w := by exact fun _ _ _ h => h) (hy : YieldsIf P ops S oi v a := by exact Or.inl ⟨by rfl, by intro w' s0; go_simp; with_reducible rfl⟩)
  (ha : a.put (some n) v = a' := by simp only [Act.put, List.setIfInBounds_toArray, List.set_cons_zero, List.set_cons_succ, i64_w, i32_w]; rfl) : wpAnyLast P md ops Q S ds (fuel + 1) l a w :=
 take_ l' hi hN (take_ofW hT.out hW.out hc) hQ hy hS ha h
theorem nm_ (n : Nat) (h : wpAnyLast P md ops Q S ds fuel l a' w) (ha : a.put (some n) v = a' := by simp only [Act.put, List.setIfInBounds_toArray, List.set_cons_zero, List.set_cons_succ, i64_w, i32_w]; rfl) : wpAnyLast P md ops Q S ds fuel l (a.put (some n) v) w := by
 subst ha
 exact h
end
end Go.Proofs.Ytjgdalhdiohclaa.Q
end
section
namespace Go.Proofs.Ytjgdalhdiohclaa.Q
attribute [local go_sem] max2_int min2_int max_two min_two max_three min_three max_four min_four
def mizmazeref01_Below.l0 : Nat → List Int → Int → Int → Option (Bool)
 | 0, _, _, _ => none
 | k + 1, x0, x1, x5 => if x5 < (x0.length : Int) then (if 0 ≤ x5 then (if (rd x0 x5) < 0 then (some false) else (if (rd x0 x5) ≥ x1 then (some false) else (mizmazeref01_Below.l0 k x0 x1 (wrap64 (x5 + 1))))) else (none)) else (some true)
def mizmazeref01_Below.f (k : Nat) (l0 : List Int) (a1 : Int) : Option (Bool) := mizmazeref01_Below.l0 k l0 a1 0
theorem mizmazeref01_Below.mono_l : ∀ k, (∀ y0 y1 y2, LeO (mizmazeref01_Below.l0 k y0 y1 y2) (mizmazeref01_Below.l0 (k + 1) y0 y1 y2))
 | 0 => fun _ _ _ r h => by simp [mizmazeref01_Below.l0] at h
 | k + 1 => by
  have ih0 := mizmazeref01_Below.mono_l k
  ·intro y0 y1 y2
   unfold mizmazeref01_Below.l0
   with_reducible repeat' first | exact ih0 _ _ _ | exact LeO.refl _ | exact LeO.none _ | refine LeO.ite ?_ ?_ | refine LeO.bind ?_ (fun _ => ?_)
theorem mizmazeref01_Below.mono : ∀ a0 a1 k, LeO (mizmazeref01_Below.f k a0 a1) (mizmazeref01_Below.f (k + 1) a0 a1) := by
 intro a0 a1 k
 have ih0 := mizmazeref01_Below.mono_l k
 unfold mizmazeref01_Below.f
 with_reducible repeat' first | exact ih0 _ _ _ | exact LeO.refl _ | exact LeO.none _ | refine LeO.ite ?_ ?_ | refine LeO.bind ?_ (fun _ => ?_)
theorem mizmazeref01_Below.calls (k : Nat) (A0 : Option Addr) (c0 : Nat) (l0 : List Int) (a1 : Int) (r : Bool) (w : World) (hr0 : Kd.C (Kd.int .i64) w A0 l0.length l0) (hc0 : l0.length ≤ c0) (h : mizmazeref01_Below.f k l0 a1 = some r) :
  Calls Try.prog 37 #[.slice A0 l0.length c0, .int .i64 a1] w fun e w' => e = .returned (.bool r) ∧ Drawn0 w w' := by
 have HR0 := am hr0
 have HC0 := am hc0
 clear hr0 hc0
 have H : (mizmazeref01_Below.l0 k l0 a1 0) = some r := h
 clear h
 have H' := am H
 clear H
 go_enter Try.func37, Try.ntmps37
 go_wp2
 go_loopg [5] k (fun kq v5 w' => ∃ (x5_1 : Int), v5 = .int .i64 x5_1 ∧ Aside0 (mizmazeref01_Below.l0 kq l0 a1 x5_1 = some r) ∧ Aside0 (kq ≤ k) ∧ Drawn0 w w')
 case atStart => exact ⟨(0), zz3, H', ⟨Nat.le_refl _⟩, by repeat (first | exact Drawn0.refl _ | apply Drawn0.step)⟩
 case round =>
  clear H'
  (try clear p2)
  obtain ⟨x5_1, rfl, HA, HK1, ⟨m1, rfl⟩⟩ := hrel
  cases gk with
  | zero => exact absurd HA.out (by simp [mizmazeref01_Below.l0])
  | succ k1 =>
   have H := HA.out
   clear HA
   simp only [mizmazeref01_Below.l0] at H
   by_cases c3 : x5_1 < (l0.length : Int)
   ·rw [if_pos c3] at H
    have c3b0 : decide (x5_1 < (l0.length : Int)) = true := decide_eq_true c3
    clear c3
    by_cases c4 : 0 ≤ x5_1
    ·rw [if_pos c4] at H
     have c4b0 : decide (0 ≤ x5_1) = true := decide_eq_true c4
     clear c4
     by_cases c5 : (rd l0 x5_1) < 0
     ·rw [if_pos c5] at H
      have c5b0 : decide ((rd l0 x5_1) < 0) = true := decide_eq_true c5
      clear c5
      obtain rfl := Option.some.inj H
      have p101 : 0 ≤ (x5_1 : Int) := od zz2
      have q101 : x5_1 < (l0.length : Int) := od zz2
      obtain ⟨ad101, e101, hx101_0⟩ := Kd.at_int HR0.out x5_1 p101 q101
      cases e101
      replace p101 := eq_true p101
      replace q101 := eq_true q101
      go_wp2
      go_ret
      exact ⟨by first | rfl | (simp; done) | (simp [*]; done), by repeat (first | exact Drawn0.refl _ | apply Drawn0.step)⟩
     ·rw [if_neg c5] at H
      have c5b0 : decide ((rd l0 x5_1) < 0) = false := decide_eq_false c5
      clear c5
      by_cases c6 : (rd l0 x5_1) ≥ a1
      ·rw [if_pos c6] at H
       have c6b0 : decide (a1 ≤ (rd l0 x5_1)) = true := decide_eq_true c6
       clear c6
       obtain rfl := Option.some.inj H
       have p101 : 0 ≤ (x5_1 : Int) := od zz2
       have q101 : x5_1 < (l0.length : Int) := od zz2
       obtain ⟨ad101, e101, hx101_0⟩ := Kd.at_int HR0.out x5_1 p101 q101
       cases e101
       replace p101 := eq_true p101
       replace q101 := eq_true q101
       have p102 : 0 ≤ (x5_1 : Int) := od zz2
       have q102 : x5_1 < (l0.length : Int) := od zz2
       obtain ⟨ad102, e102, hx102_0⟩ := Kd.at_int HR0.out x5_1 p102 q102
       obtain rfl : ad101 = ad102 := (by injection e102)
       replace p102 := eq_true p102
       replace q102 := eq_true q102
       go_wp2
       go_ret
       exact ⟨by first | rfl | (simp; done) | (simp [*]; done), by repeat (first | exact Drawn0.refl _ | apply Drawn0.step)⟩
      ·rw [if_neg c6] at H
       have c6b0 : decide (a1 ≤ (rd l0 x5_1)) = false := decide_eq_false c6
       clear c6
       have H' := am H
       clear H
       have p101 : 0 ≤ (x5_1 : Int) := od zz2
       have q101 : x5_1 < (l0.length : Int) := od zz2
       obtain ⟨ad101, e101, hx101_0⟩ := Kd.at_int HR0.out x5_1 p101 q101
       cases e101
       replace p101 := eq_true p101
       replace q101 := eq_true q101
       have p102 : 0 ≤ (x5_1 : Int) := od zz2
       have q102 : x5_1 < (l0.length : Int) := od zz2
       obtain ⟨ad102, e102, hx102_0⟩ := Kd.at_int HR0.out x5_1 p102 q102
       obtain rfl : ad101 = ad102 := (by injection e102)
       replace p102 := eq_true p102
       replace q102 := eq_true q102
       go_wp2
       go_roundg k1
       case measure => have := HK1.out; omega
       case rel => exact ⟨(wrap64 (x5_1 + 1)), zz3, H', ⟨by have := HK1.out; omega⟩, by repeat (first | exact Drawn0.refl _ | apply Drawn0.step)⟩
    ·rw [if_neg c4] at H
     exact absurd H (by simp)
   ·rw [if_neg c3] at H
    have c3b0 : decide (x5_1 < (l0.length : Int)) = false := decide_eq_false c3
    clear c3
    obtain rfl := Option.some.inj H
    go_wp2
    go_ret
    exact ⟨by first | rfl | (simp; done) | (simp [*]; done), by repeat (first | exact Drawn0.refl _ | apply Drawn0.step)⟩
end Go.Proofs.Ytjgdalhdiohclaa.Q
end
section
namespace Go.Proofs.Ytjgdalhdiohclaa.Q
attribute [local go_sem] max2_int min2_int max_two min_two max_three min_three max_four min_four
mutual
def mizmazeref01_Valid.j0 : Nat → Int → Bool → List (List Int) → Option (Bool)
 | 0, _, _, _ => none
 | k + 1, x3, x29, x104000 => if x29 = true then (some false) else (mizmazeref01_Valid.l0 k x3 0 x104000)
def mizmazeref01_Valid.l0 : Nat → Int → Int → List (List Int) → Option (Bool)
 | 0, _, _, _ => none
 | k + 1, x3, x4, x104000 => if x4 < x3 then (if 0 ≤ x4 then (if x4 < (x104000.length : Int) then (if 0 < (x104000.length : Int) then (if ((rd_L1 x104000 x4).length : Int) = ((rd_L1 x104000 0).length : Int) then ((mizmazeref01_Below.f k (rd_L1 x104000 x4) x3).bind fun t109 => (if t109 = true then (mizmazeref01_Valid.l0 k x3 (wrap64 (x4 + 1)) x104000) else (some false))) else (some false)) else (none)) else (none)) else (none)) else (some true)
end
def mizmazeref01_Valid.f (k : Nat) (l0_0 : List (List Int)) : Option (Bool) := if (l0_0.length : Int) = 0 then (mizmazeref01_Valid.j0 k (l0_0.length : Int) true l0_0) else (if (l0_0.length : Int) > 60 then (mizmazeref01_Valid.j0 k (l0_0.length : Int) true l0_0) else (if 0 < (l0_0.length : Int) then (if ((rd_L1 l0_0 0).length : Int) = 0 then (mizmazeref01_Valid.j0 k (l0_0.length : Int) true l0_0) else (mizmazeref01_Valid.j0 k (l0_0.length : Int) (decide (((rd_L1 l0_0 0).length : Int) > 6)) l0_0)) else (none)))
theorem mizmazeref01_Valid.mono_l : ∀ k, (∀ y0 y1 y2, LeO (mizmazeref01_Valid.j0 k y0 y1 y2) (mizmazeref01_Valid.j0 (k + 1) y0 y1 y2)) ∧ (∀ y0 y1 y2, LeO (mizmazeref01_Valid.l0 k y0 y1 y2) (mizmazeref01_Valid.l0 (k + 1) y0 y1 y2))
 | 0 => ⟨fun _ _ _ r h => by simp [mizmazeref01_Valid.j0] at h, fun _ _ _ r h => by simp [mizmazeref01_Valid.l0] at h⟩
 | k + 1 => by
  obtain ⟨ih0, ih1⟩ := mizmazeref01_Valid.mono_l k
  refine ⟨?_, ?_⟩
  ·intro y0 y1 y2
   unfold mizmazeref01_Valid.j0
   with_reducible repeat' first | exact ih0 _ _ _ | exact ih1 _ _ _ | exact mizmazeref01_Below.mono _ _ _ | exact LeO.refl _ | exact LeO.none _ | refine LeO.ite ?_ ?_ | refine LeO.bind ?_ (fun _ => ?_)
  ·intro y0 y1 y2
   unfold mizmazeref01_Valid.l0
   with_reducible repeat' first | exact ih0 _ _ _ | exact ih1 _ _ _ | exact mizmazeref01_Below.mono _ _ _ | exact LeO.refl _ | exact LeO.none _ | refine LeO.ite ?_ ?_ | refine LeO.bind ?_ (fun _ => ?_)
theorem mizmazeref01_Valid.mono : ∀ a0 k, LeO (mizmazeref01_Valid.f k a0) (mizmazeref01_Valid.f (k + 1) a0) := by
 intro a0 k
 obtain ⟨ih0, ih1⟩ := mizmazeref01_Valid.mono_l k
 unfold mizmazeref01_Valid.f
 with_reducible repeat' first | exact ih0 _ _ _ | exact ih1 _ _ _ | exact mizmazeref01_Below.mono _ _ _ | exact LeO.refl _ | exact LeO.none _ | refine LeO.ite ?_ ?_ | refine LeO.bind ?_ (fun _ => ?_)
theorem mizmazeref01_Valid.calls (k : Nat) (A0_0 : Option Addr) (c0_0 : Nat) (l0_0 : List (List Int)) (r : Bool) (w : World) (hr0_0 : Kd.C (Kd.slice 3 (Kd.int .i64)) w A0_0 l0_0.length l0_0) (hc0_0 : l0_0.length ≤ c0_0) (h : mizmazeref01_Valid.f k l0_0 = some r) :
    Calls Try.prog 18 #[.agg #[.slice A0_0 l0_0.length c0_0]] w fun e w' => e = .returned (.bool r) ∧ Below w.heap.size w w' := by
 have hu24 := Try.underlying24
 have HR0_0 := am hr0_0
 have HC0_0 := am hc0_0
 clear hr0_0 hc0_0
 have HB := am (Below.refl w.heap.size w)
 have H : (if (l0_0.length : Int) = 0 then (mizmazeref01_Valid.j0 k (l0_0.length : Int) true l0_0) else (if (l0_0.length : Int) > 60 then (mizmazeref01_Valid.j0 k (l0_0.length : Int) true l0_0) else (if 0 < (l0_0.length : Int) then (if ((rd_L1 l0_0 0).length : Int) = 0 then (mizmazeref01_Valid.j0 k (l0_0.length : Int) true l0_0) else (mizmazeref01_Valid.j0 k (l0_0.length : Int) (decide (((rd_L1 l0_0 0).length : Int) > 6)) l0_0)) else (none)))) = some r := h
 clear h
 have HC2 := am H
 clear H
 go_enter Try.func18, Try.ntmps18
 go_upto_region 2 with (first | ((with_reducible refine gate_dst (N := 1) rfl ?_); (try (refine gate_guard (by rfl) ?_; dsimp only)); refine box_event zz5 (N := 1) zz5 (cs := #[.slice A0_0 l0_0.length c0_0]) (t := 24) zz6 ?_; intro gb103 hg w3 hbox hb; have BK103 := am (hbox); have GW103 := am ((by rw [hg]; exact (below_size (bw HB.out)) : w.heap.size ≤ gb103)); have GE103 := am ((by rw [hg]; exact (below_size (bw HB.out)) : w.heap.size ≤ gb103)); replace HB := am (below_step (bw HB.out) hb); clear hb hbox hg; have hcz4_0 : w3.cell? ⟨gb103, 0, none⟩ = some (.slice A0_0 l0_0.length c0_0) := (blk_cell BK103.out 0).trans rfl; have hfz4_0 := blk_frozen BK103.out 0))
 repeat (go_quiet (first | ((with_reducible refine gate_dst (N := 1) rfl ?_); (try (refine gate_guard (by rfl) ?_; dsimp only)); refine box_event zz5 (N := 1) zz5 (cs := #[.slice A0_0 l0_0.length c0_0]) (t := 24) zz6 ?_; intro gb103 hg w3 hbox hb; have BK103 := am (hbox); have GW103 := am ((by rw [hg]; exact (below_size (bw HB.out)) : w.heap.size ≤ gb103)); have GE103 := am ((by rw [hg]; exact (below_size (bw HB.out)) : w.heap.size ≤ gb103)); replace HB := am (below_step (bw HB.out) hb); clear hb hbox hg; have hcz4_0 : w3.cell? ⟨gb103, 0, none⟩ = some (.slice A0_0 l0_0.length c0_0) := (blk_cell BK103.out 0).trans rfl; have hfz4_0 := blk_frozen BK103.out 0)); go_upto_region 2 with (first | ((with_reducible refine gate_dst (N := 1) rfl ?_); (try (refine gate_guard (by rfl) ?_; dsimp only)); refine box_event zz5 (N := 1) zz5 (cs := #[.slice A0_0 l0_0.length c0_0]) (t := 24) zz6 ?_; intro gb103 hg w3 hbox hb; have BK103 := am (hbox); have GW103 := am ((by rw [hg]; exact (below_size (bw HB.out)) : w.heap.size ≤ gb103)); have GE103 := am ((by rw [hg]; exact (below_size (bw HB.out)) : w.heap.size ≤ gb103)); replace HB := am (below_step (bw HB.out) hb); clear hb hbox hg; have hcz4_0 : w3.cell? ⟨gb103, 0, none⟩ = some (.slice A0_0 l0_0.length c0_0) := (blk_cell BK103.out 0).trans rfl; have hfz4_0 := blk_frozen BK103.out 0)))
 (try simp only [Act.put, List.setIfInBounds_toArray, List.set_cons_zero, List.set_cons_succ])
 go_cut [29] (fun v29 wc => ∃ (kq : Nat) (x29_1 : Bool), v29 = .bool x29_1 ∧ Aside0 (mizmazeref01_Valid.j0 kq (l0_0.length : Int) x29_1 l0_0 = some r) ∧ Aside0 (kq ≤ k) ∧ Aside0 (wc.heap[gb103]? = some (.cells #[(.slice A0_0 l0_0.length c0_0)] 24 (0, 0))) ∧ Aside0 (Below w.heap.size w wc))
 case first =>
  have H := HC2.out
  clear HC2
  by_cases c5 : (l0_0.length : Int) = 0
  ·rw [if_pos c5] at H
   have c5b0 : ((l0_0.length : Int) == 0) = true := beq_iff_eq.mpr c5
   have c5b1 : ((l0_0.length : Int) != 0) = false := bne_eq_false_iff_eq.mpr c5
   clear c5
   (first | rw [c5b0] | (simp only [i64_w, i32_w]; rw [c5b0]) | skip)
   have H' := am H
   clear H
   go_wp2
   repeat (go_quiet (fail); try go_wp2)
   go_meet
   case rel => exact ⟨_, (true), zz3, H', ⟨by first | omega | exact Nat.le_refl _⟩, ⟨kb BK103.out⟩, ⟨bs HB.out⟩⟩
  rw [if_neg c5] at H
  have c5b0 : ((l0_0.length : Int) == 0) = false := beq_eq_false_iff_ne.mpr c5
  have c5b1 : ((l0_0.length : Int) != 0) = true := bne_iff_ne.mpr c5
  have c5b2 : ¬ (l0_0 = []) := fun h_ => c5 (by rw [h_]; rfl)
  (first | rw [c5b0] | (simp only [i64_w, i32_w]; rw [c5b0]) | skip)
  by_cases c6 : (l0_0.length : Int) > 60
  ·rw [if_pos c6] at H
   have c6b0 : decide (60 < (l0_0.length : Int)) = true := decide_eq_true c6
   have c6b1 : decide (60 < l0_0.length) = true := decide_eq_true (by omega)
   clear c6
   have H' := am H
   clear H
   go_wp2
   repeat (go_quiet (fail); try go_wp2)
   go_meet
   case rel => exact ⟨_, (true), zz3, H', ⟨by first | omega | exact Nat.le_refl _⟩, ⟨kb BK103.out⟩, ⟨bs HB.out⟩⟩
  rw [if_neg c6] at H
  have c6b0 : decide (60 < (l0_0.length : Int)) = false := decide_eq_false c6
  have c6b1 : decide (60 < l0_0.length) = false := decide_eq_false (by omega)
  clear c6
  by_cases c7 : 0 < (l0_0.length : Int)
  rotate_left
  ·rw [if_neg c7] at H
   exact absurd H (by simp)
  rw [if_pos c7] at H
  have c7b0 : decide (0 < (l0_0.length : Int)) = true := decide_eq_true c7
  have c7b1 : decide (0 < l0_0.length) = true := decide_eq_true (by omega)
  clear c7
  by_cases c8 : ((rd_L1 l0_0 0).length : Int) = 0
  ·rw [if_pos c8] at H
   have c8b0 : (((rd_L1 l0_0 0).length : Int) == 0) = true := beq_iff_eq.mpr c8
   have c8b1 : (((rd_L1 l0_0 0).length : Int) != 0) = false := bne_eq_false_iff_eq.mpr c8
   clear c8
   have H' := am H
   clear H
   have hcz9_0 : w3.cell? ⟨gb103, 0, none⟩ = some (.slice A0_0 l0_0.length c0_0) := (blk_cell BK103.out 0).trans rfl
   have hfz9_0 := blk_frozen BK103.out 0
   have p104 : 0 ≤ (0 : Int) := (by omega)
   have q104 : 0 < (l0_0.length : Int) := od zz2
   obtain ⟨ad104, A104_0, c104_0, e104, hx104_0, hl104_0, hi104_0⟩ := at_L1 HR0_0.out 0 p104 q104
   cases e104
   have qi104 : (0 < l0_0.length) = True := eq_true (by omega)
   (try rw [show ((0 : Int)).toNat = 0 from rfl] at hx104_0)
   (try rw [Addr.add_zero'] at hx104_0)
   replace hx104_0 := (HB.out.cell (World.block_lt_of_cell? w _ hx104_0)).trans hx104_0
   have HR104_0 := am hi104_0
   have HC104_0 := am hl104_0
   clear hi104_0 hl104_0
   replace p104 := eq_true p104
   replace q104 := eq_true q104
   go_wp2
   repeat (go_quiet (fail); try go_wp2)
   go_meet
   case rel => exact ⟨_, (true), zz3, H', ⟨by first | omega | exact Nat.le_refl _⟩, ⟨kb BK103.out⟩, ⟨bs HB.out⟩⟩
  rw [if_neg c8] at H
  have c8b0 : (((rd_L1 l0_0 0).length : Int) == 0) = false := beq_eq_false_iff_ne.mpr c8
  have c8b1 : (((rd_L1 l0_0 0).length : Int) != 0) = true := bne_iff_ne.mpr c8
  have c8b2 : ¬ ((rd_L1 l0_0 0) = []) := fun h_ => c8 (by rw [h_]; rfl)
  have H' := am H
  clear H
  have hcz10_0 : w3.cell? ⟨gb103, 0, none⟩ = some (.slice A0_0 l0_0.length c0_0) := (blk_cell BK103.out 0).trans rfl
  have hfz10_0 := blk_frozen BK103.out 0
  have p104 : 0 ≤ (0 : Int) := (by omega)
  have q104 : 0 < (l0_0.length : Int) := od zz2
  obtain ⟨ad104, A104_0, c104_0, e104, hx104_0, hl104_0, hi104_0⟩ := at_L1 HR0_0.out 0 p104 q104
  cases e104
  have qi104 : (0 < l0_0.length) = True := eq_true (by omega)
  (try rw [show ((0 : Int)).toNat = 0 from rfl] at hx104_0)
  (try rw [Addr.add_zero'] at hx104_0)
  replace hx104_0 := (HB.out.cell (World.block_lt_of_cell? w _ hx104_0)).trans hx104_0
  have HR104_0 := am hi104_0
  have HC104_0 := am hl104_0
  clear hi104_0 hl104_0
  replace p104 := eq_true p104
  replace q104 := eq_true q104
  have p105 : 0 ≤ (0 : Int) := (by omega)
  have q105 : 0 < (l0_0.length : Int) := od zz2
  obtain ⟨ad105, A105_0, c105_0, e105, hx105_0, hl105_0, hi105_0⟩ := at_L1 HR0_0.out 0 p105 q105
  obtain rfl : ad104 = ad105 := (by injection e105)
  have qi105 : (0 < l0_0.length) = True := eq_true (by omega)
  (try rw [show ((0 : Int)).toNat = 0 from rfl] at hx105_0)
  (try rw [Addr.add_zero'] at hx105_0)
  replace hx105_0 := (HB.out.cell (World.block_lt_of_cell? w _ hx105_0)).trans hx105_0
  have HR105_0 := am hi105_0
  have HC105_0 := am hl105_0
  clear hi105_0 hl105_0
  replace p105 := eq_true p105
  replace q105 := eq_true q105
  have ea_ := Option.some.inj (hx104_0.symm.trans hx105_0)
  injection ea_ with ea_ en_ ec_
  subst ea_
  subst ec_
  clear en_
  go_wp2
  repeat (go_quiet (fail); try go_wp2)
  go_meet
  case rel => exact ⟨_, (decide (((rd_L1 l0_0 0).length : Int) > 6)), zz3, H', ⟨by first | omega | exact Nat.le_refl _⟩, ⟨kb BK103.out⟩, ⟨bs HB.out⟩⟩
 case rest =>
  clear HC2
  (try clear c1); (try clear p1); (try clear q1); (try clear hx1); (try clear qi1); (try clear p2); (try clear c5); (try clear c5b0); (try clear c5b1); (try clear c5b2); (try clear c6); (try clear c6b0); (try clear c6b1); (try clear c7); (try clear c7b0); (try clear c7b1); (try clear c8); (try clear c8b0); (try clear c8b1); (try clear c8b2); (try clear c10); (try clear p10); (try clear q10); (try clear hx10); (try clear qi10); (try clear hcz10_0); (try clear hcz4_0); (try clear hcz9_0); (try clear hfz10_0); (try clear hfz4_0); (try clear hfz9_0); (try clear hx104_0); (try clear hx105_0); (try clear p104); (try clear p105); (try clear q104); (try clear q105)
  obtain ⟨kq, x29_1, rfl, HA, HJ1, BK103, HB⟩ := hcut
  cases kq with
  | zero => exact absurd HA.out (by simp [mizmazeref01_Valid.j0])
  | succ kj1 =>
   have H := HA.out
   clear HA
   simp only [mizmazeref01_Valid.j0] at H
   by_cases c11 : x29_1 = true
   ·subst c11
    have H1 : (some false) = some r := by rw [if_pos rfl] at H; exact H
    clear H
    have H := H1
    clear H1
    obtain rfl := Option.some.inj H
    go_wp2
    repeat (go_quiet (fail); try go_wp2)
    go_ret
    exact ⟨by first | rfl | (simp [errW_none, errW_some] <;> rfl) | (simp [*, errW_none, errW_some] <;> rfl), bs HB.out⟩
   replace c11 := Bool.eq_false_iff.mpr c11
   subst c11
   have H1 : (mizmazeref01_Valid.l0 kj1 (l0_0.length : Int) 0 l0_0) = some r := by rw [if_neg (show ¬ (false = true) by decide)] at H; exact H
   clear H
   have H := H1
   clear H1
   have H' := am H
   clear H
   go_wp2
   repeat (go_quiet (fail); try go_wp2)
   go_loopg [4] kj1 (fun kq v4 w' => ∃ (x4_2 : Int), v4 = .int .i64 x4_2 ∧ Aside0 (mizmazeref01_Valid.l0 kq (l0_0.length : Int) x4_2 l0_0 = some r) ∧ Aside0 (kq ≤ kj1) ∧ Aside0 (w'.heap[gb103]? = some (.cells #[(.slice A0_0 l0_0.length c0_0)] 24 (0, 0))) ∧ Aside0 (Below w.heap.size w w'))
   case atStart => exact ⟨(0), zz3, H', ⟨Nat.le_refl _⟩, ⟨kb BK103.out⟩, ⟨bs HB.out⟩⟩
   case round =>
    clear H'
    (try clear c1); (try clear p1); (try clear q1); (try clear hx1); (try clear qi1); (try clear p2); (try clear c5); (try clear c5b0); (try clear c5b1); (try clear c5b2); (try clear c6); (try clear c6b0); (try clear c6b1); (try clear c7); (try clear c7b0); (try clear c7b1); (try clear c8); (try clear c8b0); (try clear c8b1); (try clear c8b2); (try clear c10); (try clear p10); (try clear q10); (try clear hx10); (try clear qi10); (try clear c11); (try clear hcz10_0); (try clear hcz4_0); (try clear hcz9_0); (try clear hfz10_0); (try clear hfz4_0); (try clear hfz9_0); (try clear hx104_0); (try clear hx105_0); (try clear p1); (try clear p10); (try clear p104); (try clear p105); (try clear p2); (try clear q1); (try clear q10); (try clear q104); (try clear q105)
    obtain ⟨x4_2, rfl, HA, HK2, BK103, HB⟩ := hrel
    cases gk with
    | zero => exact absurd HA.out (by simp [mizmazeref01_Valid.l0])
    | succ k2 =>
     have H := HA.out
     clear HA
     simp only [mizmazeref01_Valid.l0] at H
     by_cases c12 : x4_2 < (l0_0.length : Int)
     rotate_left
     ·rw [if_neg c12] at H
      have c12b0 : decide (x4_2 < (l0_0.length : Int)) = false := decide_eq_false c12
      clear c12
      obtain rfl := Option.some.inj H
      go_wp2
      repeat (go_quiet (fail); try go_wp2)
      go_ret
      exact ⟨by first | rfl | (simp [errW_none, errW_some] <;> rfl) | (simp [*, errW_none, errW_some] <;> rfl), bs HB.out⟩
     rw [if_pos c12] at H
     have c12b0 : decide (x4_2 < (l0_0.length : Int)) = true := decide_eq_true c12
     clear c12
     by_cases c13 : 0 ≤ x4_2
     rotate_left
     ·rw [if_neg c13] at H
      exact absurd H (by simp)
     rw [if_pos c13] at H
     have c13b0 : decide (0 ≤ x4_2) = true := decide_eq_true c13
     clear c13
     by_cases c14 : x4_2 < (l0_0.length : Int)
     rotate_left
     ·rw [if_neg c14] at H
      exact absurd H (by simp)
     rw [if_pos c14] at H
     have c14b0 : decide (x4_2 < (l0_0.length : Int)) = true := decide_eq_true c14
     clear c14
     by_cases c15 : 0 < (l0_0.length : Int)
     rotate_left
     ·rw [if_neg c15] at H
      exact absurd H (by simp)
     rw [if_pos c15] at H
     have c15b0 : decide (0 < (l0_0.length : Int)) = true := decide_eq_true c15
     have c15b1 : decide (0 < l0_0.length) = true := decide_eq_true (by omega)
     clear c15
     by_cases c16 : ((rd_L1 l0_0 x4_2).length : Int) = ((rd_L1 l0_0 0).length : Int)
     rotate_left
     ·rw [if_neg c16] at H
      have c16b0 : (((rd_L1 l0_0 x4_2).length : Int) == ((rd_L1 l0_0 0).length : Int)) = false := beq_eq_false_iff_ne.mpr c16
      have c16b1 : (((rd_L1 l0_0 x4_2).length : Int) != ((rd_L1 l0_0 0).length : Int)) = true := bne_iff_ne.mpr c16
      have c16b2 : ((rd_L1 l0_0 x4_2).length == (rd_L1 l0_0 0).length) = false := by first | simpa using c16 | (simp at c16 ⊢; omega)
      obtain rfl := Option.some.inj H
      have hcz21_0 : wr.cell? ⟨gb103, 0, none⟩ = some (.slice A0_0 l0_0.length c0_0) := (blk_cell BK103.out 0).trans rfl
      have hfz21_0 := blk_frozen BK103.out 0
      have p106 : 0 ≤ (x4_2 : Int) := od zz2
      have q106 : x4_2 < (l0_0.length : Int) := od zz2
      obtain ⟨ad106, A106_0, c106_0, e106, hx106_0, hl106_0, hi106_0⟩ := at_L1 HR0_0.out x4_2 p106 q106
      cases e106
      replace hx106_0 := (HB.out.cell (World.block_lt_of_cell? w _ hx106_0)).trans hx106_0
      have HR106_0 := am hi106_0
      have HC106_0 := am hl106_0
      clear hi106_0 hl106_0
      replace p106 := eq_true p106
      replace q106 := eq_true q106
      have p107 : 0 ≤ (0 : Int) := (by omega)
      have q107 : 0 < (l0_0.length : Int) := od zz2
      obtain ⟨ad107, A107_0, c107_0, e107, hx107_0, hl107_0, hi107_0⟩ := at_L1 HR0_0.out 0 p107 q107
      obtain rfl : ad106 = ad107 := (by injection e107)
      have qi107 : (0 < l0_0.length) = True := eq_true (by omega)
      (try rw [show ((0 : Int)).toNat = 0 from rfl] at hx107_0)
      (try rw [Addr.add_zero'] at hx107_0)
      replace hx107_0 := (HB.out.cell (World.block_lt_of_cell? w _ hx107_0)).trans hx107_0
      have HR107_0 := am hi107_0
      have HC107_0 := am hl107_0
      clear hi107_0 hl107_0
      replace p107 := eq_true p107
      replace q107 := eq_true q107
      go_wp2
      repeat (go_quiet (fail); try go_wp2)
      go_ret
      exact ⟨by first | rfl | (simp [errW_none, errW_some] <;> rfl) | (simp [*, errW_none, errW_some] <;> rfl), bs HB.out⟩
     rw [if_pos c16] at H
     have c16b0 : (((rd_L1 l0_0 x4_2).length : Int) == ((rd_L1 l0_0 0).length : Int)) = true := beq_iff_eq.mpr c16
     have c16b1 : (((rd_L1 l0_0 x4_2).length : Int) != ((rd_L1 l0_0 0).length : Int)) = false := bne_eq_false_iff_eq.mpr c16
     have c16b2 : ((rd_L1 l0_0 x4_2).length == (rd_L1 l0_0 0).length) = true := by first | simpa using c16 | (simp at c16 ⊢; omega)
     clear c16
     replace H := Option.bind_eq_some_iff.mp H
     obtain ⟨t109, A170, H⟩ := H
     replace H : (if t109 = true then (mizmazeref01_Valid.l0 k2 (l0_0.length : Int) (wrap64 (x4_2 + 1)) l0_0) else (some false)) = some r := H
     have A17 := am A170
     clear A170
     by_cases c18 : t109 = true
     rotate_left
     ·replace c18 := Bool.eq_false_iff.mpr c18
      subst c18
      have H1 : (some false) = some r := by rw [if_neg (show ¬ (false = true) by decide)] at H; exact H
      clear H
      have H := H1
      clear H1
      obtain rfl := Option.some.inj H
      have hcz20_0 : wr.cell? ⟨gb103, 0, none⟩ = some (.slice A0_0 l0_0.length c0_0) := (blk_cell BK103.out 0).trans rfl
      have hfz20_0 := blk_frozen BK103.out 0
      have p106 : 0 ≤ (x4_2 : Int) := od zz2
      have q106 : x4_2 < (l0_0.length : Int) := od zz2
      obtain ⟨ad106, A106_0, c106_0, e106, hx106_0, hl106_0, hi106_0⟩ := at_L1 HR0_0.out x4_2 p106 q106
      cases e106
      replace hx106_0 := (HB.out.cell (World.block_lt_of_cell? w _ hx106_0)).trans hx106_0
      have HR106_0 := am hi106_0
      have HC106_0 := am hl106_0
      clear hi106_0 hl106_0
      replace p106 := eq_true p106
      replace q106 := eq_true q106
      have p107 : 0 ≤ (0 : Int) := (by omega)
      have q107 : 0 < (l0_0.length : Int) := od zz2
      obtain ⟨ad107, A107_0, c107_0, e107, hx107_0, hl107_0, hi107_0⟩ := at_L1 HR0_0.out 0 p107 q107
      obtain rfl : ad106 = ad107 := (by injection e107)
      have qi107 : (0 < l0_0.length) = True := eq_true (by omega)
      (try rw [show ((0 : Int)).toNat = 0 from rfl] at hx107_0)
      (try rw [Addr.add_zero'] at hx107_0)
      replace hx107_0 := (HB.out.cell (World.block_lt_of_cell? w _ hx107_0)).trans hx107_0
      have HR107_0 := am hi107_0
      have HC107_0 := am hl107_0
      clear hi107_0 hl107_0
      replace p107 := eq_true p107
      replace q107 := eq_true q107
      have p108 : 0 ≤ (x4_2 : Int) := od zz2
      have q108 : x4_2 < (l0_0.length : Int) := od zz2
      obtain ⟨ad108, A108_0, c108_0, e108, hx108_0, hl108_0, hi108_0⟩ := at_L1 HR0_0.out x4_2 p108 q108
      obtain rfl : ad106 = ad108 := (by injection e108)
      replace hx108_0 := (HB.out.cell (World.block_lt_of_cell? w _ hx108_0)).trans hx108_0
      have HR108_0 := am hi108_0
      have HC108_0 := am hl108_0
      clear hi108_0 hl108_0
      replace p108 := eq_true p108
      replace q108 := eq_true q108
      have ea_ := Option.some.inj (hx106_0.symm.trans hx108_0)
      injection ea_ with ea_ en_ ec_
      subst ea_
      subst ec_
      clear en_
      go_wp2_with (first | (go_at_call 37; (with_reducible refine (mizmazeref01_Below.calls k2 _ _ (rd_L1 l0_0 x4_2) (l0_0.length : Int) false _ ?side1 ?side2 A17.out).mono ?_); (case side1 => exact kc (Kd.C_below HR108_0.out HB.out)); (case side2 => exact HC108_0.out); rintro e w' ⟨rfl, ⟨nd, rfl⟩⟩; (try exact zz4)))
      repeat (go_quiet (first | (go_at_call 37; (with_reducible refine (mizmazeref01_Below.calls k2 _ _ (rd_L1 l0_0 x4_2) (l0_0.length : Int) false _ ?side1 ?side2 A17.out).mono ?_); (case side1 => exact kc (Kd.C_below HR108_0.out HB.out)); (case side2 => exact HC108_0.out); rintro e w' ⟨rfl, ⟨nd, rfl⟩⟩; (try exact zz4))); try go_wp2_with (first | (go_at_call 37; (with_reducible refine (mizmazeref01_Below.calls k2 _ _ (rd_L1 l0_0 x4_2) (l0_0.length : Int) false _ ?side1 ?side2 A17.out).mono ?_); (case side1 => exact kc (Kd.C_below HR108_0.out HB.out)); (case side2 => exact HC108_0.out); rintro e w' ⟨rfl, ⟨nd, rfl⟩⟩; (try exact zz4))))
      go_ret
      exact ⟨by first | rfl | (simp [errW_none, errW_some] <;> rfl) | (simp [*, errW_none, errW_some] <;> rfl), bs HB.out⟩
     subst c18
     have H1 : (mizmazeref01_Valid.l0 k2 (l0_0.length : Int) (wrap64 (x4_2 + 1)) l0_0) = some r := by rw [if_pos rfl] at H; exact H
     clear H
     have H := H1
     clear H1
     have H' := am H
     clear H
     have hcz19_0 : wr.cell? ⟨gb103, 0, none⟩ = some (.slice A0_0 l0_0.length c0_0) := (blk_cell BK103.out 0).trans rfl
     have hfz19_0 := blk_frozen BK103.out 0
     have p106 : 0 ≤ (x4_2 : Int) := od zz2
     have q106 : x4_2 < (l0_0.length : Int) := od zz2
     obtain ⟨ad106, A106_0, c106_0, e106, hx106_0, hl106_0, hi106_0⟩ := at_L1 HR0_0.out x4_2 p106 q106
     cases e106
     replace hx106_0 := (HB.out.cell (World.block_lt_of_cell? w _ hx106_0)).trans hx106_0
     have HR106_0 := am hi106_0
     have HC106_0 := am hl106_0
     clear hi106_0 hl106_0
     replace p106 := eq_true p106
     replace q106 := eq_true q106
     have p107 : 0 ≤ (0 : Int) := (by omega)
     have q107 : 0 < (l0_0.length : Int) := od zz2
     obtain ⟨ad107, A107_0, c107_0, e107, hx107_0, hl107_0, hi107_0⟩ := at_L1 HR0_0.out 0 p107 q107
     obtain rfl : ad106 = ad107 := (by injection e107)
     have qi107 : (0 < l0_0.length) = True := eq_true (by omega)
     (try rw [show ((0 : Int)).toNat = 0 from rfl] at hx107_0)
     (try rw [Addr.add_zero'] at hx107_0)
     replace hx107_0 := (HB.out.cell (World.block_lt_of_cell? w _ hx107_0)).trans hx107_0
     have HR107_0 := am hi107_0
     have HC107_0 := am hl107_0
     clear hi107_0 hl107_0
     replace p107 := eq_true p107
     replace q107 := eq_true q107
     have p108 : 0 ≤ (x4_2 : Int) := od zz2
     have q108 : x4_2 < (l0_0.length : Int) := od zz2
     obtain ⟨ad108, A108_0, c108_0, e108, hx108_0, hl108_0, hi108_0⟩ := at_L1 HR0_0.out x4_2 p108 q108
     obtain rfl : ad106 = ad108 := (by injection e108)
     replace hx108_0 := (HB.out.cell (World.block_lt_of_cell? w _ hx108_0)).trans hx108_0
     have HR108_0 := am hi108_0
     have HC108_0 := am hl108_0
     clear hi108_0 hl108_0
     replace p108 := eq_true p108
     replace q108 := eq_true q108
     have ea_ := Option.some.inj (hx106_0.symm.trans hx108_0)
     injection ea_ with ea_ en_ ec_
     subst ea_
     subst ec_
     clear en_
     go_wp2_with (first | (go_at_call 37; (with_reducible refine (mizmazeref01_Below.calls k2 _ _ (rd_L1 l0_0 x4_2) (l0_0.length : Int) true _ ?side1 ?side2 A17.out).mono ?_); (case side1 => exact kc (Kd.C_below HR108_0.out HB.out)); (case side2 => exact HC108_0.out); rintro e w' ⟨rfl, ⟨nd, rfl⟩⟩; (try exact zz4)))
     repeat (go_quiet (first | (go_at_call 37; (with_reducible refine (mizmazeref01_Below.calls k2 _ _ (rd_L1 l0_0 x4_2) (l0_0.length : Int) true _ ?side1 ?side2 A17.out).mono ?_); (case side1 => exact kc (Kd.C_below HR108_0.out HB.out)); (case side2 => exact HC108_0.out); rintro e w' ⟨rfl, ⟨nd, rfl⟩⟩; (try exact zz4))); try go_wp2_with (first | (go_at_call 37; (with_reducible refine (mizmazeref01_Below.calls k2 _ _ (rd_L1 l0_0 x4_2) (l0_0.length : Int) true _ ?side1 ?side2 A17.out).mono ?_); (case side1 => exact kc (Kd.C_below HR108_0.out HB.out)); (case side2 => exact HC108_0.out); rintro e w' ⟨rfl, ⟨nd, rfl⟩⟩; (try exact zz4))))
     go_roundg k2
     case measure => have := HJ1.out; have := HK2.out; omega
     case rel => exact ⟨(wrap64 (x4_2 + 1)), zz3, H', ⟨by have := HJ1.out; have := HK2.out; omega⟩, ⟨kb BK103.out⟩, ⟨bs HB.out⟩⟩
end Go.Proofs.Ytjgdalhdiohclaa.Q
end
section
namespace Go.Proofs.Ytjgdalhdiohclaa.Q
attribute [local go_sem] max2_int min2_int max_two min_two max_three min_three max_four min_four
def mizmazeref01_Letters.f (l0_0 : List (List Int)) : Option (Int) := if 0 < (l0_0.length : Int) then (some ((rd_L1 l0_0 0).length : Int)) else (none)
theorem mizmazeref01_Letters.calls (A0_0 : Option Addr) (c0_0 : Nat) (l0_0 : List (List Int)) (r : Int) (w : World) (hr0_0 : Kd.C (Kd.slice 3 (Kd.int .i64)) w A0_0 l0_0.length l0_0) (hc0_0 : l0_0.length ≤ c0_0) (h : mizmazeref01_Letters.f l0_0 = some r) :
  Calls Try.prog 38 #[.agg #[.slice A0_0 l0_0.length c0_0]] w fun e w' => e = .returned (.int .i64 r) ∧ Below w.heap.size w w' := by
 have hu24 := Try.underlying24
 have HR0_0 := am hr0_0
 have HC0_0 := am hc0_0
 clear hr0_0 hc0_0
 have HB := am (Below.refl w.heap.size w)
 have H : (if 0 < (l0_0.length : Int) then (some ((rd_L1 l0_0 0).length : Int)) else (none)) = some r := h
 clear h
 by_cases c2 : 0 < (l0_0.length : Int)
 ·rw [if_pos c2] at H
  have c2b0 : decide (0 < (l0_0.length : Int)) = true := decide_eq_true c2
  have c2b1 : decide (0 < l0_0.length) = true := decide_eq_true (by omega)
  clear c2
  obtain rfl := Option.some.inj H
  go_enter Try.func38, Try.ntmps38
  go_wp2_with (first | ((with_reducible refine gate_dst (N := 1) rfl ?_); refine box_event zz5 (N := 1) zz5 (cs := #[.slice A0_0 l0_0.length c0_0]) (t := 24) zz6 ?_; intro gb275 hg w3 hbox hb; have BK275 := am (hbox); have GW275 := am ((by rw [hg]; exact (below_size (bw HB.out)) : w.heap.size ≤ gb275)); have GE275 := am ((by rw [hg]; exact (below_size (bw HB.out)) : w.heap.size ≤ gb275)); replace HB := am (below_step (bw HB.out) hb); clear hb hbox hg; have hcz4_0 : w3.cell? ⟨gb275, 0, none⟩ = some (.slice A0_0 l0_0.length c0_0) := (blk_cell BK275.out 0).trans rfl; have hfz4_0 := blk_frozen BK275.out 0; have p276 : 0 ≤ (0 : Int) := (by omega); have q276 : 0 < (l0_0.length : Int) := od zz2; obtain ⟨ad276, A276_0, c276_0, e276, hx276_0, hl276_0, hi276_0⟩ := at_L1 HR0_0.out 0 p276 q276; cases e276; have qi276 : (0 < l0_0.length) = True := eq_true (by omega); (try rw [show ((0 : Int)).toNat = 0 from rfl] at hx276_0); (try rw [Addr.add_zero'] at hx276_0); replace hx276_0 := (HB.out.cell (World.block_lt_of_cell? w _ hx276_0)).trans hx276_0; have HR276_0 := am hi276_0; have HC276_0 := am hl276_0; clear hi276_0 hl276_0; replace p276 := eq_true p276; replace q276 := eq_true q276))
  go_ret
  exact ⟨by first | rfl | (simp [errW_none, errW_some] <;> rfl) | (simp [*, errW_none, errW_some] <;> rfl), bs HB.out⟩
 ·rw [if_neg c2] at H
  exact absurd H (by simp)
end Go.Proofs.Ytjgdalhdiohclaa.Q
end
section
namespace Go.Proofs.Ytjgdalhdiohclaa.Q
attribute [local go_sem] max2_int min2_int max_two min_two max_three min_three max_four min_four
def mizmazeref01_Word.f (k : Nat) (l0_0 : List (List Int)) (l1 : List Int) : Option (Bool) := if (l1.length : Int) ≤ 40000 then ((mizmazeref01_Letters.f l0_0).bind fun t400 => ((mizmazeref01_Below.f k l1 t400).bind fun t401 => (some t401))) else (some false)
theorem mizmazeref01_Word.mono : ∀ a0 a1 k, LeO (mizmazeref01_Word.f k a0 a1) (mizmazeref01_Word.f (k + 1) a0 a1) := by
 intro a0 a1 k
 unfold mizmazeref01_Word.f
 with_reducible repeat' first | exact mizmazeref01_Below.mono _ _ _ | exact LeO.refl _ | exact LeO.none _ | refine LeO.ite ?_ ?_ | refine LeO.bind ?_ (fun _ => ?_)
theorem mizmazeref01_Word.calls (k : Nat) (A0_0 : Option Addr) (c0_0 : Nat) (l0_0 : List (List Int)) (A1 : Option Addr) (c1 : Nat) (l1 : List Int) (r : Bool) (w : World) (hr0_0 : Kd.C (Kd.slice 3 (Kd.int .i64)) w A0_0 l0_0.length l0_0) (hc0_0 : l0_0.length ≤ c0_0) (hr1 : Kd.C (Kd.int .i64) w A1 l1.length l1) (hc1 : l1.length ≤ c1) (h : mizmazeref01_Word.f k l0_0 l1 = some r) :
  Calls Try.prog 34 #[.agg #[.slice A0_0 l0_0.length c0_0], .slice A1 l1.length c1] w fun e w' => e = .returned (.bool r) ∧ Below w.heap.size w w' := by
 have hu24 := Try.underlying24
 have HR0_0 := am hr0_0
 have HC0_0 := am hc0_0
 clear hr0_0 hc0_0
 have HR1 := am hr1
 have HC1 := am hc1
 clear hr1 hc1
 have HB := am (Below.refl w.heap.size w)
 have H : (if (l1.length : Int) ≤ 40000 then ((mizmazeref01_Letters.f l0_0).bind fun t400 => ((mizmazeref01_Below.f k l1 t400).bind fun t401 => (some t401))) else (some false)) = some r := h
 clear h
 by_cases c3 : (l1.length : Int) ≤ 40000
 ·rw [if_pos c3] at H
  have c3b0 : decide ((l1.length : Int) ≤ 40000) = true := decide_eq_true c3
  have c3b1 : decide (l1.length ≤ 40000) = true := decide_eq_true (by omega)
  clear c3
  replace H := Option.bind_eq_some_iff.mp H
  obtain ⟨t400, A40, H⟩ := H
  replace H : ((mizmazeref01_Below.f k l1 t400).bind fun t401 => (some t401)) = some r := H
  have A4 := am A40
  clear A40
  replace H := Option.bind_eq_some_iff.mp H
  obtain ⟨t401, A50, H⟩ := H
  replace H : (some t401) = some r := H
  have A5 := am A50
  clear A50
  obtain rfl := Option.some.inj H
  go_enter Try.func34, Try.ntmps34
  go_wp2_with (first | ((with_reducible refine gate_dst (N := 2) rfl ?_); refine box_event zz5 (N := 2) zz5 (cs := #[.slice A0_0 l0_0.length c0_0]) (t := 24) zz6 ?_; intro gb399 hg w6 hbox hb; have BK399 := am (hbox); have GW399 := am ((by rw [hg]; exact (below_size (bw HB.out)) : w.heap.size ≤ gb399)); have GE399 := am ((by rw [hg]; exact (below_size (bw HB.out)) : w.heap.size ≤ gb399)); replace HB := am (below_step (bw HB.out) hb); clear hb hbox hg; have hcz7_0 : w6.cell? ⟨gb399, 0, none⟩ = some (.slice A0_0 l0_0.length c0_0) := (blk_cell BK399.out 0).trans rfl; have hfz7_0 := blk_frozen BK399.out 0) | (go_at_call 38; (with_reducible refine (mizmazeref01_Letters.calls _ _ l0_0 t400 _ ?side1 ?side2 A4.out).mono ?_); (case side1 => exact kc (Kd.C_below HR0_0.out HB.out)); (case side2 => exact HC0_0.out); rintro e w8 ⟨rfl, hb⟩; replace BK399 := am (blk_below (g := gb399) (o := .cells #[.slice A0_0 l0_0.length c0_0] 24 (0, 0)) (kb BK399.out) hb); replace HB := am (below_step (bs HB.out) hb); (try clear hb); (try clear hb2); (try clear hk); (try clear hi)) | (go_at_call 37; (with_reducible refine (mizmazeref01_Below.calls k _ _ l1 t400 t401 _ ?side1 ?side2 A5.out).mono ?_); (case side1 => exact kc (Kd.C_below HR1.out HB.out)); (case side2 => exact HC1.out); rintro e w' ⟨rfl, ⟨nd, rfl⟩⟩))
  go_ret
  exact ⟨by first | rfl | (simp [errW_none, errW_some] <;> rfl) | (simp [*, errW_none, errW_some] <;> rfl), bs HB.out⟩
 ·rw [if_neg c3] at H
  have c3b0 : decide ((l1.length : Int) ≤ 40000) = false := decide_eq_false c3
  have c3b1 : decide (l1.length ≤ 40000) = false := decide_eq_false (by omega)
  clear c3
  obtain rfl := Option.some.inj H
  go_enter Try.func34, Try.ntmps34
  go_wp2_with (first | ((with_reducible refine gate_dst (N := 2) rfl ?_); refine box_event zz5 (N := 2) zz5 (cs := #[.slice A0_0 l0_0.length c0_0]) (t := 24) zz6 ?_; intro gb399 hg w9 hbox hb; have BK399 := am (hbox); have GW399 := am ((by rw [hg]; exact (below_size (bw HB.out)) : w.heap.size ≤ gb399)); have GE399 := am ((by rw [hg]; exact (below_size (bw HB.out)) : w.heap.size ≤ gb399)); replace HB := am (below_step (bw HB.out) hb); clear hb hbox hg))
  go_ret
  exact ⟨by first | rfl | (simp [errW_none, errW_some] <;> rfl) | (simp [*, errW_none, errW_some] <;> rfl), bs HB.out⟩
end Go.Proofs.Ytjgdalhdiohclaa.Q
end
section
namespace Go.Proofs.Ytjgdalhdiohclaa.Q
attribute [local go_sem] max2_int min2_int max_two min_two max_three min_three max_four min_four
def mizmazeref01_All.l0 : Nat → Int → List Int → Int → Option (List Int)
 | 0, _, _, _ => none
 | k + 1, x0, x3, x4 => if x4 < x0 then (if x3.length < 17592186044416 then (mizmazeref01_All.l0 k x0 (x3 ++ [x4]) (wrap64 (x4 + 1))) else (none)) else (some x3)
def mizmazeref01_All.f (k : Nat) (a0 : Int) : Option (List Int) := mizmazeref01_All.l0 k a0 ([] : List Int) 0
theorem mizmazeref01_All.mono_l : ∀ k, (∀ y0 y1 y2, LeO (mizmazeref01_All.l0 k y0 y1 y2) (mizmazeref01_All.l0 (k + 1) y0 y1 y2))
 | 0 => fun _ _ _ r h => by simp [mizmazeref01_All.l0] at h
 | k + 1 => by
  have ih0 := mizmazeref01_All.mono_l k
  ·intro y0 y1 y2
   unfold mizmazeref01_All.l0
   with_reducible repeat' first | exact ih0 _ _ _ | exact LeO.refl _ | exact LeO.none _ | refine LeO.ite ?_ ?_ | refine LeO.bind ?_ (fun _ => ?_)
theorem mizmazeref01_All.mono : ∀ a0 k, LeO (mizmazeref01_All.f k a0) (mizmazeref01_All.f (k + 1) a0) := by
 intro a0 k
 have ih0 := mizmazeref01_All.mono_l k
 unfold mizmazeref01_All.f
 with_reducible repeat' first | exact ih0 _ _ _ | exact LeO.refl _ | exact LeO.none _ | refine LeO.ite ?_ ?_ | refine LeO.bind ?_ (fun _ => ?_)
theorem mizmazeref01_All.calls (k : Nat) (a0 : Int) (r : List Int) (w : World) (h : mizmazeref01_All.f k a0 = some r) :
  Calls Try.prog 40 #[.int .i64 a0] w fun e w' => ∃ v0_ : Value, e = .returned (v0_) ∧ Kd.R (Kd.int .i64) 3 w' w.heap.size (fun _ => True) v0_ r ∧ Below w.heap.size w w' := by
 have HB := am (Below.refl w.heap.size w)
 have H : (mizmazeref01_All.l0 k a0 ([] : List Int) 0) = some r := h
 clear h
 have H' := am H
 clear H
 go_enter Try.func40, Try.ntmps40
 go_wp2
 go_loopg [3, 4] k (fun kq v3 v4 w' => ∃ (x3_1 : List Int) (x4_1 : Int), v4 = .int .i64 x4_1 ∧ Aside0 (mizmazeref01_All.l0 kq a0 x3_1 x4_1 = some r) ∧ Aside0 (kq ≤ k) ∧ Aside0 (Kd.R (Kd.int .i64) 3 w' w.heap.size (fun _ => True) v3 x3_1) ∧ Aside0 (Below w.heap.size w w'))
 case atStart => exact ⟨(([] : List Int)), (0), zz3, H', ⟨Nat.le_refl _⟩, ⟨by first | exact Kd.R_nil _ _ _ _ _ | exact Kd.N_nil _ _ _ _ _ | exact Kd.V_nil _ _ _ _ _ | exact Kd.Q_nil _ _ _ _ _ | exact Kd.S_nil _ _ _ _ _⟩, ⟨bw HB.out⟩⟩
 case round =>
  clear H'
  obtain ⟨x3_1, x4_1, rfl, HA, HK1, HO_3, HB⟩ := hrel
  cases gk with
  | zero => exact absurd HA.out (by simp [mizmazeref01_All.l0])
  | succ k1 =>
   have H := HA.out
   clear HA
   simp only [mizmazeref01_All.l0] at H
   by_cases c2 : x4_1 < a0
   ·rw [if_pos c2] at H
    have c2b0 : decide (x4_1 < a0) = true := decide_eq_true c2
    clear c2
    by_cases c3 : x3_1.length < 17592186044416
    ·rw [if_pos c3] at H
     have LMc3 := am c3
     clear c3
     obtain ⟨y402, hy402⟩ : ∃ y_ : List Int, y_ = (x3_1 ++ [x4_1]) := ⟨_, rfl⟩
     replace H : (mizmazeref01_All.l0 k1 a0 y402 (wrap64 (x4_1 + 1))) = some r := by first | (rw [hy402]; with_reducible exact H) | (have H2_ := (Option.bind_some _ _).symm.trans H; rw [hy402]; with_reducible exact H2_) | (have H2_ := (Option.bind_some _ _).symm.trans H; with_reducible exact H2_) | with_reducible exact H | (rw [hy402]; exact H) | exact H
     have Ny402 := am hy402
     clear hy402
     have H' := am H
     clear H
     go_wp2_with (first | ((with_reducible refine gate_builtin (b := .append) (xs := #[.tmp 10, .tmp 12]) rfl ?_); at_builtin; refine Kd.R_append (Kd.int .i64) (w0 := w) w.heap.size rfl (.tmp 10) (.tmp 12) 28 3 (.int .i64 0) 8 rfl Try.underlying28 info3 rfl (by decide) (by omega) u3 x3_1 x4_1 [.int .i64 x4_1] (fun _ => True) (fun _ => False) rfl rfl ?aP (fun _ hk => hk.elim) ?aF ?aO ?aB ?aS ?aL ?_; (case aP => exact rfl); (case aB => exact (bw HB.out)); (case aF => exact (fun _ _ => trivial)); (case aO => exact (kR HO_3.out)); (case aS => exact (below_size (bw HB.out))); (case aL => have := LMc3.out; omega); intro v403 w4 ho hb hg hat; rw [← Ny402.out] at ho; have n0_ := am (hb); have n1_ := am (ho); clear HB; clear HO_3; have HB := n0_; have HO404 := n1_; clear n0_ n1_; clear ho hb hg hat))
     go_roundg k1
     case measure => have := HK1.out; omega
     case rel => exact ⟨(y402), (wrap64 (x4_1 + 1)), zz3, H', ⟨by have := HK1.out; omega⟩, ⟨kR HO404.out⟩, ⟨bw HB.out⟩⟩
    ·rw [if_neg c3] at H
     exact absurd H (by simp)
   ·rw [if_neg c2] at H
    have c2b0 : decide (x4_1 < a0) = false := decide_eq_false c2
    clear c2
    obtain rfl := Option.some.inj H
    go_wp2
    go_ret
    exact ⟨_, by first | rfl | (simp [errW_none, errW_some] <;> rfl) | (simp [*, errW_none, errW_some] <;> rfl), kR HO_3.out, bw HB.out⟩
end Go.Proofs.Ytjgdalhdiohclaa.Q
end
section
namespace Go.Proofs.Ytjgdalhdiohclaa.Q
attribute [local go_sem] max2_int min2_int max_two min_two max_three min_three max_four min_four
def mizmazeref01_Has.l0 : Nat → List Int → Int → Int → Option (Bool)
 | 0, _, _, _ => none
 | k + 1, x0, x1, x5 => if x5 < (x0.length : Int) then (if 0 ≤ x5 then (if (rd x0 x5) = x1 then (some true) else (mizmazeref01_Has.l0 k x0 x1 (wrap64 (x5 + 1)))) else (none)) else (some false)
def mizmazeref01_Has.f (k : Nat) (l0 : List Int) (a1 : Int) : Option (Bool) := mizmazeref01_Has.l0 k l0 a1 0
theorem mizmazeref01_Has.mono_l : ∀ k, (∀ y0 y1 y2, LeO (mizmazeref01_Has.l0 k y0 y1 y2) (mizmazeref01_Has.l0 (k + 1) y0 y1 y2))
 | 0 => fun _ _ _ r h => by simp [mizmazeref01_Has.l0] at h
 | k + 1 => by
  have ih0 := mizmazeref01_Has.mono_l k
  ·intro y0 y1 y2
   unfold mizmazeref01_Has.l0
   with_reducible repeat' first | exact ih0 _ _ _ | exact LeO.refl _ | exact LeO.none _ | refine LeO.ite ?_ ?_ | refine LeO.bind ?_ (fun _ => ?_)
theorem mizmazeref01_Has.mono : ∀ a0 a1 k, LeO (mizmazeref01_Has.f k a0 a1) (mizmazeref01_Has.f (k + 1) a0 a1) := by
 intro a0 a1 k
 have ih0 := mizmazeref01_Has.mono_l k
 unfold mizmazeref01_Has.f
 with_reducible repeat' first | exact ih0 _ _ _ | exact LeO.refl _ | exact LeO.none _ | refine LeO.ite ?_ ?_ | refine LeO.bind ?_ (fun _ => ?_)
theorem mizmazeref01_Has.calls (k : Nat) (A0 : Option Addr) (c0 : Nat) (l0 : List Int) (a1 : Int) (r : Bool) (w : World) (hr0 : Kd.C (Kd.int .i64) w A0 l0.length l0) (hc0 : l0.length ≤ c0) (h : mizmazeref01_Has.f k l0 a1 = some r) :
  Calls Try.prog 36 #[.slice A0 l0.length c0, .int .i64 a1] w fun e w' => e = .returned (.bool r) ∧ Drawn0 w w' := by
 have HR0 := am hr0
 have HC0 := am hc0
 clear hr0 hc0
 have H : (mizmazeref01_Has.l0 k l0 a1 0) = some r := h
 clear h
 have H' := am H
 clear H
 go_enter Try.func36, Try.ntmps36
 go_wp2
 go_loopg [5] k (fun kq v5 w' => ∃ (x5_1 : Int), v5 = .int .i64 x5_1 ∧ Aside0 (mizmazeref01_Has.l0 kq l0 a1 x5_1 = some r) ∧ Aside0 (kq ≤ k) ∧ Drawn0 w w')
 case atStart => exact ⟨(0), zz3, H', ⟨Nat.le_refl _⟩, by repeat (first | exact Drawn0.refl _ | apply Drawn0.step)⟩
 case round =>
  clear H'
  (try clear p2)
  obtain ⟨x5_1, rfl, HA, HK1, ⟨m1, rfl⟩⟩ := hrel
  cases gk with
  | zero => exact absurd HA.out (by simp [mizmazeref01_Has.l0])
  | succ k1 =>
   have H := HA.out
   clear HA
   simp only [mizmazeref01_Has.l0] at H
   by_cases c3 : x5_1 < (l0.length : Int)
   ·rw [if_pos c3] at H
    have c3b0 : decide (x5_1 < (l0.length : Int)) = true := decide_eq_true c3
    clear c3
    by_cases c4 : 0 ≤ x5_1
    ·rw [if_pos c4] at H
     have c4b0 : decide (0 ≤ x5_1) = true := decide_eq_true c4
     clear c4
     by_cases c5 : (rd l0 x5_1) = a1
     ·rw [if_pos c5] at H
      have c5b0 : ((rd l0 x5_1) == a1) = true := beq_iff_eq.mpr c5
      have c5b1 : ((rd l0 x5_1) != a1) = false := bne_eq_false_iff_eq.mpr c5
      clear c5
      obtain rfl := Option.some.inj H
      have p277 : 0 ≤ (x5_1 : Int) := od zz2
      have q277 : x5_1 < (l0.length : Int) := od zz2
      obtain ⟨ad277, e277, hx277_0⟩ := Kd.at_int HR0.out x5_1 p277 q277
      cases e277
      replace p277 := eq_true p277
      replace q277 := eq_true q277
      go_wp2
      go_ret
      exact ⟨by first | rfl | (simp; done) | (simp [*]; done), by repeat (first | exact Drawn0.refl _ | apply Drawn0.step)⟩
     ·rw [if_neg c5] at H
      have c5b0 : ((rd l0 x5_1) == a1) = false := beq_eq_false_iff_ne.mpr c5
      have c5b1 : ((rd l0 x5_1) != a1) = true := bne_iff_ne.mpr c5
      have H' := am H
      clear H
      have p277 : 0 ≤ (x5_1 : Int) := od zz2
      have q277 : x5_1 < (l0.length : Int) := od zz2
      obtain ⟨ad277, e277, hx277_0⟩ := Kd.at_int HR0.out x5_1 p277 q277
      cases e277
      replace p277 := eq_true p277
      replace q277 := eq_true q277
      go_wp2
      go_roundg k1
      case measure => have := HK1.out; omega
      case rel => exact ⟨(wrap64 (x5_1 + 1)), zz3, H', ⟨by have := HK1.out; omega⟩, by repeat (first | exact Drawn0.refl _ | apply Drawn0.step)⟩
    ·rw [if_neg c4] at H
     exact absurd H (by simp)
   ·rw [if_neg c3] at H
    have c3b0 : decide (x5_1 < (l0.length : Int)) = false := decide_eq_false c3
    clear c3
    obtain rfl := Option.some.inj H
    go_wp2
    go_ret
    exact ⟨by first | rfl | (simp; done) | (simp [*]; done), by repeat (first | exact Drawn0.refl _ | apply Drawn0.step)⟩
end Go.Proofs.Ytjgdalhdiohclaa.Q
end
section
namespace Go.Proofs.Ytjgdalhdiohclaa.Q
attribute [local go_sem] max2_int min2_int max_two min_two max_three min_three max_four min_four
def mizmazeref01_Run.l0 : Nat → Int → List Int → Int → List (List Int) → Option (Int)
 | 0, _, _, _, _ => none
 | k + 1, x1, x2, x7, x406000 => if x7 < (x2.length : Int) then (if 0 ≤ x1 then (if x1 < (x406000.length : Int) then (if 0 ≤ x7 then (if 0 ≤ (rd x2 x7) then (if (rd x2 x7) < ((rd_L1 x406000 x1).length : Int) then (mizmazeref01_Run.l0 k (rd (rd_L1 x406000 x1) (rd x2 x7)) x2 (wrap64 (x7 + 1)) x406000) else (none)) else (none)) else (none)) else (none)) else (none)) else (some x1)
def mizmazeref01_Run.f (k : Nat) (l0_0 : List (List Int)) (a1 : Int) (l2 : List Int) : Option (Int) := mizmazeref01_Run.l0 k a1 l2 0 l0_0
theorem mizmazeref01_Run.mono_l : ∀ k, (∀ y0 y1 y2 y3, LeO (mizmazeref01_Run.l0 k y0 y1 y2 y3) (mizmazeref01_Run.l0 (k + 1) y0 y1 y2 y3))
 | 0 => fun _ _ _ _ r h => by simp [mizmazeref01_Run.l0] at h
 | k + 1 => by
  have ih0 := mizmazeref01_Run.mono_l k
  ·intro y0 y1 y2 y3
   unfold mizmazeref01_Run.l0
   with_reducible repeat' first | exact ih0 _ _ _ _ | exact LeO.refl _ | exact LeO.none _ | refine LeO.ite ?_ ?_ | refine LeO.bind ?_ (fun _ => ?_)
theorem mizmazeref01_Run.mono : ∀ a0 a1 a2 k, LeO (mizmazeref01_Run.f k a0 a1 a2) (mizmazeref01_Run.f (k + 1) a0 a1 a2) := by
 intro a0 a1 a2 k
 have ih0 := mizmazeref01_Run.mono_l k
 unfold mizmazeref01_Run.f
 with_reducible repeat' first | exact ih0 _ _ _ _ | exact LeO.refl _ | exact LeO.none _ | refine LeO.ite ?_ ?_ | refine LeO.bind ?_ (fun _ => ?_)
theorem mizmazeref01_Run.calls (k : Nat) (A0_0 : Option Addr) (c0_0 : Nat) (l0_0 : List (List Int)) (a1 : Int) (A2 : Option Addr) (c2 : Nat) (l2 : List Int) (r : Int) (w : World) (hr0_0 : Kd.C (Kd.slice 3 (Kd.int .i64)) w A0_0 l0_0.length l0_0) (hc0_0 : l0_0.length ≤ c0_0) (hr2 : Kd.C (Kd.int .i64) w A2 l2.length l2) (hc2 : l2.length ≤ c2) (h : mizmazeref01_Run.f k l0_0 a1 l2 = some r) :
  Calls Try.prog 131 #[.agg #[.slice A0_0 l0_0.length c0_0], .int .i64 a1, .slice A2 l2.length c2] w fun e w' => e = .returned (.int .i64 r) ∧ Below w.heap.size w w' := by
 have hu24 := Try.underlying24
 have HR0_0 := am hr0_0
 have HC0_0 := am hc0_0
 clear hr0_0 hc0_0
 have HR2 := am hr2
 have HC2 := am hc2
 clear hr2 hc2
 have HB := am (Below.refl w.heap.size w)
 have H : (mizmazeref01_Run.l0 k a1 l2 0 l0_0) = some r := h
 clear h
 have H' := am H
 clear H
 go_enter Try.func131, Try.ntmps131
 go_wp2_with (first | ((with_reducible refine gate_dst (N := 3) rfl ?_); refine box_event zz5 (N := 3) zz5 (cs := #[.slice A0_0 l0_0.length c0_0]) (t := 24) zz6 ?_; intro gb405 hg w4 hbox hb; have BK405 := am (hbox); have GW405 := am ((by rw [hg]; exact (below_size (bw HB.out)) : w.heap.size ≤ gb405)); have GE405 := am ((by rw [hg]; exact (below_size (bw HB.out)) : w.heap.size ≤ gb405)); replace HB := am (below_step (bw HB.out) hb); clear hb hbox hg))
 repeat (go_quiet (first | ((with_reducible refine gate_dst (N := 3) rfl ?_); refine box_event zz5 (N := 3) zz5 (cs := #[.slice A0_0 l0_0.length c0_0]) (t := 24) zz6 ?_; intro gb405 hg w4 hbox hb; have BK405 := am (hbox); have GW405 := am ((by rw [hg]; exact (below_size (bw HB.out)) : w.heap.size ≤ gb405)); have GE405 := am ((by rw [hg]; exact (below_size (bw HB.out)) : w.heap.size ≤ gb405)); replace HB := am (below_step (bw HB.out) hb); clear hb hbox hg)); try go_wp2_with (first | ((with_reducible refine gate_dst (N := 3) rfl ?_); refine box_event zz5 (N := 3) zz5 (cs := #[.slice A0_0 l0_0.length c0_0]) (t := 24) zz6 ?_; intro gb405 hg w4 hbox hb; have BK405 := am (hbox); have GW405 := am ((by rw [hg]; exact (below_size (bw HB.out)) : w.heap.size ≤ gb405)); have GE405 := am ((by rw [hg]; exact (below_size (bw HB.out)) : w.heap.size ≤ gb405)); replace HB := am (below_step (bw HB.out) hb); clear hb hbox hg)))
 go_loopg [1, 7] k (fun kq v1 v7 w' => ∃ (x1_1 : Int) (x7_1 : Int), v1 = .int .i64 x1_1 ∧ v7 = .int .i64 x7_1 ∧ Aside0 (mizmazeref01_Run.l0 kq x1_1 l2 x7_1 l0_0 = some r) ∧ Aside0 (kq ≤ k) ∧ Aside0 (w'.heap[gb405]? = some (.cells #[(.slice A0_0 l0_0.length c0_0)] 24 (0, 0))) ∧ Aside0 (Below w.heap.size w w'))
 case atStart => exact ⟨(a1), (0), zz3, zz3, H', ⟨Nat.le_refl _⟩, ⟨kb BK405.out⟩, ⟨bs HB.out⟩⟩
 case round =>
  clear H'
  (try clear c1); (try clear c2); (try clear p2)
  obtain ⟨x1_1, x7_1, rfl, rfl, HA, HK1, BK405, HB⟩ := hrel
  cases gk with
  | zero => exact absurd HA.out (by simp [mizmazeref01_Run.l0])
  | succ k1 =>
   have H := HA.out
   clear HA
   simp only [mizmazeref01_Run.l0] at H
   by_cases c5 : x7_1 < (l2.length : Int)
   ·rw [if_pos c5] at H
    have c5b0 : decide (x7_1 < (l2.length : Int)) = true := decide_eq_true c5
    clear c5
    by_cases c6 : 0 ≤ x1_1
    ·rw [if_pos c6] at H
     have c6b0 : decide (0 ≤ x1_1) = true := decide_eq_true c6
     clear c6
     by_cases c7 : x1_1 < (l0_0.length : Int)
     ·rw [if_pos c7] at H
      have c7b0 : decide (x1_1 < (l0_0.length : Int)) = true := decide_eq_true c7
      clear c7
      by_cases c8 : 0 ≤ x7_1
      ·rw [if_pos c8] at H
       have c8b0 : decide (0 ≤ x7_1) = true := decide_eq_true c8
       clear c8
       by_cases c9 : 0 ≤ (rd l2 x7_1)
       ·rw [if_pos c9] at H
        have c9b0 : decide (0 ≤ (rd l2 x7_1)) = true := decide_eq_true c9
        clear c9
        by_cases c10 : (rd l2 x7_1) < ((rd_L1 l0_0 x1_1).length : Int)
        ·rw [if_pos c10] at H
         have c10b0 : decide ((rd l2 x7_1) < ((rd_L1 l0_0 x1_1).length : Int)) = true := decide_eq_true c10
         clear c10
         have H' := am H
         clear H
         have hcz11_0 : wr.cell? ⟨gb405, 0, none⟩ = some (.slice A0_0 l0_0.length c0_0) := (blk_cell BK405.out 0).trans rfl
         have hfz11_0 := blk_frozen BK405.out 0
         have p406 : 0 ≤ (x1_1 : Int) := od zz2
         have q406 : x1_1 < (l0_0.length : Int) := od zz2
         obtain ⟨ad406, A406_0, c406_0, e406, hx406_0, hl406_0, hi406_0⟩ := at_L1 HR0_0.out x1_1 p406 q406
         cases e406
         replace hx406_0 := (HB.out.cell (World.block_lt_of_cell? w _ hx406_0)).trans hx406_0
         have HR406_0 := am hi406_0
         have HC406_0 := am hl406_0
         clear hi406_0 hl406_0
         replace p406 := eq_true p406
         replace q406 := eq_true q406
         have p407 : 0 ≤ (x7_1 : Int) := od zz2
         have q407 : x7_1 < (l2.length : Int) := od zz2
         obtain ⟨ad407, e407, hx407_0⟩ := Kd.at_int HR2.out x7_1 p407 q407
         cases e407
         replace hx407_0 := (HB.out.cell (World.block_lt_of_cell? w _ hx407_0)).trans hx407_0
         replace p407 := eq_true p407
         replace q407 := eq_true q407
         have p408 : 0 ≤ ((rd l2 x7_1) : Int) := od zz2
         have q408 : (rd l2 x7_1) < ((rd_L1 l0_0 x1_1).length : Int) := od zz2
         obtain ⟨ad408, e408, hx408_0⟩ := Kd.at_int HR406_0.out (rd l2 x7_1) p408 q408
         cases e408
         replace hx408_0 := (HB.out.cell (World.block_lt_of_cell? w _ hx408_0)).trans hx408_0
         replace p408 := eq_true p408
         replace q408 := eq_true q408
         go_wp2
         repeat (go_quiet (fail); try go_wp2)
         go_roundg k1
         case measure => have := HK1.out; omega
         case rel => exact ⟨(rd (rd_L1 l0_0 x1_1) (rd l2 x7_1)), (wrap64 (x7_1 + 1)), zz3, zz3, H', ⟨by have := HK1.out; omega⟩, ⟨kb BK405.out⟩, ⟨bs HB.out⟩⟩
        ·rw [if_neg c10] at H
         exact absurd H (by simp)
       ·rw [if_neg c9] at H
        exact absurd H (by simp)
      ·rw [if_neg c8] at H
       exact absurd H (by simp)
     ·rw [if_neg c7] at H
      exact absurd H (by simp)
    ·rw [if_neg c6] at H
     exact absurd H (by simp)
   ·rw [if_neg c5] at H
    have c5b0 : decide (x7_1 < (l2.length : Int)) = false := decide_eq_false c5
    clear c5
    obtain rfl := Option.some.inj H
    go_wp2
    repeat (go_quiet (fail); try go_wp2)
    go_ret
    exact ⟨by first | rfl | (simp [errW_none, errW_some] <;> rfl) | (simp [*, errW_none, errW_some] <;> rfl), bs HB.out⟩
end Go.Proofs.Ytjgdalhdiohclaa.Q
end
section
namespace Go.Proofs.Ytjgdalhdiohclaa.Q
attribute [local go_sem] max2_int min2_int max_two min_two max_three min_three max_four min_four
def mizmazeref01_Ends.l0 : Nat → List Int → List Int → Int → List (List Int) → Option (List Int)
 | 0, _, _, _, _ => none
 | k + 1, x1, x5, x6, x410000 => if x6 < (x410000.length : Int) then ((mizmazeref01_Run.f k x410000 x6 x1).bind fun t410 => (if x5.length < 17592186044416 then (mizmazeref01_Ends.l0 k x1 (x5 ++ [t410]) (wrap64 (x6 + 1)) x410000) else (none))) else (some x5)
def mizmazeref01_Ends.f (k : Nat) (l0_0 : List (List Int)) (l1 : List Int) : Option (List Int) := mizmazeref01_Ends.l0 k l1 ([] : List Int) 0 l0_0
theorem mizmazeref01_Ends.mono_l : ∀ k, (∀ y0 y1 y2 y3, LeO (mizmazeref01_Ends.l0 k y0 y1 y2 y3) (mizmazeref01_Ends.l0 (k + 1) y0 y1 y2 y3))
 | 0 => fun _ _ _ _ r h => by simp [mizmazeref01_Ends.l0] at h
 | k + 1 => by
  have ih0 := mizmazeref01_Ends.mono_l k
  ·intro y0 y1 y2 y3
   unfold mizmazeref01_Ends.l0
   with_reducible repeat' first | exact ih0 _ _ _ _ | exact mizmazeref01_Run.mono _ _ _ _ | exact LeO.refl _ | exact LeO.none _ | refine LeO.ite ?_ ?_ | refine LeO.bind ?_ (fun _ => ?_)
theorem mizmazeref01_Ends.mono : ∀ a0 a1 k, LeO (mizmazeref01_Ends.f k a0 a1) (mizmazeref01_Ends.f (k + 1) a0 a1) := by
 intro a0 a1 k
 have ih0 := mizmazeref01_Ends.mono_l k
 unfold mizmazeref01_Ends.f
 with_reducible repeat' first | exact ih0 _ _ _ _ | exact mizmazeref01_Run.mono _ _ _ _ | exact LeO.refl _ | exact LeO.none _ | refine LeO.ite ?_ ?_ | refine LeO.bind ?_ (fun _ => ?_)
theorem mizmazeref01_Ends.calls (k : Nat) (A0_0 : Option Addr) (c0_0 : Nat) (l0_0 : List (List Int)) (A1 : Option Addr) (c1 : Nat) (l1 : List Int) (r : List Int) (w : World) (hr0_0 : Kd.C (Kd.slice 3 (Kd.int .i64)) w A0_0 l0_0.length l0_0) (hc0_0 : l0_0.length ≤ c0_0) (hr1 : Kd.C (Kd.int .i64) w A1 l1.length l1) (hc1 : l1.length ≤ c1) (h : mizmazeref01_Ends.f k l0_0 l1 = some r) :
  Calls Try.prog 112 #[.agg #[.slice A0_0 l0_0.length c0_0], .slice A1 l1.length c1] w fun e w' => ∃ v0_ : Value, e = .returned (v0_) ∧ Kd.R (Kd.int .i64) 3 w' w.heap.size (fun _ => True) v0_ r ∧ Below w.heap.size w w' := by
 have hu24 := Try.underlying24
 have HR0_0 := am hr0_0
 have HC0_0 := am hc0_0
 clear hr0_0 hc0_0
 have HR1 := am hr1
 have HC1 := am hc1
 clear hr1 hc1
 have HB := am (Below.refl w.heap.size w)
 have H : (mizmazeref01_Ends.l0 k l1 ([] : List Int) 0 l0_0) = some r := h
 clear h
 have H' := am H
 clear H
 go_enter Try.func112, Try.ntmps112
 go_wp2_with (first | ((with_reducible refine gate_dst (N := 2) rfl ?_); refine box_event zz5 (N := 2) zz5 (cs := #[.slice A0_0 l0_0.length c0_0]) (t := 24) zz6 ?_; intro gb409 hg w3 hbox hb; have BK409 := am (hbox); have GW409 := am ((by rw [hg]; exact (below_size (bw HB.out)) : w.heap.size ≤ gb409)); have GE409 := am ((by rw [hg]; exact (below_size (bw HB.out)) : w.heap.size ≤ gb409)); replace HB := am (below_step (bw HB.out) hb); clear hb hbox hg))
 go_loopg [5, 6] k (fun kq v5 v6 w' => ∃ (x5_1 : List Int) (x6_1 : Int), v6 = .int .i64 x6_1 ∧ Aside0 (mizmazeref01_Ends.l0 kq l1 x5_1 x6_1 l0_0 = some r) ∧ Aside0 (kq ≤ k) ∧ Aside0 (Kd.R (Kd.int .i64) 3 w' w.heap.size (fun _ => True) v5 x5_1) ∧ Aside0 (w'.heap[gb409]? = some (.cells #[(.slice A0_0 l0_0.length c0_0)] 24 (0, 0))) ∧ Aside0 (Below w.heap.size w w'))
 case atStart => exact ⟨(([] : List Int)), (0), zz3, H', ⟨Nat.le_refl _⟩, ⟨by first | exact Kd.R_nil _ _ _ _ _ | exact Kd.N_nil _ _ _ _ _ | exact Kd.V_nil _ _ _ _ _ | exact Kd.Q_nil _ _ _ _ _ | exact Kd.S_nil _ _ _ _ _⟩, ⟨kb BK409.out⟩, ⟨bs HB.out⟩⟩
 case round =>
  clear H'
  (try clear c1); (try clear p2)
  obtain ⟨x5_1, x6_1, rfl, HA, HK1, HO_5, BK409, HB⟩ := hrel
  cases gk with
  | zero => exact absurd HA.out (by simp [mizmazeref01_Ends.l0])
  | succ k1 =>
   have H := HA.out
   clear HA
   simp only [mizmazeref01_Ends.l0] at H
   by_cases c4 : x6_1 < (l0_0.length : Int)
   ·rw [if_pos c4] at H
    have c4b0 : decide (x6_1 < (l0_0.length : Int)) = true := decide_eq_true c4
    clear c4
    replace H := Option.bind_eq_some_iff.mp H
    obtain ⟨t410, A50, H⟩ := H
    replace H : (if x5_1.length < 17592186044416 then (mizmazeref01_Ends.l0 k1 l1 (x5_1 ++ [t410]) (wrap64 (x6_1 + 1)) l0_0) else (none)) = some r := H
    have A5 := am A50
    clear A50
    by_cases c6 : x5_1.length < 17592186044416
    ·rw [if_pos c6] at H
     have LMc6 := am c6
     clear c6
     obtain ⟨y411, hy411⟩ : ∃ y_ : List Int, y_ = (x5_1 ++ [t410]) := ⟨_, rfl⟩
     replace H : (mizmazeref01_Ends.l0 k1 l1 y411 (wrap64 (x6_1 + 1)) l0_0) = some r := by first | (rw [hy411]; with_reducible exact H) | (have H2_ := (Option.bind_some _ _).symm.trans H; rw [hy411]; with_reducible exact H2_) | (have H2_ := (Option.bind_some _ _).symm.trans H; with_reducible exact H2_) | with_reducible exact H | (rw [hy411]; exact H) | exact H
     have Ny411 := am hy411
     clear hy411
     have H' := am H
     clear H
     have hcz7_0 : wr.cell? ⟨gb409, 0, none⟩ = some (.slice A0_0 l0_0.length c0_0) := (blk_cell BK409.out 0).trans rfl
     have hfz7_0 := blk_frozen BK409.out 0
     go_wp2_with (first | ((with_reducible refine gate_callee (f := 131) rfl ?_); refine goesL_ (some 18) rfl rfl Try.func131 (by kernel_rfl) rfl #[.agg #[.slice A0_0 l0_0.length c0_0], .int .i64 x6_1, .slice A1 l1.length c1] rfl zz1 ?_; (with_reducible refine (mizmazeref01_Run.calls k1 _ _ l0_0 x6_1 _ _ l1 t410 _ ?side1 ?side2 ?side3 ?side4 A5.out).mono ?_); (case side1 => exact kc (Kd.C_below HR0_0.out HB.out)); (case side2 => exact HC0_0.out); (case side3 => exact kc (Kd.C_below HR1.out HB.out)); (case side4 => exact HC1.out); rintro e w8 ⟨rfl, hb⟩; refine ⟨_, rfl, ?_⟩; replace HO_5 := am (Kd.R_below (kR HO_5.out) hb); replace BK409 := am (blk_below (g := gb409) (o := .cells #[.slice A0_0 l0_0.length c0_0] 24 (0, 0)) (kb BK409.out) hb); replace HB := am (below_step (bs HB.out) hb); (try clear hb); (try clear hb2); (try clear hk); (try clear hi)) | ((with_reducible refine gate_builtin (b := .append) (xs := #[.tmp 14, .tmp 19]) rfl ?_); at_builtin; refine Kd.R_append (Kd.int .i64) (w0 := w) w.heap.size rfl (.tmp 14) (.tmp 19) 28 3 (.int .i64 0) 8 rfl Try.underlying28 info3 rfl (by decide) (by omega) u5 x5_1 t410 [.int .i64 t410] (fun _ => True) (fun _ => False) rfl rfl ?aP (fun _ hk => hk.elim) ?aF ?aO ?aB ?aS ?aL ?_; (case aP => exact rfl); (case aB => exact (bs HB.out)); (case aF => exact (fun _ _ => trivial)); (case aO => exact (kR HO_5.out)); (case aS => exact (below_size (bs HB.out))); (case aL => have := LMc6.out; omega); intro v412 w9 ho hb hg hat; rw [← Ny411.out] at ho; have n0_ := am (blk_grown (g := gb409) (o := .cells #[.slice A0_0 l0_0.length c0_0] 24 (0, 0)) (kb BK409.out) hg (Kd.R_ne HO_5.out BK409.out (by decide))); have n1_ := am (hb); have n2_ := am (ho); clear BK409; clear HB; clear HO_5; have BK409 := n0_; have HB := n1_; have HO413 := n2_; clear n0_ n1_ n2_; clear ho hb hg hat))
     go_roundg k1
     case measure => have := HK1.out; omega
     case rel => exact ⟨(y411), (wrap64 (x6_1 + 1)), zz3, H', ⟨by have := HK1.out; omega⟩, ⟨kR HO413.out⟩, ⟨kb BK409.out⟩, ⟨bs HB.out⟩⟩
    ·rw [if_neg c6] at H
     exact absurd H (by simp)
   ·rw [if_neg c4] at H
    have c4b0 : decide (x6_1 < (l0_0.length : Int)) = false := decide_eq_false c4
    clear c4
    obtain rfl := Option.some.inj H
    have hcz10_0 : wr.cell? ⟨gb409, 0, none⟩ = some (.slice A0_0 l0_0.length c0_0) := (blk_cell BK409.out 0).trans rfl
    have hfz10_0 := blk_frozen BK409.out 0
    go_wp2
    go_ret
    exact ⟨_, by first | rfl | (simp [errW_none, errW_some] <;> rfl) | (simp [*, errW_none, errW_some] <;> rfl), kR HO_5.out, bs HB.out⟩
end Go.Proofs.Ytjgdalhdiohclaa.Q
end
section
namespace Go.Proofs.Ytjgdalhdiohclaa.Q
attribute [local go_sem] max2_int min2_int max_two min_two max_three min_three max_four min_four
mutual
def mizmazeref01_Image.l0 : Nat → List Int → List Int → List Int → Int → List (List Int) → Option (List Int)
 | 0, _, _, _, _, _ => none
 | k + 1, x1, x7, x8, x10, x415000 => if x10 < (x1.length : Int) then (if 0 ≤ x10 then (if 0 ≤ (rd x1 x10) then (if (rd x1 x10) < (x7.length : Int) then (if x8.length < 17592186044416 then (mizmazeref01_Image.l0 k x1 x7 (x8 ++ [rd x7 (rd x1 x10)]) (wrap64 (x10 + 1)) x415000) else (none)) else (none)) else (none)) else (none)) else (mizmazeref01_Image.l1 k x8 ([] : List Int) 0 x415000)
def mizmazeref01_Image.l1 : Nat → List Int → List Int → Int → List (List Int) → Option (List Int)
 | 0, _, _, _, _ => none
 | k + 1, x8, x9, x11, x415000 => if x11 < (x415000.length : Int) then ((mizmazeref01_Has.f k x8 x11).bind fun t423 => (if t423 = true then (if x9.length < 17592186044416 then (mizmazeref01_Image.l1 k x8 (x9 ++ [x11]) (wrap64 (x11 + 1)) x415000) else (none)) else (mizmazeref01_Image.l1 k x8 x9 (wrap64 (x11 + 1)) x415000))) else (some x9)
end
def mizmazeref01_Image.f (k : Nat) (l0_0 : List (List Int)) (l1 : List Int) (l2 : List Int) : Option (List Int) := (mizmazeref01_Ends.f k l0_0 l2).bind fun t415 => (mizmazeref01_Image.l0 k l1 t415 ([] : List Int) 0 l0_0)
theorem mizmazeref01_Image.mono_l : ∀ k, (∀ y0 y1 y2 y3 y4, LeO (mizmazeref01_Image.l0 k y0 y1 y2 y3 y4) (mizmazeref01_Image.l0 (k + 1) y0 y1 y2 y3 y4)) ∧ (∀ y0 y1 y2 y3, LeO (mizmazeref01_Image.l1 k y0 y1 y2 y3) (mizmazeref01_Image.l1 (k + 1) y0 y1 y2 y3))
 | 0 => ⟨fun _ _ _ _ _ r h => by simp [mizmazeref01_Image.l0] at h, fun _ _ _ _ r h => by simp [mizmazeref01_Image.l1] at h⟩
 | k + 1 => by
  obtain ⟨ih0, ih1⟩ := mizmazeref01_Image.mono_l k
  refine ⟨?_, ?_⟩
  ·intro y0 y1 y2 y3 y4
   unfold mizmazeref01_Image.l0
   with_reducible repeat' first | exact ih0 _ _ _ _ _ | exact ih1 _ _ _ _ | exact mizmazeref01_Ends.mono _ _ _ | exact mizmazeref01_Has.mono _ _ _ | exact LeO.refl _ | exact LeO.none _ | refine LeO.ite ?_ ?_ | refine LeO.bind ?_ (fun _ => ?_)
  ·intro y0 y1 y2 y3
   unfold mizmazeref01_Image.l1
   with_reducible repeat' first | exact ih0 _ _ _ _ _ | exact ih1 _ _ _ _ | exact mizmazeref01_Ends.mono _ _ _ | exact mizmazeref01_Has.mono _ _ _ | exact LeO.refl _ | exact LeO.none _ | refine LeO.ite ?_ ?_ | refine LeO.bind ?_ (fun _ => ?_)
theorem mizmazeref01_Image.mono : ∀ a0 a1 a2 k, LeO (mizmazeref01_Image.f k a0 a1 a2) (mizmazeref01_Image.f (k + 1) a0 a1 a2) := by
 intro a0 a1 a2 k
 obtain ⟨ih0, ih1⟩ := mizmazeref01_Image.mono_l k
 unfold mizmazeref01_Image.f
 with_reducible repeat' first | exact ih0 _ _ _ _ _ | exact ih1 _ _ _ _ | exact mizmazeref01_Ends.mono _ _ _ | exact mizmazeref01_Has.mono _ _ _ | exact LeO.refl _ | exact LeO.none _ | refine LeO.ite ?_ ?_ | refine LeO.bind ?_ (fun _ => ?_)
theorem mizmazeref01_Image.calls (k : Nat) (A0_0 : Option Addr) (c0_0 : Nat) (l0_0 : List (List Int)) (A1 : Option Addr) (c1 : Nat) (l1 : List Int) (A2 : Option Addr) (c2 : Nat) (l2 : List Int) (r : List Int) (w : World) (hr0_0 : Kd.C (Kd.slice 3 (Kd.int .i64)) w A0_0 l0_0.length l0_0) (hc0_0 : l0_0.length ≤ c0_0) (hr1 : Kd.C (Kd.int .i64) w A1 l1.length l1) (hc1 : l1.length ≤ c1) (hr2 : Kd.C (Kd.int .i64) w A2 l2.length l2) (hc2 : l2.length ≤ c2) (h : mizmazeref01_Image.f k l0_0 l1 l2 = some r) :
  Calls Try.prog 91 #[.agg #[.slice A0_0 l0_0.length c0_0], .slice A1 l1.length c1, .slice A2 l2.length c2] w fun e w' => ∃ v0_ : Value, e = .returned (v0_) ∧ Kd.R (Kd.int .i64) 3 w' w.heap.size (fun _ => True) v0_ r ∧ Below w.heap.size w w' := by
 have hu24 := Try.underlying24
 have HR0_0 := am hr0_0
 have HC0_0 := am hc0_0
 clear hr0_0 hc0_0
 have HR1 := am hr1
 have HC1 := am hc1
 clear hr1 hc1
 have HR2 := am hr2
 have HC2 := am hc2
 clear hr2 hc2
 have HB := am (Below.refl w.heap.size w)
 have H : ((mizmazeref01_Ends.f k l0_0 l2).bind fun t415 => (mizmazeref01_Image.l0 k l1 t415 ([] : List Int) 0 l0_0)) = some r := h
 clear h
 replace H := Option.bind_eq_some_iff.mp H
 obtain ⟨t415, A40, H⟩ := H
 replace H : (mizmazeref01_Image.l0 k l1 t415 ([] : List Int) 0 l0_0) = some r := H
 have A4 := am A40
 clear A40
 have H' := am H
 clear H
 go_enter Try.func91, Try.ntmps91
 go_wp2_with (first | ((with_reducible refine gate_dst (N := 3) rfl ?_); refine box_event zz5 (N := 3) zz5 (cs := #[.slice A0_0 l0_0.length c0_0]) (t := 24) zz6 ?_; intro gb414 hg w5 hbox hb; have BK414 := am (hbox); have GW414 := am ((by rw [hg]; exact (below_size (bw HB.out)) : w.heap.size ≤ gb414)); have GE414 := am ((by rw [hg]; exact (below_size (bw HB.out)) : w.heap.size ≤ gb414)); replace HB := am (below_step (bw HB.out) hb); clear hb hbox hg; have hcz6_0 : w5.cell? ⟨gb414, 0, none⟩ = some (.slice A0_0 l0_0.length c0_0) := (blk_cell BK414.out 0).trans rfl; have hfz6_0 := blk_frozen BK414.out 0) | ((with_reducible refine gate_callee (f := 112) rfl ?_); refine goesL_ (some 14) rfl rfl Try.func112 (by kernel_rfl) rfl #[.agg #[.slice A0_0 l0_0.length c0_0], .slice A2 l2.length c2] rfl zz1 ?_; (with_reducible refine (mizmazeref01_Ends.calls k _ _ l0_0 _ _ l2 t415 _ ?side1 ?side2 ?side3 ?side4 A4.out).mono ?_); (case side1 => exact kc (Kd.C_below HR0_0.out HB.out)); (case side2 => exact HC0_0.out); (case side3 => exact kc (Kd.C_below HR2.out HB.out)); (case side4 => exact HC2.out); rintro e w7 ⟨v416, rfl, ho0, hb⟩; refine ⟨_, rfl, ?_⟩; have HO417 := am (Kd.R_lower ho0 (below_size (bs HB.out))); replace BK414 := am (blk_below (g := gb414) (o := .cells #[.slice A0_0 l0_0.length c0_0] 24 (0, 0)) (kb BK414.out) hb); replace HB := am (below_step (bs HB.out) hb); (try clear hb); (try clear hb2); (try clear hk); (try clear hi); (try clear ho0)))
 go_loopg [8, 10] k (fun kq v8 v10 w' => ∃ (x8_1 : List Int) (x10_1 : Int), v10 = .int .i64 x10_1 ∧ Aside0 (mizmazeref01_Image.l0 kq l1 t415 x8_1 x10_1 l0_0 = some r) ∧ Aside0 (kq ≤ k) ∧ Aside0 (Kd.R (Kd.int .i64) 3 w' w.heap.size (fun k_ => some k_ ≠ (v8 : Value).ownBlock) v416 t415) ∧ Aside0 (Kd.R (Kd.int .i64) 3 w' w.heap.size (fun k_ => some k_ ≠ (v416 : Value).ownBlock) v8 x8_1) ∧ Aside0 (w'.heap[gb414]? = some (.cells #[(.slice A0_0 l0_0.length c0_0)] 24 (0, 0))) ∧ Aside0 (Below w.heap.size w w'))
 case atStart => exact ⟨(([] : List Int)), (0), zz3, H', ⟨Nat.le_refl _⟩, ⟨kR (Kd.R_mono HO417.out (fun _ hk => (by simp [Value.ownBlock])))⟩, ⟨by first | exact Kd.R_nil _ _ _ _ _ | exact Kd.N_nil _ _ _ _ _ | exact Kd.V_nil _ _ _ _ _ | exact Kd.Q_nil _ _ _ _ _ | exact Kd.S_nil _ _ _ _ _⟩, ⟨kb BK414.out⟩, ⟨bs HB.out⟩⟩
 case round =>
  clear H'
  (try clear c1); (try clear c2); (try clear p2); (try clear hcz6_0); (try clear hfz6_0)
  obtain ⟨x8_1, x10_1, rfl, HA, HK1, HO_7, HO_8, BK414, HB⟩ := hrel
  cases gk with
  | zero => exact absurd HA.out (by simp [mizmazeref01_Image.l0])
  | succ k1 =>
   have H := HA.out
   clear HA
   simp only [mizmazeref01_Image.l0] at H
   by_cases c8 : x10_1 < (l1.length : Int)
   ·rw [if_pos c8] at H
    have c8b0 : decide (x10_1 < (l1.length : Int)) = true := decide_eq_true c8
    clear c8
    by_cases c9 : 0 ≤ x10_1
    ·rw [if_pos c9] at H
     have c9b0 : decide (0 ≤ x10_1) = true := decide_eq_true c9
     clear c9
     by_cases c10 : 0 ≤ (rd l1 x10_1)
     ·rw [if_pos c10] at H
      have c10b0 : decide (0 ≤ (rd l1 x10_1)) = true := decide_eq_true c10
      clear c10
      by_cases c11 : (rd l1 x10_1) < (t415.length : Int)
      ·rw [if_pos c11] at H
       have c11b0 : decide ((rd l1 x10_1) < (t415.length : Int)) = true := decide_eq_true c11
       clear c11
       by_cases c12 : x8_1.length < 17592186044416
       ·rw [if_pos c12] at H
        have LMc12 := am c12
        clear c12
        obtain ⟨y420, hy420⟩ : ∃ y_ : List Int, y_ = (x8_1 ++ [rd t415 (rd l1 x10_1)]) := ⟨_, rfl⟩
        replace H : (mizmazeref01_Image.l0 k1 l1 t415 y420 (wrap64 (x10_1 + 1)) l0_0) = some r := by first | (rw [hy420]; with_reducible exact H) | (have H2_ := (Option.bind_some _ _).symm.trans H; rw [hy420]; with_reducible exact H2_) | (have H2_ := (Option.bind_some _ _).symm.trans H; with_reducible exact H2_) | with_reducible exact H | (rw [hy420]; exact H) | exact H
        have Ny420 := am hy420
        clear hy420
        have H' := am H
        clear H
        have p418 : 0 ≤ (x10_1 : Int) := od zz2
        have q418 : x10_1 < (l1.length : Int) := od zz2
        obtain ⟨ad418, e418, hx418_0⟩ := Kd.at_int HR1.out x10_1 p418 q418
        cases e418
        replace hx418_0 := (HB.out.cell (World.block_lt_of_cell? w _ hx418_0)).trans hx418_0
        replace p418 := eq_true p418
        replace q418 := eq_true q418
        obtain ⟨Ao13, co13, eo13⟩ := Kd.R_slice HO_7.out
        subst eo13
        have p419 : 0 ≤ ((rd l1 x10_1) : Int) := od zz2
        have q419 : (rd l1 x10_1) < (t415.length : Int) := od zz2
        obtain ⟨ad419, e419, hx419_0⟩ := Kd.at_int (Kd.R_reads' HO_7.out).2.2 (rd l1 x10_1) p419 q419
        cases e419
        replace p419 := eq_true p419
        replace q419 := eq_true q419
        go_wp2_with (first | ((with_reducible refine gate_builtin (b := .append) (xs := #[.tmp 21, .tmp 29]) rfl ?_); at_builtin; refine Kd.R_append (Kd.int .i64) (w0 := w) w.heap.size rfl (.tmp 21) (.tmp 29) 28 3 (.int .i64 0) 8 rfl Try.underlying28 info3 rfl (by decide) (by omega) u8 x8_1 (rd t415 (rd l1 x10_1)) [.int .i64 (rd t415 (rd l1 x10_1))] (fun k_ => some k_ ≠ (.slice (some ad419) t415.length co13 : Value).ownBlock) (fun _ => False) rfl rfl ?aP (fun _ hk => hk.elim) ?aF ?aO ?aB ?aS ?aL ?_; (case aP => exact rfl); (case aB => exact (bs HB.out)); (case aF => exact (fun k_ hk => Kd.fresh' (Kd.R_lt (kR HO_7.out)) k_ hk)); (case aO => exact (kR HO_8.out)); (case aS => exact (below_size (bs HB.out))); (case aL => have := LMc12.out; omega); intro v421 w14 ho hb hg hat; rw [← Ny420.out] at ho; have n0_ := am (Kd.R_after (ok := (fun _ => True)) (kR (Kd.R_mono HO_7.out (fun _ hk => ⟨trivial, hk⟩))) hg hat); have n1_ := am (blk_grown (g := gb414) (o := .cells #[.slice A0_0 l0_0.length c0_0] 24 (0, 0)) (kb BK414.out) hg (Kd.R_ne HO_8.out BK414.out (by decide))); have n2_ := am (hb); have n3_ := am (ho); clear HO_7; clear BK414; clear HB; clear HO_8; have HO_7 := n0_; have BK414 := n1_; have HB := n2_; have HO422 := n3_; clear n0_ n1_ n2_ n3_; clear ho hb hg hat))
        go_roundg k1
        case measure => have := HK1.out; omega
        case rel => exact ⟨(y420), (wrap64 (x10_1 + 1)), zz3, H', ⟨by have := HK1.out; omega⟩, ⟨kR (Kd.R_mono HO_7.out (fun _ hk => hk.2))⟩, ⟨kR HO422.out⟩, ⟨kb BK414.out⟩, ⟨bs HB.out⟩⟩
       ·rw [if_neg c12] at H
        exact absurd H (by simp)
      ·rw [if_neg c11] at H
       exact absurd H (by simp)
     ·rw [if_neg c10] at H
      exact absurd H (by simp)
    ·rw [if_neg c9] at H
     exact absurd H (by simp)
   ·rw [if_neg c8] at H
    have c8b0 : decide (x10_1 < (l1.length : Int)) = false := decide_eq_false c8
    clear c8
    have H' := am H
    clear H
    go_wp2
    go_loopg [9, 11] k1 (fun kq v9 v11 w' => ∃ (x9_2 : List Int) (x11_2 : Int), v11 = .int .i64 x11_2 ∧ Aside0 (mizmazeref01_Image.l1 kq x8_1 x9_2 x11_2 l0_0 = some r) ∧ Aside0 (kq ≤ k1) ∧ Aside0 (Kd.R (Kd.int .i64) 3 w' w.heap.size (fun k_ => some k_ ≠ (v9 : Value).ownBlock) u8 x8_1) ∧ Aside0 (Kd.R (Kd.int .i64) 3 w' w.heap.size (fun k_ => some k_ ≠ (u8 : Value).ownBlock) v9 x9_2) ∧ Aside0 (w'.heap[gb414]? = some (.cells #[(.slice A0_0 l0_0.length c0_0)] 24 (0, 0))) ∧ Aside0 (Below w.heap.size w w'))
    case atStart => exact ⟨(([] : List Int)), (0), zz3, H', ⟨Nat.le_refl _⟩, ⟨kR (Kd.R_mono HO_8.out (fun _ hk => (by simp [Value.ownBlock])))⟩, ⟨by first | exact Kd.R_nil _ _ _ _ _ | exact Kd.N_nil _ _ _ _ _ | exact Kd.V_nil _ _ _ _ _ | exact Kd.Q_nil _ _ _ _ _ | exact Kd.S_nil _ _ _ _ _⟩, ⟨kb BK414.out⟩, ⟨bs HB.out⟩⟩
    case round =>
     clear H'
     (try clear c1); (try clear c2); (try clear p2); (try clear p4); (try clear q4); (try clear hx4); (try clear p6); (try clear c8); (try clear c8b0); (try clear c9); (try clear c9b0); (try clear c10); (try clear c10b0); (try clear c11); (try clear c11b0); (try clear c12); (try clear hcz6_0); (try clear hfz6_0); (try clear hx418_0); (try clear hx419_0); (try clear p2); (try clear p418); (try clear p419); (try clear q418); (try clear q419)
     obtain ⟨x9_2, x11_2, rfl, HA, HK2, HO_8, HO_9, BK414, HB⟩ := hrel
     cases gk with
     | zero => exact absurd HA.out (by simp [mizmazeref01_Image.l1])
     | succ k2 =>
      have H := HA.out
      clear HA
      simp only [mizmazeref01_Image.l1] at H
      by_cases c15 : x11_2 < (l0_0.length : Int)
      ·rw [if_pos c15] at H
       have c15b0 : decide (x11_2 < (l0_0.length : Int)) = true := decide_eq_true c15
       clear c15
       replace H := Option.bind_eq_some_iff.mp H
       obtain ⟨t423, A160, H⟩ := H
       replace H : (if t423 = true then (if x9_2.length < 17592186044416 then (mizmazeref01_Image.l1 k2 x8_1 (x9_2 ++ [x11_2]) (wrap64 (x11_2 + 1)) l0_0) else (none)) else (mizmazeref01_Image.l1 k2 x8_1 x9_2 (wrap64 (x11_2 + 1)) l0_0)) = some r := H
       have A16 := am A160
       clear A160
       by_cases c17 : t423 = true
       ·subst c17
        have H1 : (if x9_2.length < 17592186044416 then (mizmazeref01_Image.l1 k2 x8_1 (x9_2 ++ [x11_2]) (wrap64 (x11_2 + 1)) l0_0) else (none)) = some r := by rw [if_pos rfl] at H; exact H
        clear H
        have H := H1
        clear H1
        by_cases c18 : x9_2.length < 17592186044416
        ·rw [if_pos c18] at H
         have LMc18 := am c18
         clear c18
         obtain ⟨y424, hy424⟩ : ∃ y_ : List Int, y_ = (x9_2 ++ [x11_2]) := ⟨_, rfl⟩
         replace H : (mizmazeref01_Image.l1 k2 x8_1 y424 (wrap64 (x11_2 + 1)) l0_0) = some r := by first | (rw [hy424]; with_reducible exact H) | (have H2_ := (Option.bind_some _ _).symm.trans H; rw [hy424]; with_reducible exact H2_) | (have H2_ := (Option.bind_some _ _).symm.trans H; with_reducible exact H2_) | with_reducible exact H | (rw [hy424]; exact H) | exact H
         have Ny424 := am hy424
         clear hy424
         have H' := am H
         clear H
         have hcz19_0 : wr.cell? ⟨gb414, 0, none⟩ = some (.slice A0_0 l0_0.length c0_0) := (blk_cell BK414.out 0).trans rfl
         have hfz19_0 := blk_frozen BK414.out 0
         obtain ⟨Ao20, co20, eo20⟩ := Kd.R_slice HO_8.out
         subst eo20
         go_wp2_with (first | ((with_reducible refine gate_callee (f := 36) rfl ?_); refine goesL_ (some 40) rfl rfl Try.func36 (by kernel_rfl) rfl #[.slice Ao20 x8_1.length co20, .int .i64 x11_2] rfl zz1 ?_; (with_reducible refine (mizmazeref01_Has.calls k2 _ _ x8_1 x11_2 true _ ?side1 ?side2 A16.out).mono ?_); (case side1 => repeat (first | exact (Kd.R_reads' HO_8.out).2.2 | (with_reducible refine Kd.C_alloc ?_ _) | (with_reducible refine Kd.C_drewN ?_ _) | (with_reducible refine Kd.C_drew ?_))); (case side2 => exact (Kd.R_reads' HO_8.out).2.1); rintro e w' ⟨rfl, ⟨nd, rfl⟩⟩; refine ⟨_, rfl, ?_⟩) | ((with_reducible refine gate_builtin (b := .append) (xs := #[.tmp 41, .tmp 43]) rfl ?_); at_builtin; refine Kd.R_append (Kd.int .i64) (w0 := w) w.heap.size rfl (.tmp 41) (.tmp 43) 28 3 (.int .i64 0) 8 rfl Try.underlying28 info3 rfl (by decide) (by omega) u9 x9_2 x11_2 [.int .i64 x11_2] (fun k_ => some k_ ≠ (.slice Ao20 x8_1.length co20 : Value).ownBlock) (fun _ => False) rfl rfl ?aP (fun _ hk => hk.elim) ?aF ?aO ?aB ?aS ?aL ?_; (case aP => exact rfl); (case aB => exact (bs HB.out)); (case aF => exact (fun k_ hk => Kd.fresh' (Kd.R_lt (kR HO_8.out)) k_ hk)); (case aO => exact (kR HO_9.out)); (case aS => exact (below_size (bs HB.out))); (case aL => have := LMc18.out; omega); intro v425 w21 ho hb hg hat; rw [← Ny424.out] at ho; have n0_ := am (Kd.R_after (ok := (fun _ => True)) (kR (Kd.R_mono HO_8.out (fun _ hk => ⟨trivial, hk⟩))) hg hat); have n1_ := am (blk_grown (g := gb414) (o := .cells #[.slice A0_0 l0_0.length c0_0] 24 (0, 0)) (kb BK414.out) hg (Kd.R_ne HO_9.out BK414.out (by decide))); have n2_ := am (hb); have n3_ := am (ho); clear HO_8; clear BK414; clear HB; clear HO_9; have HO_8 := n0_; have BK414 := n1_; have HB := n2_; have HO426 := n3_; clear n0_ n1_ n2_ n3_; clear ho hb hg hat))
         go_roundg k2
         case measure => have := HK1.out; have := HK2.out; omega
         case rel => exact ⟨(y424), (wrap64 (x11_2 + 1)), zz3, H', ⟨by have := HK1.out; have := HK2.out; omega⟩, ⟨kR (Kd.R_mono HO_8.out (fun _ hk => hk.2))⟩, ⟨kR HO426.out⟩, ⟨kb BK414.out⟩, ⟨bs HB.out⟩⟩
        ·rw [if_neg c18] at H
         exact absurd H (by simp)
       ·replace c17 := Bool.eq_false_iff.mpr c17
        subst c17
        have H1 : (mizmazeref01_Image.l1 k2 x8_1 x9_2 (wrap64 (x11_2 + 1)) l0_0) = some r := by rw [if_neg (show ¬ (false = true) by decide)] at H; exact H
        clear H
        have H := H1
        clear H1
        have H' := am H
        clear H
        have hcz22_0 : wr.cell? ⟨gb414, 0, none⟩ = some (.slice A0_0 l0_0.length c0_0) := (blk_cell BK414.out 0).trans rfl
        have hfz22_0 := blk_frozen BK414.out 0
        obtain ⟨Ao23, co23, eo23⟩ := Kd.R_slice HO_8.out
        subst eo23
        go_wp2_with (first | ((with_reducible refine gate_callee (f := 36) rfl ?_); refine goesL_ (some 40) rfl rfl Try.func36 (by kernel_rfl) rfl #[.slice Ao23 x8_1.length co23, .int .i64 x11_2] rfl zz1 ?_; (with_reducible refine (mizmazeref01_Has.calls k2 _ _ x8_1 x11_2 false _ ?side1 ?side2 A16.out).mono ?_); (case side1 => repeat (first | exact (Kd.R_reads' HO_8.out).2.2 | (with_reducible refine Kd.C_alloc ?_ _) | (with_reducible refine Kd.C_drewN ?_ _) | (with_reducible refine Kd.C_drew ?_))); (case side2 => exact (Kd.R_reads' HO_8.out).2.1); rintro e w' ⟨rfl, ⟨nd, rfl⟩⟩; refine ⟨_, rfl, ?_⟩))
        go_roundg k2
        case measure => have := HK1.out; have := HK2.out; omega
        case rel => exact ⟨(x9_2), (wrap64 (x11_2 + 1)), zz3, H', ⟨by have := HK1.out; have := HK2.out; omega⟩, ⟨kR HO_8.out⟩, ⟨kR HO_9.out⟩, ⟨kb BK414.out⟩, ⟨bs HB.out⟩⟩
      ·rw [if_neg c15] at H
       have c15b0 : decide (x11_2 < (l0_0.length : Int)) = false := decide_eq_false c15
       clear c15
       obtain rfl := Option.some.inj H
       have hcz24_0 : wr.cell? ⟨gb414, 0, none⟩ = some (.slice A0_0 l0_0.length c0_0) := (blk_cell BK414.out 0).trans rfl
       have hfz24_0 := blk_frozen BK414.out 0
       go_wp2
       go_ret
       exact ⟨_, by first | rfl | (simp [errW_none, errW_some] <;> rfl) | (simp [*, errW_none, errW_some] <;> rfl), kR (Kd.R_mono HO_9.out (fun _ hk => trivial)), bs HB.out⟩
end Go.Proofs.Ytjgdalhdiohclaa.Q
end
section
namespace Go.Proofs.Ytjgdalhdiohclaa.Q
attribute [local go_sem] max2_int min2_int max_two min_two max_three min_three max_four min_four
def mizmazeref03_Resets.f (k : Nat) (l0_0 : List (List Int)) (l1 : List Int) : Option (Bool) := (mizmazeref01_Word.f k l0_0 l1).bind fun t428 => (if t428 = true then ((mizmazeref01_All.f k (l0_0.length : Int)).bind fun t429 => ((mizmazeref01_Image.f k l0_0 t429 l1).bind fun t432 => (some ((t432.length : Int) == 1)))) else (some false))
theorem mizmazeref03_Resets.mono : ∀ a0 a1 k, LeO (mizmazeref03_Resets.f k a0 a1) (mizmazeref03_Resets.f (k + 1) a0 a1) := by
 intro a0 a1 k
 unfold mizmazeref03_Resets.f
 with_reducible repeat' first | exact mizmazeref01_All.mono _ _ | exact mizmazeref01_Image.mono _ _ _ _ | exact mizmazeref01_Word.mono _ _ _ | exact LeO.refl _ | exact LeO.none _ | refine LeO.ite ?_ ?_ | refine LeO.bind ?_ (fun _ => ?_)
def mizmazeref03_Resets.T1 : Bool × List (List Nat × List Nat) := (true, [([], []), ([], []), ([0, 1], [0, 1]), ([2, 2], [2]), ([3], [3]), ([3], [3]), ([5, 3], [3, 5]), ([6, 3], [3, 6]), ([7, 3, 3], [3, 7]), ([3], [3]), ([4, 8, 9, 8, 3], [3, 4, 8, 9]), ([10, 3], [3, 10]), ([11, 3], [3, 11]), ([3, 12], [3, 12]), ([13, 10, 0, 1, 2, 3, 4, 5, 6, 7, 8, 9, 10, 11, 12, 13], [13])])
def mizmazeref03_Resets.B1 : List Nat := [0, 0, 3, 7, 15, 15, 47, 111, 239, 15, 1023, 2047, 4095, 8191, 16383]
theorem mizmazeref03_Resets.tab1 : rtab .any (opsOf Try.f50 1) = mizmazeref03_Resets.T1 := by kernel_rfl
theorem mizmazeref03_Resets.bits1 : waitsOk mizmazeref03_Resets.T1.2 mizmazeref03_Resets.B1 = true := by kernel_rfl
def rr0 : Array Bool := #[false, true, false, false, false, false, false, false, false, false, false, false, false, false, false]
def rr1 : Array Bool := #[true, true, false, false, false, false, false, false, false, false, false, false, false, false, false]
def rr2 : Array Bool := #[true, true, true, false, false, false, false, false, false, false, false, false, false, false, false]
def rr3 : Array Bool := #[true, true, true, true, false, false, false, false, false, false, false, false, false, false, false]
def rr4 : Array Bool := #[true, true, true, true, false, true, false, false, false, false, false, false, false, false, false]
def rr5 : Array Bool := #[true, true, true, true, false, true, false, false, false, true, false, false, false, false, false]
def rr6 : Array Bool := #[true, true, true, true, true, true, false, false, false, true, false, false, false, false, false]
def rr7 : Array Bool := #[true, true, true, true, true, true, true, false, false, true, false, false, false, false, false]
def rr8 : Array Bool := #[true, true, true, true, true, true, true, true, false, true, false, false, false, false, false]
def rr9 : Array Bool := #[true, true, true, true, true, true, true, true, true, true, false, false, false, false, false]
def rr10 : Array Bool := #[true, true, true, true, true, true, true, true, true, true, true, false, false, false, false]
def rr11 : Array Bool := #[true, true, true, true, true, true, true, true, true, true, true, true, false, false, false]
def rr12 : Array Bool := #[true, true, true, true, true, true, true, true, true, true, true, true, true, false, false]
def rr13 : Array Bool := #[true, true, true, true, true, true, true, true, true, true, true, true, true, true, false]
def rr14 : Array Bool := #[true, true, true, true, true, true, true, true, true, true, true, true, true, true, true]
def rr15 : Array Bool := #[true, true, true, true, true, false, false, false, false, false, false, false, false, false, false]
def rr16 : Array Bool := #[true, true, true, true, true, true, false, false, false, false, false, false, false, false, false]
def rr17 : Array Bool := #[true, true, true, true, true, true, true, false, false, false, false, false, false, false, false]
def rr18 : Array Bool := #[true, true, true, true, true, true, true, true, false, false, false, false, false, false, false]
def rr19 : Array Bool := #[true, true, true, true, true, true, true, true, true, false, false, false, false, false, false]
theorem mizmazeref03_Resets.calls (k : Nat) (A0_0 : Option Addr) (c0_0 : Nat) (l0_0 : List (List Int)) (A1 : Option Addr) (c1 : Nat) (l1 : List Int) (r : Bool) (w : World) (hr0_0 : Kd.C (Kd.slice 3 (Kd.int .i64)) w A0_0 l0_0.length l0_0) (hc0_0 : l0_0.length ≤ c0_0) (hr1 : Kd.C (Kd.int .i64) w A1 l1.length l1) (hc1 : l1.length ≤ c1) (h : mizmazeref03_Resets.f k l0_0 l1 = some r) :
    Calls Try.prog 50 #[.agg #[.slice A0_0 l0_0.length c0_0], .slice A1 l1.length c1] w fun e w' => e = .returned (.bool r) ∧ Below w.heap.size w w' := by
 have hu24 := Try.underlying24
 have HR0_0 := am hr0_0
 have HC0_0 := am hc0_0
 clear hr0_0 hc0_0
 have HR1 := am hr1
 have HC1 := am hc1
 clear hr1 hc1
 have HB := am (Below.refl w.heap.size w)
 have H : ((mizmazeref01_Word.f k l0_0 l1).bind fun t428 => (if t428 = true then ((mizmazeref01_All.f k (l0_0.length : Int)).bind fun t429 => ((mizmazeref01_Image.f k l0_0 t429 l1).bind fun t432 => (some ((t432.length : Int) == 1)))) else (some false))) = some r := h
 clear h
 replace H := Option.bind_eq_some_iff.mp H
 obtain ⟨t428, A30, H⟩ := H
 replace H : (if t428 = true then ((mizmazeref01_All.f k (l0_0.length : Int)).bind fun t429 => ((mizmazeref01_Image.f k l0_0 t429 l1).bind fun t432 => (some ((t432.length : Int) == 1)))) else (some false)) = some r := H
 have A3 := am A30
 clear A30
 by_cases c4 : t428 = true
 rotate_left
 ·replace c4 := Bool.eq_false_iff.mpr c4
  subst c4
  have H1 : (some false) = some r := by rw [if_neg (show ¬ (false = true) by decide)] at H; exact H
  clear H
  have H := H1
  clear H1
  obtain rfl := Option.some.inj H
  go_enter Try.func50, Try.ntmps50
  try go_wp2_with (first | ((with_reducible refine gate_dst (N := 2) rfl ?_); (try (refine gate_guard (by rfl) ?_; dsimp only)); refine box_event zz5 (N := 2) zz5 (cs := #[.slice A0_0 l0_0.length c0_0]) (t := 24) zz6 ?_; intro gb427 hg w14 hbox hb; have BK427 := am (hbox); have GW427 := am ((by rw [hg]; exact (below_size (bw HB.out)) : w.heap.size ≤ gb427)); have GE427 := am ((by rw [hg]; exact (below_size (bw HB.out)) : w.heap.size ≤ gb427)); replace HB := am (below_step (bw HB.out) hb); clear hb hbox hg))
  replace BK427 := am (blk_drew BK427.out)
  replace HB := am (bd HB.out)
  refine start_ (n := 15) (S := fun w' => w'.cell? ⟨gb427, 0, none⟩ = some (.slice A0_0 l0_0.length c0_0)) (ds := []) #[false, false, false, false, false, false, false, false, false, false, false, false, false, false, false] (by kernel_rfl) rfl rfl ((blk_cell BK427.out 0).trans rfl) (fun hHeld => ?_); refine with_tabW mizmazeref03_Resets.tab1 mizmazeref03_Resets.bits1 (fun HT_ HW_ => ?_)
  generalize w14.drew = w15 at BK427 HB hHeld ⊢
  refine pv_ 1 6 rr0 HT_ ?_
  refine tv_ 0 5 rr1 HT_ HW_ hHeld ?_
  refine one_ (i := 2) (N := some 7) rr2 rfl rfl (one_of HT_.out (by kernel_rfl)) (by decide) (fun K hK => ?_)
  refine goes_ Try.func34 (by kernel_rfl) rfl #[.agg #[.slice A0_0 l0_0.length c0_0], .slice A1 l1.length c1] (by rfl) rfl rfl zz1 ?_
  with_reducible refine (mizmazeref01_Word.calls k _ _ l0_0 _ _ l1 false _ ?side1 ?side2 ?side3 ?side4 A3.out).mono ?_
  (case side1 => exact kc (Kd.C_below HR0_0.out HB.out))
  (case side2 => exact HC0_0.out)
  (case side3 => exact kc (Kd.C_below HR1.out HB.out))
  (case side4 => exact HC1.out)
  rintro e w16 ⟨rfl, hb⟩
  refine ⟨_, rfl, ?_⟩
  replace BK427 := am (blk_below (g := gb427) (o := .cells #[.slice A0_0 l0_0.length c0_0] 24 (0, 0)) (kb BK427.out) hb)
  replace HB := am (below_step (bs HB.out) hb)
  (try clear hb)
  (try clear hb2)
  (try clear hk)
  (try clear hi)
  refine hK.out _ _ ((blk_cell BK427.out 0).trans rfl) (fun hHeld => ?_)
  clear hK K
  refine nm_ 7 ?_
  refine pv_ 3 8 rr3 HT_ ?_
  refine pu_ 4 9 rr15 HT_ ?_
  refine pu_ 5 10 rr16 HT_ ?_
  refine pu_ 6 11 rr17 HT_ ?_
  refine pu_ 7 12 rr18 HT_ ?_
  refine pu_ 8 13 rr19 HT_ ?_
  refine pu_ 9 14 rr9 HT_ ?_
  refine pu_ 10 15 rr10 HT_ ?_
  refine pu_ 11 16 rr11 HT_ ?_
  refine pu_ 12 17 rr12 HT_ ?_
  refine pv_ 13 18 rr13 HT_ ?_
  refine pv_ 14 4 rr14 HT_ ?_
  refine done_ (done_of HT_.out (by kernel_rfl)) ?_
  try go_wp2
  go_ret
  exact ⟨by first | rfl | (simp [errW_none, errW_some] <;> rfl) | (simp [*, errW_none, errW_some] <;> rfl), bs HB.out⟩
 subst c4
 have H1 : ((mizmazeref01_All.f k (l0_0.length : Int)).bind fun t429 => ((mizmazeref01_Image.f k l0_0 t429 l1).bind fun t432 => (some ((t432.length : Int) == 1)))) = some r := by rw [if_pos rfl] at H; exact H
 clear H
 have H := H1
 clear H1
 replace H := Option.bind_eq_some_iff.mp H
 obtain ⟨t429, A50, H⟩ := H
 replace H : ((mizmazeref01_Image.f k l0_0 t429 l1).bind fun t432 => (some ((t432.length : Int) == 1))) = some r := H
 have A5 := am A50
 clear A50
 replace H := Option.bind_eq_some_iff.mp H
 obtain ⟨t432, A60, H⟩ := H
 replace H : (some ((t432.length : Int) == 1)) = some r := H
 have A6 := am A60
 clear A60
 obtain rfl := Option.some.inj H
 go_enter Try.func50, Try.ntmps50
 try go_wp2_with (first | ((with_reducible refine gate_dst (N := 2) rfl ?_); (try (refine gate_guard (by rfl) ?_; dsimp only)); refine box_event zz5 (N := 2) zz5 (cs := #[.slice A0_0 l0_0.length c0_0]) (t := 24) zz6 ?_; intro gb427 hg w7 hbox hb; have BK427 := am (hbox); have GW427 := am ((by rw [hg]; exact (below_size (bw HB.out)) : w.heap.size ≤ gb427)); have GE427 := am ((by rw [hg]; exact (below_size (bw HB.out)) : w.heap.size ≤ gb427)); replace HB := am (below_step (bw HB.out) hb); clear hb hbox hg))
 replace BK427 := am (blk_drew BK427.out)
 replace HB := am (bd HB.out)
 refine start_ (n := 15) (S := fun w' => w'.cell? ⟨gb427, 0, none⟩ = some (.slice A0_0 l0_0.length c0_0)) (ds := []) #[false, false, false, false, false, false, false, false, false, false, false, false, false, false, false] (by kernel_rfl) rfl rfl ((blk_cell BK427.out 0).trans rfl) (fun hHeld => ?_); refine with_tabW mizmazeref03_Resets.tab1 mizmazeref03_Resets.bits1 (fun HT_ HW_ => ?_)
 generalize w7.drew = w8 at BK427 HB hHeld ⊢
 refine pv_ 1 6 rr0 HT_ ?_
 refine tv_ 0 5 rr1 HT_ HW_ hHeld ?_
 refine one_ (i := 2) (N := some 7) rr2 rfl rfl (one_of HT_.out (by kernel_rfl)) (by decide) (fun K hK => ?_)
 refine goes_ Try.func34 (by kernel_rfl) rfl #[.agg #[.slice A0_0 l0_0.length c0_0], .slice A1 l1.length c1] (by rfl) rfl rfl zz1 ?_
 with_reducible refine (mizmazeref01_Word.calls k _ _ l0_0 _ _ l1 true _ ?side1 ?side2 ?side3 ?side4 A3.out).mono ?_
 (case side1 => exact kc (Kd.C_below HR0_0.out HB.out))
 (case side2 => exact HC0_0.out)
 (case side3 => exact kc (Kd.C_below HR1.out HB.out))
 (case side4 => exact HC1.out)
 rintro e w9 ⟨rfl, hb⟩
 refine ⟨_, rfl, ?_⟩
 replace BK427 := am (blk_below (g := gb427) (o := .cells #[.slice A0_0 l0_0.length c0_0] 24 (0, 0)) (kb BK427.out) hb)
 replace HB := am (below_step (bs HB.out) hb)
 (try clear hb)
 (try clear hb2)
 (try clear hk)
 (try clear hi)
 refine hK.out _ _ ((blk_cell BK427.out 0).trans rfl) (fun hHeld => ?_)
 clear hK K
 refine nm_ 7 ?_
 refine pv_ 3 8 rr3 HT_ ?_
 refine pv_ 5 10 rr4 HT_ ?_
 refine pv_ 9 14 rr5 HT_ ?_
 refine tv_ 4 9 rr6 HT_ HW_ hHeld ?_
 refine tv_ 6 11 rr7 HT_ HW_ hHeld ?_
 refine pv_ 7 12 rr8 HT_ ?_
 refine one_ (i := 8) (N := some 13) rr9 rfl rfl (one_of HT_.out (by kernel_rfl)) (by decide) (fun K hK => ?_)
 refine goes_ Try.func40 (by kernel_rfl) rfl #[.int .i64 (l0_0.length : Int)] (by rfl) rfl rfl zz1 ?_
 with_reducible refine (mizmazeref01_All.calls k (l0_0.length : Int) t429 _ A5.out).mono ?_
 rintro e w10 ⟨v430, rfl, ho0, hb⟩
 refine ⟨_, rfl, ?_⟩
 have HO431 := am (Kd.R_lower ho0 (below_size (bs HB.out)))
 replace BK427 := am (blk_below (g := gb427) (o := .cells #[.slice A0_0 l0_0.length c0_0] 24 (0, 0)) (kb BK427.out) hb)
 replace HB := am (below_step (bs HB.out) hb)
 (try clear hb)
 (try clear hb2)
 (try clear hk)
 (try clear hi)
 (try clear ho0)
 obtain ⟨Ao11, co11, eo11⟩ := Kd.R_slice HO431.out
 (first | subst eo11 | (injection eo11 with f1_ f2_ f3_; have f4_ := f1_.symm; have f5_ := f3_.symm; clear f1_ f2_ f3_; subst f4_; subst f5_))
 refine hK.out _ _ ((blk_cell BK427.out 0).trans rfl) (fun hHeld => ?_)
 clear hK K
 refine nm_ 13 ?_
 refine one_ (i := 10) (N := some 15) rr10 rfl rfl (one_of HT_.out (by kernel_rfl)) (by decide) (fun K hK => ?_)
 refine goes_ Try.func91 (by kernel_rfl) rfl #[.agg #[.slice A0_0 l0_0.length c0_0], .slice Ao11 t429.length co11, .slice A1 l1.length c1] (by rfl) rfl rfl zz1 ?_
 with_reducible refine (mizmazeref01_Image.calls k _ _ l0_0 _ _ t429 _ _ l1 t432 _ ?side1 ?side2 ?side3 ?side4 ?side5 ?side6 A6.out).mono ?_
 (case side1 => exact kc (Kd.C_below HR0_0.out HB.out))
 (case side2 => exact HC0_0.out)
 (case side3 => repeat (first | exact (Kd.R_reads' HO431.out).2.2 | (with_reducible refine Kd.C_alloc ?_ _) | (with_reducible refine Kd.C_drewN ?_ _) | (with_reducible refine Kd.C_drew ?_)))
 (case side4 => exact (Kd.R_reads' HO431.out).2.1)
 (case side5 => exact kc (Kd.C_below HR1.out HB.out))
 (case side6 => exact HC1.out)
 rintro e w12 ⟨v433, rfl, ho0, hb⟩
 refine ⟨_, rfl, ?_⟩
 have HO434 := am (Kd.R_lower (Kd.R_new' ho0 (Kd.R_lt (kR HO431.out))) (below_size (bs HB.out)))
 replace HO431 := am (Kd.R_elder' (kR HO431.out) (Kd.R_base ho0) hb)
 replace BK427 := am (blk_below (g := gb427) (o := .cells #[.slice A0_0 l0_0.length c0_0] 24 (0, 0)) (kb BK427.out) hb)
 replace HB := am (below_step (bs HB.out) hb)
 (try clear hb)
 (try clear hb2)
 (try clear hk)
 (try clear hi)
 (try clear ho0)
 obtain ⟨Ao13, co13, eo13⟩ := Kd.R_slice HO434.out
 (first | subst eo13 | (injection eo13 with f1_ f2_ f3_; have f4_ := f1_.symm; have f5_ := f3_.symm; clear f1_ f2_ f3_; subst f4_; subst f5_))
 refine hK.out _ _ ((blk_cell BK427.out 0).trans rfl) (fun hHeld => ?_)
 clear hK K
 refine nm_ 15 ?_
 refine pv_ 11 16 rr11 HT_ ?_
 refine pv_ 12 17 rr12 HT_ ?_
 refine pv_ 13 18 rr13 HT_ ?_
 refine pv_ 14 4 rr14 HT_ ?_
 refine done_ (done_of HT_.out (by kernel_rfl)) ?_
 try go_wp2
 go_ret
 exact ⟨by first | rfl | (simp [errW_none, errW_some] <;> rfl) | (simp [*, errW_none, errW_some] <;> rfl), bs HB.out⟩
end Go.Proofs.Ytjgdalhdiohclaa.Q
end
section
namespace Go.Proofs.Ytjgdalhdiohclaa.Q
attribute [local go_sem] max2_int min2_int max_two min_two max_three min_three max_four min_four
def mizmazeref01_Same.l0 : Nat → List Int → List Int → Int → Option (Bool)
 | 0, _, _, _ => none
 | k + 1, x0, x1, x5 => if x5 < (x0.length : Int) then (if 0 ≤ x5 then (if x5 < (x1.length : Int) then (if (rd x0 x5) = (rd x1 x5) then (mizmazeref01_Same.l0 k x0 x1 (wrap64 (x5 + 1))) else (some false)) else (none)) else (none)) else (some true)
def mizmazeref01_Same.f (k : Nat) (l0 : List Int) (l1 : List Int) : Option (Bool) := if (l0.length : Int) = (l1.length : Int) then (mizmazeref01_Same.l0 k l0 l1 0) else (some false)
theorem mizmazeref01_Same.mono_l : ∀ k, (∀ y0 y1 y2, LeO (mizmazeref01_Same.l0 k y0 y1 y2) (mizmazeref01_Same.l0 (k + 1) y0 y1 y2))
 | 0 => fun _ _ _ r h => by simp [mizmazeref01_Same.l0] at h
 | k + 1 => by
  have ih0 := mizmazeref01_Same.mono_l k
  ·intro y0 y1 y2
   unfold mizmazeref01_Same.l0
   with_reducible repeat' first | exact ih0 _ _ _ | exact LeO.refl _ | exact LeO.none _ | refine LeO.ite ?_ ?_ | refine LeO.bind ?_ (fun _ => ?_)
theorem mizmazeref01_Same.mono : ∀ a0 a1 k, LeO (mizmazeref01_Same.f k a0 a1) (mizmazeref01_Same.f (k + 1) a0 a1) := by
 intro a0 a1 k
 have ih0 := mizmazeref01_Same.mono_l k
 unfold mizmazeref01_Same.f
 with_reducible repeat' first | exact ih0 _ _ _ | exact LeO.refl _ | exact LeO.none _ | refine LeO.ite ?_ ?_ | refine LeO.bind ?_ (fun _ => ?_)
theorem mizmazeref01_Same.calls (k : Nat) (A0 : Option Addr) (c0 : Nat) (l0 : List Int) (A1 : Option Addr) (c1 : Nat) (l1 : List Int) (r : Bool) (w : World) (hr0 : Kd.C (Kd.int .i64) w A0 l0.length l0) (hc0 : l0.length ≤ c0) (hr1 : Kd.C (Kd.int .i64) w A1 l1.length l1) (hc1 : l1.length ≤ c1) (h : mizmazeref01_Same.f k l0 l1 = some r) :
  Calls Try.prog 23 #[.slice A0 l0.length c0, .slice A1 l1.length c1] w fun e w' => e = .returned (.bool r) ∧ Drawn0 w w' := by
 have HR0 := am hr0
 have HC0 := am hc0
 clear hr0 hc0
 have HR1 := am hr1
 have HC1 := am hc1
 clear hr1 hc1
 have H : (if (l0.length : Int) = (l1.length : Int) then (mizmazeref01_Same.l0 k l0 l1 0) else (some false)) = some r := h
 clear h
 by_cases c3 : (l0.length : Int) = (l1.length : Int)
 ·rw [if_pos c3] at H
  have c3b0 : ((l0.length : Int) == (l1.length : Int)) = true := beq_iff_eq.mpr c3
  have c3b1 : ((l0.length : Int) != (l1.length : Int)) = false := bne_eq_false_iff_eq.mpr c3
  have c3b2 : (l0.length == l1.length) = true := by first | simpa using c3 | (simp at c3 ⊢; omega)
  clear c3
  have H' := am H
  clear H
  go_enter Try.func23, Try.ntmps23
  go_wp2
  repeat (go_quiet (fail); try go_wp2)
  go_loopg [5] k (fun kq v5 w' => ∃ (x5_1 : Int), v5 = .int .i64 x5_1 ∧ Aside0 (mizmazeref01_Same.l0 kq l0 l1 x5_1 = some r) ∧ Aside0 (kq ≤ k) ∧ Drawn0 w w')
  case atStart => exact ⟨(0), zz3, H', ⟨Nat.le_refl _⟩, by repeat (first | exact Drawn0.refl _ | apply Drawn0.step)⟩
  case round =>
   clear H'
   (try clear c1); (try clear c2); (try clear p2); (try clear c3); (try clear c3b0); (try clear c3b1); (try clear c3b2)
   obtain ⟨x5_1, rfl, HA, HK1, ⟨m1, rfl⟩⟩ := hrel
   cases gk with
   | zero => exact absurd HA.out (by simp [mizmazeref01_Same.l0])
   | succ k1 =>
    have H := HA.out
    clear HA
    simp only [mizmazeref01_Same.l0] at H
    by_cases c4 : x5_1 < (l0.length : Int)
    ·rw [if_pos c4] at H
     have c4b0 : decide (x5_1 < (l0.length : Int)) = true := decide_eq_true c4
     clear c4
     by_cases c5 : 0 ≤ x5_1
     ·rw [if_pos c5] at H
      have c5b0 : decide (0 ≤ x5_1) = true := decide_eq_true c5
      clear c5
      by_cases c6 : x5_1 < (l1.length : Int)
      ·rw [if_pos c6] at H
       have c6b0 : decide (x5_1 < (l1.length : Int)) = true := decide_eq_true c6
       clear c6
       by_cases c7 : (rd l0 x5_1) = (rd l1 x5_1)
       ·rw [if_pos c7] at H
        have c7b0 : ((rd l0 x5_1) == (rd l1 x5_1)) = true := beq_iff_eq.mpr c7
        have c7b1 : ((rd l0 x5_1) != (rd l1 x5_1)) = false := bne_eq_false_iff_eq.mpr c7
        clear c7
        have H' := am H
        clear H
        have p110 : 0 ≤ (x5_1 : Int) := od zz2
        have q110 : x5_1 < (l0.length : Int) := od zz2
        obtain ⟨ad110, e110, hx110_0⟩ := Kd.at_int HR0.out x5_1 p110 q110
        cases e110
        replace p110 := eq_true p110
        replace q110 := eq_true q110
        have p111 : 0 ≤ (x5_1 : Int) := od zz2
        have q111 : x5_1 < (l1.length : Int) := od zz2
        obtain ⟨ad111, e111, hx111_0⟩ := Kd.at_int HR1.out x5_1 p111 q111
        cases e111
        replace p111 := eq_true p111
        replace q111 := eq_true q111
        go_wp2
        repeat (go_quiet (fail); try go_wp2)
        go_roundg k1
        case measure => have := HK1.out; omega
        case rel => exact ⟨(wrap64 (x5_1 + 1)), zz3, H', ⟨by have := HK1.out; omega⟩, by repeat (first | exact Drawn0.refl _ | apply Drawn0.step)⟩
       ·rw [if_neg c7] at H
        have c7b0 : ((rd l0 x5_1) == (rd l1 x5_1)) = false := beq_eq_false_iff_ne.mpr c7
        have c7b1 : ((rd l0 x5_1) != (rd l1 x5_1)) = true := bne_iff_ne.mpr c7
        obtain rfl := Option.some.inj H
        have p110 : 0 ≤ (x5_1 : Int) := od zz2
        have q110 : x5_1 < (l0.length : Int) := od zz2
        obtain ⟨ad110, e110, hx110_0⟩ := Kd.at_int HR0.out x5_1 p110 q110
        cases e110
        replace p110 := eq_true p110
        replace q110 := eq_true q110
        have p111 : 0 ≤ (x5_1 : Int) := od zz2
        have q111 : x5_1 < (l1.length : Int) := od zz2
        obtain ⟨ad111, e111, hx111_0⟩ := Kd.at_int HR1.out x5_1 p111 q111
        cases e111
        replace p111 := eq_true p111
        replace q111 := eq_true q111
        go_wp2
        repeat (go_quiet (fail); try go_wp2)
        go_ret
        exact ⟨by first | rfl | (simp; done) | (simp [*]; done), by repeat (first | exact Drawn0.refl _ | apply Drawn0.step)⟩
      ·rw [if_neg c6] at H
       exact absurd H (by simp)
     ·rw [if_neg c5] at H
      exact absurd H (by simp)
    ·rw [if_neg c4] at H
     have c4b0 : decide (x5_1 < (l0.length : Int)) = false := decide_eq_false c4
     clear c4
     obtain rfl := Option.some.inj H
     go_wp2
     repeat (go_quiet (fail); try go_wp2)
     go_ret
     exact ⟨by first | rfl | (simp; done) | (simp [*]; done), by repeat (first | exact Drawn0.refl _ | apply Drawn0.step)⟩
 ·rw [if_neg c3] at H
  have c3b0 : ((l0.length : Int) == (l1.length : Int)) = false := beq_eq_false_iff_ne.mpr c3
  have c3b1 : ((l0.length : Int) != (l1.length : Int)) = true := bne_iff_ne.mpr c3
  have c3b2 : (l0.length == l1.length) = false := by first | simpa using c3 | (simp at c3 ⊢; omega)
  obtain rfl := Option.some.inj H
  go_enter Try.func23, Try.ntmps23
  go_wp2
  repeat (go_quiet (fail); try go_wp2)
  go_ret
  exact ⟨by first | rfl | (simp; done) | (simp [*]; done), by repeat (first | exact Drawn0.refl _ | apply Drawn0.step)⟩
end Go.Proofs.Ytjgdalhdiohclaa.Q
end
section
namespace Go.Proofs.Ytjgdalhdiohclaa.Q
attribute [local go_sem] max2_int min2_int max_two min_two max_three min_three max_four min_four
def mizmazeref01_Sames.l0 : Nat → List (List Int) → List (List Int) → Int → Option (Bool)
 | 0, _, _, _ => none
 | k + 1, x0, x1, x5 => if x5 < (x0.length : Int) then (if 0 ≤ x5 then (if x5 < (x1.length : Int) then ((mizmazeref01_Same.f k (rd_L1 x0 x5) (rd_L1 x1 x5)).bind fun t114 => (if t114 = true then (mizmazeref01_Sames.l0 k x0 x1 (wrap64 (x5 + 1))) else (some false))) else (none)) else (none)) else (some true)
def mizmazeref01_Sames.f (k : Nat) (l0 : List (List Int)) (l1 : List (List Int)) : Option (Bool) := if (l0.length : Int) = (l1.length : Int) then (mizmazeref01_Sames.l0 k l0 l1 0) else (some false)
theorem mizmazeref01_Sames.mono_l : ∀ k, (∀ y0 y1 y2, LeO (mizmazeref01_Sames.l0 k y0 y1 y2) (mizmazeref01_Sames.l0 (k + 1) y0 y1 y2))
 | 0 => fun _ _ _ r h => by simp [mizmazeref01_Sames.l0] at h
 | k + 1 => by
  have ih0 := mizmazeref01_Sames.mono_l k
  ·intro y0 y1 y2
   unfold mizmazeref01_Sames.l0
   with_reducible repeat' first | exact ih0 _ _ _ | exact mizmazeref01_Same.mono _ _ _ | exact LeO.refl _ | exact LeO.none _ | refine LeO.ite ?_ ?_ | refine LeO.bind ?_ (fun _ => ?_)
theorem mizmazeref01_Sames.mono : ∀ a0 a1 k, LeO (mizmazeref01_Sames.f k a0 a1) (mizmazeref01_Sames.f (k + 1) a0 a1) := by
 intro a0 a1 k
 have ih0 := mizmazeref01_Sames.mono_l k
 unfold mizmazeref01_Sames.f
 with_reducible repeat' first | exact ih0 _ _ _ | exact mizmazeref01_Same.mono _ _ _ | exact LeO.refl _ | exact LeO.none _ | refine LeO.ite ?_ ?_ | refine LeO.bind ?_ (fun _ => ?_)
theorem mizmazeref01_Sames.calls (k : Nat) (A0 : Option Addr) (c0 : Nat) (l0 : List (List Int)) (A1 : Option Addr) (c1 : Nat) (l1 : List (List Int)) (r : Bool) (w : World) (hr0 : Kd.C (Kd.slice 3 (Kd.int .i64)) w A0 l0.length l0) (hc0 : l0.length ≤ c0) (hr1 : Kd.C (Kd.slice 3 (Kd.int .i64)) w A1 l1.length l1) (hc1 : l1.length ≤ c1) (h : mizmazeref01_Sames.f k l0 l1 = some r) :
  Calls Try.prog 27 #[.slice A0 l0.length c0, .slice A1 l1.length c1] w fun e w' => e = .returned (.bool r) ∧ Drawn0 w w' := by
 have HR0 := am hr0
 have HC0 := am hc0
 clear hr0 hc0
 have HR1 := am hr1
 have HC1 := am hc1
 clear hr1 hc1
 have H : (if (l0.length : Int) = (l1.length : Int) then (mizmazeref01_Sames.l0 k l0 l1 0) else (some false)) = some r := h
 clear h
 by_cases c3 : (l0.length : Int) = (l1.length : Int)
 ·rw [if_pos c3] at H
  have c3b0 : ((l0.length : Int) == (l1.length : Int)) = true := beq_iff_eq.mpr c3
  have c3b1 : ((l0.length : Int) != (l1.length : Int)) = false := bne_eq_false_iff_eq.mpr c3
  have c3b2 : (l0.length == l1.length) = true := by first | simpa using c3 | (simp at c3 ⊢; omega)
  clear c3
  have H' := am H
  clear H
  go_enter Try.func27, Try.ntmps27
  go_wp2
  repeat (go_quiet (fail); try go_wp2)
  go_loopg [5] k (fun kq v5 w' => ∃ (x5_1 : Int), v5 = .int .i64 x5_1 ∧ Aside0 (mizmazeref01_Sames.l0 kq l0 l1 x5_1 = some r) ∧ Aside0 (kq ≤ k) ∧ Drawn0 w w')
  case atStart => exact ⟨(0), zz3, H', ⟨Nat.le_refl _⟩, by repeat (first | exact Drawn0.refl _ | apply Drawn0.step)⟩
  case round =>
   clear H'
   (try clear c1); (try clear c2); (try clear p2); (try clear c3); (try clear c3b0); (try clear c3b1); (try clear c3b2)
   obtain ⟨x5_1, rfl, HA, HK1, ⟨m1, rfl⟩⟩ := hrel
   cases gk with
   | zero => exact absurd HA.out (by simp [mizmazeref01_Sames.l0])
   | succ k1 =>
    have H := HA.out
    clear HA
    simp only [mizmazeref01_Sames.l0] at H
    by_cases c4 : x5_1 < (l0.length : Int)
    ·rw [if_pos c4] at H
     have c4b0 : decide (x5_1 < (l0.length : Int)) = true := decide_eq_true c4
     clear c4
     by_cases c5 : 0 ≤ x5_1
     ·rw [if_pos c5] at H
      have c5b0 : decide (0 ≤ x5_1) = true := decide_eq_true c5
      clear c5
      by_cases c6 : x5_1 < (l1.length : Int)
      ·rw [if_pos c6] at H
       have c6b0 : decide (x5_1 < (l1.length : Int)) = true := decide_eq_true c6
       clear c6
       replace H := Option.bind_eq_some_iff.mp H
       obtain ⟨t114, A70, H⟩ := H
       replace H : (if t114 = true then (mizmazeref01_Sames.l0 k1 l0 l1 (wrap64 (x5_1 + 1))) else (some false)) = some r := H
       have A7 := am A70
       clear A70
       by_cases c8 : t114 = true
       ·subst c8
        have H1 : (mizmazeref01_Sames.l0 k1 l0 l1 (wrap64 (x5_1 + 1))) = some r := by rw [if_pos rfl] at H; exact H
        clear H
        have H := H1
        clear H1
        have H' := am H
        clear H
        have p112 : 0 ≤ (x5_1 : Int) := od zz2
        have q112 : x5_1 < (l0.length : Int) := od zz2
        obtain ⟨ad112, A112_0, c112_0, e112, hx112_0, hl112_0, hi112_0⟩ := at_L1 HR0.out x5_1 p112 q112
        cases e112
        have HR112_0 := am hi112_0
        have HC112_0 := am hl112_0
        clear hi112_0 hl112_0
        replace p112 := eq_true p112
        replace q112 := eq_true q112
        have p113 : 0 ≤ (x5_1 : Int) := od zz2
        have q113 : x5_1 < (l1.length : Int) := od zz2
        obtain ⟨ad113, A113_0, c113_0, e113, hx113_0, hl113_0, hi113_0⟩ := at_L1 HR1.out x5_1 p113 q113
        cases e113
        have HR113_0 := am hi113_0
        have HC113_0 := am hl113_0
        clear hi113_0 hl113_0
        replace p113 := eq_true p113
        replace q113 := eq_true q113
        go_wp2_with (first | (go_at_call 23; (with_reducible refine (mizmazeref01_Same.calls k1 _ _ (rd_L1 l0 x5_1) _ _ (rd_L1 l1 x5_1) true _ ?side1 ?side2 ?side3 ?side4 A7.out).mono ?_); (case side1 => exact kc HR112_0.out); (case side2 => exact HC112_0.out); (case side3 => exact kc HR113_0.out); (case side4 => exact HC113_0.out); rintro e w' ⟨rfl, ⟨nd, rfl⟩⟩; (try exact zz4)))
        repeat (go_quiet (first | (go_at_call 23; (with_reducible refine (mizmazeref01_Same.calls k1 _ _ (rd_L1 l0 x5_1) _ _ (rd_L1 l1 x5_1) true _ ?side1 ?side2 ?side3 ?side4 A7.out).mono ?_); (case side1 => exact kc HR112_0.out); (case side2 => exact HC112_0.out); (case side3 => exact kc HR113_0.out); (case side4 => exact HC113_0.out); rintro e w' ⟨rfl, ⟨nd, rfl⟩⟩; (try exact zz4))); try go_wp2_with (first | (go_at_call 23; (with_reducible refine (mizmazeref01_Same.calls k1 _ _ (rd_L1 l0 x5_1) _ _ (rd_L1 l1 x5_1) true _ ?side1 ?side2 ?side3 ?side4 A7.out).mono ?_); (case side1 => exact kc HR112_0.out); (case side2 => exact HC112_0.out); (case side3 => exact kc HR113_0.out); (case side4 => exact HC113_0.out); rintro e w' ⟨rfl, ⟨nd, rfl⟩⟩; (try exact zz4))))
        go_roundg k1
        case measure => have := HK1.out; omega
        case rel => exact ⟨(wrap64 (x5_1 + 1)), zz3, H', ⟨by have := HK1.out; omega⟩, by repeat (first | exact Drawn0.refl _ | apply Drawn0.step)⟩
       ·replace c8 := Bool.eq_false_iff.mpr c8
        subst c8
        have H1 : (some false) = some r := by rw [if_neg (show ¬ (false = true) by decide)] at H; exact H
        clear H
        have H := H1
        clear H1
        obtain rfl := Option.some.inj H
        have p112 : 0 ≤ (x5_1 : Int) := od zz2
        have q112 : x5_1 < (l0.length : Int) := od zz2
        obtain ⟨ad112, A112_0, c112_0, e112, hx112_0, hl112_0, hi112_0⟩ := at_L1 HR0.out x5_1 p112 q112
        cases e112
        have HR112_0 := am hi112_0
        have HC112_0 := am hl112_0
        clear hi112_0 hl112_0
        replace p112 := eq_true p112
        replace q112 := eq_true q112
        have p113 : 0 ≤ (x5_1 : Int) := od zz2
        have q113 : x5_1 < (l1.length : Int) := od zz2
        obtain ⟨ad113, A113_0, c113_0, e113, hx113_0, hl113_0, hi113_0⟩ := at_L1 HR1.out x5_1 p113 q113
        cases e113
        have HR113_0 := am hi113_0
        have HC113_0 := am hl113_0
        clear hi113_0 hl113_0
        replace p113 := eq_true p113
        replace q113 := eq_true q113
        go_wp2_with (first | (go_at_call 23; (with_reducible refine (mizmazeref01_Same.calls k1 _ _ (rd_L1 l0 x5_1) _ _ (rd_L1 l1 x5_1) false _ ?side1 ?side2 ?side3 ?side4 A7.out).mono ?_); (case side1 => exact kc HR112_0.out); (case side2 => exact HC112_0.out); (case side3 => exact kc HR113_0.out); (case side4 => exact HC113_0.out); rintro e w' ⟨rfl, ⟨nd, rfl⟩⟩; (try exact zz4)))
        repeat (go_quiet (first | (go_at_call 23; (with_reducible refine (mizmazeref01_Same.calls k1 _ _ (rd_L1 l0 x5_1) _ _ (rd_L1 l1 x5_1) false _ ?side1 ?side2 ?side3 ?side4 A7.out).mono ?_); (case side1 => exact kc HR112_0.out); (case side2 => exact HC112_0.out); (case side3 => exact kc HR113_0.out); (case side4 => exact HC113_0.out); rintro e w' ⟨rfl, ⟨nd, rfl⟩⟩; (try exact zz4))); try go_wp2_with (first | (go_at_call 23; (with_reducible refine (mizmazeref01_Same.calls k1 _ _ (rd_L1 l0 x5_1) _ _ (rd_L1 l1 x5_1) false _ ?side1 ?side2 ?side3 ?side4 A7.out).mono ?_); (case side1 => exact kc HR112_0.out); (case side2 => exact HC112_0.out); (case side3 => exact kc HR113_0.out); (case side4 => exact HC113_0.out); rintro e w' ⟨rfl, ⟨nd, rfl⟩⟩; (try exact zz4))))
        go_ret
        exact ⟨by first | rfl | (simp; done) | (simp [*]; done), by repeat (first | exact Drawn0.refl _ | apply Drawn0.step)⟩
      ·rw [if_neg c6] at H
       exact absurd H (by simp)
     ·rw [if_neg c5] at H
      exact absurd H (by simp)
    ·rw [if_neg c4] at H
     have c4b0 : decide (x5_1 < (l0.length : Int)) = false := decide_eq_false c4
     clear c4
     obtain rfl := Option.some.inj H
     go_wp2
     repeat (go_quiet (fail); try go_wp2)
     go_ret
     exact ⟨by first | rfl | (simp; done) | (simp [*]; done), by repeat (first | exact Drawn0.refl _ | apply Drawn0.step)⟩
 ·rw [if_neg c3] at H
  have c3b0 : ((l0.length : Int) == (l1.length : Int)) = false := beq_eq_false_iff_ne.mpr c3
  have c3b1 : ((l0.length : Int) != (l1.length : Int)) = true := bne_iff_ne.mpr c3
  have c3b2 : (l0.length == l1.length) = false := by first | simpa using c3 | (simp at c3 ⊢; omega)
  obtain rfl := Option.some.inj H
  go_enter Try.func27, Try.ntmps27
  go_wp2
  repeat (go_quiet (fail); try go_wp2)
  go_ret
  exact ⟨by first | rfl | (simp; done) | (simp [*]; done), by repeat (first | exact Drawn0.refl _ | apply Drawn0.step)⟩
end Go.Proofs.Ytjgdalhdiohclaa.Q
end
section
namespace Go.Proofs.Ytjgdalhdiohclaa.Q
def findTo {α : Type} (p : α → Bool) (l : List α) : Int := match l.findIdx? p with | some i => (i : Int) | none => -1
theorem findTo_any {α : Type} (p : α → Bool) (l : List α) : decide (0 ≤ findTo p l) = l.any p := by
 unfold findTo
 cases h : l.findIdx? p with
 | none => rw [List.findIdx?_eq_none_iff] at h; simp; simpa using h
 | some i =>
  obtain ⟨h1, h2, _⟩ := List.findIdx?_eq_some_iff_getElem.1 h
  simp; exact ⟨_, List.getElem_mem h1, h2⟩
def NoneTo {α : Type} (p : α → Bool) (l : List α) (d : α) (x : Int) : Prop := ∀ j : Nat, (j : Int) < x → p (l.getD j d) = false
theorem NoneTo.zero {α : Type} (p : α → Bool) (l : List α) (d : α) : NoneTo p l d 0 := fun j h => by omega
theorem NoneTo.succ {α : Type} {p : α → Bool} {l : List α} {d : α} {x : Int} (h : NoneTo p l d x) (h0 : 0 ≤ x) (hp : p (l.getD x.toNat d) = false) : NoneTo p l d (x + 1) := fun j hj => by
 by_cases e : (j : Int) = x
 ·have : j = x.toNat := by omega
  rw [this]; exact hp
 ·exact h j (by omega)
theorem findTo_at {α : Type} {p : α → Bool} {l : List α} {d : α} {x : Int} (h : NoneTo p l d x) (h0 : 0 ≤ x) (hx : x < l.length) (hp : p (l.getD x.toNat d) = true) : findTo p l = x := by
 have : l.findIdx? p = some x.toNat := by
  rw [List.findIdx?_eq_some_iff_getElem]
  refine ⟨by omega, ?_, fun j hj => ?_⟩
  ·rw [List.getD_eq_getElem?_getD, List.getElem?_eq_getElem (by omega)] at hp; exact hp
  ·have := h j (by omega)
   rw [List.getD_eq_getElem?_getD, List.getElem?_eq_getElem (by omega)] at this
   simpa using this
 unfold findTo; rw [this]; simp; omega
theorem findTo_none {α : Type} {p : α → Bool} {l : List α} {d : α} {x : Int} (h : NoneTo p l d x) (hx : (l.length : Int) ≤ x) : findTo p l = -1 := by
 have : l.findIdx? p = none := by
  rw [List.findIdx?_eq_none_iff]
  intro a ha
  obtain ⟨j, hj, rfl⟩ := List.getElem_of_mem ha
  have := h j (by omega)
  rw [List.getD_eq_getElem?_getD, List.getElem?_eq_getElem (by omega)] at this
  exact this
 unfold findTo; rw [this]
def outB (n x : Int) : Bool := decide (x < 0 ∨ n ≤ x)
def inB (n : Int) (l : List Int) : Bool := l.all fun x => decide (0 ≤ x ∧ x < n)
theorem inB_eq (n : Int) (l : List Int) : inB n l = !l.any (outB n) := by
 unfold inB outB
 induction l with
 | nil => rfl
 | cons a l ih =>
  rw [List.all_cons, List.any_cons, ih, Bool.not_or]
  congr 1
  by_cases h1 : a < 0 <;> by_cases h2 : n ≤ a <;> simp_all <;> omega
theorem within1_calls (x n : Int) (g : Nat) (w : World) (hg : w.cell? ⟨g, 0, none⟩ = some (.int .i64 n)) :
  Calls Try.prog 116 #[.int .i64 x, .pointer (some ⟨g, 0, none⟩)] w fun e w' => e = .returned (.bool (outB n x)) ∧ w = w' := by
 by_cases h : x < 0
 ·go_enter Try.func116, Try.ntmps116
  go_wp2
  go_ret
  exact ⟨by simp [h, outB], rfl⟩
 ·go_enter Try.func116, Try.ntmps116
  go_wp2
  go_ret
  exact ⟨by simp [outB]; omega, rfl⟩
theorem wrap_in {x : Int} {n : Nat} (h0 : 0 ≤ x) (h : x < (n : Int)) (hn : n ≤ 9223372036854775807) : wrap64 (x + 1) = x + 1 := by
 unfold wrap64
 omega
theorem index1_calls (F : Nat) (caps : Array Value) (p : Int → Bool) (A : Option Addr) (c : Nat) (l : List Int) (w : World)
  (hr : Kd.C (Kd.int .i64) w A l.length l) (hc : l.length ≤ c)
  (hcall : ∀ a w, Sem.run Try.prog (callFunc F a) w = .ok (.enter F a) w)
  (hp : ∀ x, Calls Try.prog F (#[.int .i64 x] ++ caps) w fun e w' => e = .returned (.bool (p x)) ∧ w = w') :
  Calls Try.prog 133 #[.slice A l.length c, .func (.func F) #[] caps] w fun e w' => e = .returned (.int .i64 (findTo p l)) ∧ w = w' := by
 have hm : l.length ≤ 9223372036854775807 := hr.2.1
 have HP := am hp
 clear hp
 go_enter Try.func133, Try.ntmps133
 go_wp2
 go_loop [8] (fun i => ∃ x : Int, 0 ≤ x ∧ x ≤ l.length ∧ i = .int .i64 x ∧ Aside0 (NoneTo p l 0 x)) (fun i => l.length - (intOf i).toNat)
 case atStart => exact ⟨0, by omega, by omega, rfl, ⟨NoneTo.zero _ _ _⟩⟩
 case round =>
  obtain ⟨x, h0, h1, rfl, HA⟩ := hrel
  by_cases hlt : x < l.length
  ·obtain ⟨ad, e, hx⟩ := Kd.at_int hr x h0 hlt
   cases e
   have c3 : decide (x < (l.length : Int)) = true := decide_eq_true hlt
   have k0 := am h0
   have k1 := am hlt
   replace h0 := eq_true h0
   replace hlt := eq_true hlt
   clear hr hc
   cases hpx : p (rd l x) with
   | true =>
    have HF := am (findTo_at HA.out k0.out k1.out hpx)
    have HPX := am hpx
    clear hpx
    go_wp2_with (refine ((HP.out _).mono ?_); rintro e w' ⟨rfl, rfl⟩; rw [HPX.out])
    go_ret
    exact ⟨by rw [HF.out]; rfl, rfl⟩
   | false =>
    have HF := am (NoneTo.succ HA.out k0.out hpx)
    have HPX := am hpx
    clear hpx
    go_wp2_with (refine ((HP.out _).mono ?_); rintro e w' ⟨rfl, rfl⟩; rw [HPX.out])
    go_round
    case rel => exact ⟨x + 1, by have := k0.out; omega, by have := k1.out; omega, by rw [wrap_in k0.out k1.out hm], HF⟩
    case measure => have := k0.out; have := k1.out; rw [wrap_in k0.out k1.out hm]; simp [intOf]; omega
  ·have HF := am (findTo_none HA.out (by omega))
   go_wp2
   go_ret
   exact ⟨by rw [HF.out]; rfl, rfl⟩
theorem contains1_calls (F : Nat) (caps : Array Value) (p : Int → Bool) (A : Option Addr) (c : Nat) (l : List Int) (w : World)
  (hr : Kd.C (Kd.int .i64) w A l.length l) (hc : l.length ≤ c)
  (hcall : ∀ a w, Sem.run Try.prog (callFunc F a) w = .ok (.enter F a) w)
  (hp : ∀ x, Calls Try.prog F (#[.int .i64 x] ++ caps) w fun e w' => e = .returned (.bool (p x)) ∧ w = w') :
  Calls Try.prog 115 #[.slice A l.length c, .func (.func F) #[] caps] w fun e w' => e = .returned (.bool (l.any p)) ∧ w = w' := by
 have HC := am (index1_calls F caps p A c l w hr hc hcall hp)
 clear hp hcall hr hc
 go_enter Try.func115, Try.ntmps115
 go_wp2_with (refine (HC.out.mono ?_); rintro e w' ⟨rfl, rfl⟩)
 go_ret
 exact ⟨by rw [← findTo_any]; rfl, rfl⟩
theorem call116 (a : Array Value) (w : World) : Sem.run Try.prog (callFunc 116 a) w = .ok (.enter 116 a) w := by
 go_simp
theorem within_calls (n : Int) (A : Option Addr) (c : Nat) (l : List Int) (w : World)
  (hr : Kd.C (Kd.int .i64) w A l.length l) (hc : l.length ≤ c) :
  Calls Try.prog 101 #[.slice A l.length c, .int .i64 n] w fun e w' => e = .returned (.bool (inB n l)) ∧ Below w.heap.size w w' := by
 have hB := ba (Below.refl w.heap.size w) (.cells #[.int .i64 n] 3)
 have HC := am (contains1_calls 116 #[.pointer (some ⟨w.heap.size, 0, none⟩)] (outB n) A c l (w.alloc (.cells #[.int .i64 n] 3)) (Kd.C_below hr hB) hc call116
  (fun x => within1_calls x n w.heap.size _ (by simp)))
 clear hr hc
 have HB := am hB
 clear hB
 go_enter Try.func101, Try.ntmps101
 go_wp2_with (refine (HC.out.mono ?_); rintro e w' ⟨rfl, rfl⟩)
 go_ret
 exact ⟨by rw [inB_eq]; rfl, HB.out⟩
def auto_within_int.f (l0 : List Int) (a1 : Int) : Option Bool := some (inB a1 l0)
theorem auto_within_int.calls (A0 : Option Addr) (c0 : Nat) (l0 : List Int) (a1 : Int) (r : Bool) (w : World) (hr0 : Kd.C (Kd.int .i64) w A0 l0.length l0) (hc0 : l0.length ≤ c0) (h : auto_within_int.f l0 a1 = some r) :
  Calls Try.prog 101 #[.slice A0 l0.length c0, .int .i64 a1] w fun e w' => e = .returned (.bool r) ∧ Below w.heap.size w w' := by
 obtain rfl := Option.some.inj h
 exact within_calls a1 A0 c0 l0 w hr0 hc0
end Go.Proofs.Ytjgdalhdiohclaa.Q
end
section
namespace Go.Proofs.Ytjgdalhdiohclaa.Q
attribute [local go_sem] max2_int min2_int max_two min_two max_three min_three max_four min_four
mutual
def auto_Names.j0 : Nat → List Int → Int → Bool → Option (Bool)
 | 0, _, _, _ => none
 | k + 1, x0, x1, x17 => if x17 = true then (some false) else (if 0 ≤ x1 then (if (x1 : Int).toNat ≤ 281474976710656 then (auto_Names.l0 k (List.replicate (x1 : Int).toNat false) x0 (x0.length : Int) 0) else (none)) else (none))
def auto_Names.l0 : Nat → List Bool → List Int → Int → Int → Option (Bool)
 | 0, _, _, _, _ => none
 | k + 1, x5, x20, x21, x22 => if x22 < x21 then (if 0 ≤ x22 then (if x22 < (x20.length : Int) then (if 0 ≤ (rd x20 x22) then (if (rd x20 x22) < (x5.length : Int) then (if rdOf false x5 (rd x20 x22) = true then (some false) else (auto_Names.l0 k (x5.set ((rd x20 x22) : Int).toNat true) x20 x21 (wrap64 (x22 + 1)))) else (none)) else (none)) else (none)) else (none)) else (some true)
end
def auto_Names.f (k : Nat) (l0 : List Int) (a1 : Int) : Option (Bool) := if (l0.length : Int) = a1 then ((auto_within_int.f l0 a1).bind fun t115 => (auto_Names.j0 k l0 a1 (!t115))) else (auto_Names.j0 k l0 a1 true)
theorem auto_Names.mono_l : ∀ k, (∀ y0 y1 y2, LeO (auto_Names.j0 k y0 y1 y2) (auto_Names.j0 (k + 1) y0 y1 y2)) ∧ (∀ y0 y1 y2 y3, LeO (auto_Names.l0 k y0 y1 y2 y3) (auto_Names.l0 (k + 1) y0 y1 y2 y3))
 | 0 => ⟨fun _ _ _ r h => by simp [auto_Names.j0] at h, fun _ _ _ _ r h => by simp [auto_Names.l0] at h⟩
 | k + 1 => by
  obtain ⟨ih0, ih1⟩ := auto_Names.mono_l k
  refine ⟨?_, ?_⟩
  ·intro y0 y1 y2
   unfold auto_Names.j0
   with_reducible repeat' first | exact ih0 _ _ _ | exact ih1 _ _ _ _ | exact LeO.refl _ | exact LeO.none _ | refine LeO.ite ?_ ?_ | refine LeO.bind ?_ (fun _ => ?_)
  ·intro y0 y1 y2 y3
   unfold auto_Names.l0
   with_reducible repeat' first | exact ih0 _ _ _ | exact ih1 _ _ _ _ | exact LeO.refl _ | exact LeO.none _ | refine LeO.ite ?_ ?_ | refine LeO.bind ?_ (fun _ => ?_)
theorem auto_Names.mono : ∀ a0 a1 k, LeO (auto_Names.f k a0 a1) (auto_Names.f (k + 1) a0 a1) := by
 intro a0 a1 k
 obtain ⟨ih0, ih1⟩ := auto_Names.mono_l k
 unfold auto_Names.f
 with_reducible repeat' first | exact ih0 _ _ _ | exact ih1 _ _ _ _ | exact LeO.refl _ | exact LeO.none _ | refine LeO.ite ?_ ?_ | refine LeO.bind ?_ (fun _ => ?_)
theorem auto_Names.calls (k : Nat) (A0 : Option Addr) (c0 : Nat) (l0 : List Int) (a1 : Int) (r : Bool) (w : World) (hr0 : Kd.C (Kd.int .i64) w A0 l0.length l0) (hc0 : l0.length ≤ c0) (h : auto_Names.f k l0 a1 = some r) :
    Calls Try.prog 79 #[.slice A0 l0.length c0, .int .i64 a1] w fun e w' => e = .returned (.bool r) ∧ Below w.heap.size w w' := by
 have HR0 := am hr0
 have HC0 := am hc0
 clear hr0 hc0
 have HB := am (Below.refl w.heap.size w)
 have H : (if (l0.length : Int) = a1 then ((auto_within_int.f l0 a1).bind fun t115 => (auto_Names.j0 k l0 a1 (!t115))) else (auto_Names.j0 k l0 a1 true)) = some r := h
 clear h
 have HC3 := am H
 clear H
 go_enter Try.func79, Try.ntmps79
 go_upto_region 1 with (fail)
 go_cut [17] (fun v17 wc => ∃ (kq : Nat) (x17_2 : Bool), v17 = .bool x17_2 ∧ Aside0 (auto_Names.j0 kq l0 a1 x17_2 = some r) ∧ Aside0 (kq ≤ k) ∧ Aside0 (Below w.heap.size w wc))
 case first =>
  have H := HC3.out
  clear HC3
  by_cases c4 : (l0.length : Int) = a1
  rotate_left
  ·rw [if_neg c4] at H
   have c4b0 : ((l0.length : Int) == a1) = false := beq_eq_false_iff_ne.mpr c4
   have c4b1 : ((l0.length : Int) != a1) = true := bne_iff_ne.mpr c4
   (first | rw [c4b0] | (simp only [i64_w, i32_w]; rw [c4b0]) | skip)
   have H' := am H
   clear H
   go_wp2
   go_meet
   case rel => exact ⟨_, (true), zz3, H', ⟨by first | omega | exact Nat.le_refl _⟩, ⟨bw HB.out⟩⟩
  rw [if_pos c4] at H
  have c4b0 : ((l0.length : Int) == a1) = true := beq_iff_eq.mpr c4
  have c4b1 : ((l0.length : Int) != a1) = false := bne_eq_false_iff_eq.mpr c4
  clear c4
  (first | rw [c4b0] | (simp only [i64_w, i32_w]; rw [c4b0]) | skip)
  replace H := Option.bind_eq_some_iff.mp H
  obtain ⟨t115, A50, H⟩ := H
  replace H : (auto_Names.j0 k l0 a1 (!t115)) = some r := H
  have A5 := am A50
  clear A50
  have H' := am H
  clear H
  go_wp2_with (first | (go_at_call 101; (with_reducible refine (auto_within_int.calls _ _ l0 a1 t115 _ ?side1 ?side2 A5.out).mono ?_); (case side1 => exact kc (Kd.C_below HR0.out HB.out)); (case side2 => exact HC0.out); rintro e w6 ⟨rfl, hb⟩; replace HB := am (below_step (bw HB.out) hb); (try clear hb); (try clear hb2); (try clear hk); (try clear hi)))
  go_meet
  case rel => exact ⟨_, (!t115), zz3, H', ⟨by first | omega | exact Nat.le_refl _⟩, ⟨bw HB.out⟩⟩
 case rest =>
  clear HC3
  (try clear p2); (try clear c4); (try clear c4b0); (try clear c4b1)
  obtain ⟨kq, x17_2, rfl, HA, HJ2, HB⟩ := hcut
  cases kq with
  | zero => exact absurd HA.out (by simp [auto_Names.j0])
  | succ kj2 =>
   have H := HA.out
   clear HA
   simp only [auto_Names.j0] at H
   by_cases c7 : x17_2 = true
   ·subst c7
    have H1 : (some false) = some r := by rw [if_pos rfl] at H; exact H
    clear H
    have H := H1
    clear H1
    obtain rfl := Option.some.inj H
    go_wp2
    go_ret
    exact ⟨by first | rfl | (simp [errW_none, errW_some] <;> rfl) | (simp [*, errW_none, errW_some] <;> rfl), bw HB.out⟩
   replace c7 := Bool.eq_false_iff.mpr c7
   subst c7
   have H1 : (if 0 ≤ a1 then (if (a1 : Int).toNat ≤ 281474976710656 then (auto_Names.l0 kj2 (List.replicate (a1 : Int).toNat false) l0 (l0.length : Int) 0) else (none)) else (none)) = some r := by rw [if_neg (show ¬ (false = true) by decide)] at H; exact H
   clear H
   have H := H1
   clear H1
   by_cases c8 : 0 ≤ a1
   rotate_left
   ·rw [if_neg c8] at H
    exact absurd H (by simp)
   rw [if_pos c8] at H
   have c8b0 := eq_true c8
   have c8b1 : decide (0 ≤ a1) = true := decide_eq_true c8
   clear c8
   by_cases c9 : (a1 : Int).toNat ≤ 281474976710656
   rotate_left
   ·rw [if_neg c9] at H
    exact absurd H (by simp)
   rw [if_pos c9] at H
   have c9b0 := eq_true c9
   have c9b1 : decide ((a1 : Int).toNat ≤ 281474976710656) = true := decide_eq_true c9
   clear c9
   obtain ⟨y116, hy116⟩ : ∃ y_ : List Bool, y_ = (List.replicate (a1 : Int).toNat false) := ⟨_, rfl⟩
   replace H : (auto_Names.l0 kj2 y116 l0 (l0.length : Int) 0) = some r := by first | (rw [hy116]; with_reducible exact H) | (have H2_ := (Option.bind_some _ _).symm.trans H; rw [hy116]; with_reducible exact H2_) | (have H2_ := (Option.bind_some _ _).symm.trans H; with_reducible exact H2_) | with_reducible exact H | (rw [hy116]; exact H) | exact H
   have Ny116 := am hy116
   clear hy116
   have H' := am H
   clear H
   go_wp2_with (first | ((with_reducible refine gate_dst (N := 19) rfl ?_); refine Kd.R_make Kd.bool _ 4 rfl (N := 19) rfl 47 _ _ rfl a1 rfl rfl Try.underlying47 (.bool false) 1 info4 rfl (by decide) (by omega) false (ok := fun _ => True) (okp := fun _ => True) rfl (fun _ hk => hk) trivial (od zz2) (Nat.le_trans (Nat.mul_le_mul_right _ (od zz2 : a1.toNat ≤ 281474976710656)) (by omega)) (Below.refl _ _) (Nat.le_refl _) ?_; intro v117 w10 ho11 hb hg_ hnew_; clear hg_ hnew_; (first | rw [← Ny116.out] at ho11 | (simp only [Int.reduceToNat] at ho11; rw [← Ny116.out] at ho11)); have HO118 := am (Kd.R_lower ho11 (below_size (bw HB.out))); replace HB := am (below_step (bw HB.out) hb); clear hb ho11))
   go_loopg [22] kj2 (fun kq v22 w' => ∃ (x5_2 : List Bool) (x22_2 : Int), v22 = .int .i64 x22_2 ∧ Aside0 (auto_Names.l0 kq x5_2 l0 (l0.length : Int) x22_2 = some r) ∧ Aside0 (kq ≤ kj2) ∧ Aside0 (Kd.R Kd.bool 4 w' w.heap.size (fun _ => True) v117 x5_2) ∧ Aside0 (Below w.heap.size w w'))
   case atStart => exact ⟨(y116), (0), zz3, H', ⟨Nat.le_refl _⟩, ⟨kR HO118.out⟩, ⟨bw HB.out⟩⟩
   case round =>
    clear H'
    (try clear p2); (try clear c4); (try clear c4b0); (try clear c4b1); (try clear c7); (try clear c8); (try clear c8b0); (try clear c8b1); (try clear c9); (try clear c9b0); (try clear c9b1); (try clear p2)
    obtain ⟨x5_2, x22_2, rfl, HA, HK2, HO_5, HB⟩ := hrel
    cases gk with
    | zero => exact absurd HA.out (by simp [auto_Names.l0])
    | succ k2 =>
     have H := HA.out
     clear HA
     simp only [auto_Names.l0] at H
     by_cases c12 : x22_2 < (l0.length : Int)
     rotate_left
     ·rw [if_neg c12] at H
      have c12b0 : decide (x22_2 < (l0.length : Int)) = false := decide_eq_false c12
      clear c12
      obtain rfl := Option.some.inj H
      go_wp2
      go_ret
      exact ⟨by first | rfl | (simp [errW_none, errW_some] <;> rfl) | (simp [*, errW_none, errW_some] <;> rfl), bw HB.out⟩
     rw [if_pos c12] at H
     have c12b0 : decide (x22_2 < (l0.length : Int)) = true := decide_eq_true c12
     clear c12
     by_cases c13 : 0 ≤ x22_2
     rotate_left
     ·rw [if_neg c13] at H
      exact absurd H (by simp)
     rw [if_pos c13] at H
     have c13b0 : decide (0 ≤ x22_2) = true := decide_eq_true c13
     clear c13
     by_cases c14 : x22_2 < (l0.length : Int)
     rotate_left
     ·rw [if_neg c14] at H
      exact absurd H (by simp)
     rw [if_pos c14] at H
     have c14b0 : decide (x22_2 < (l0.length : Int)) = true := decide_eq_true c14
     clear c14
     by_cases c15 : 0 ≤ (rd l0 x22_2)
     rotate_left
     ·rw [if_neg c15] at H
      exact absurd H (by simp)
     rw [if_pos c15] at H
     have c15b0 : decide (0 ≤ (rd l0 x22_2)) = true := decide_eq_true c15
     clear c15
     by_cases c16 : (rd l0 x22_2) < (x5_2.length : Int)
     rotate_left
     ·rw [if_neg c16] at H
      exact absurd H (by simp)
     rw [if_pos c16] at H
     have c16b0 : decide ((rd l0 x22_2) < (x5_2.length : Int)) = true := decide_eq_true c16
     clear c16
     obtain ⟨bq17, hbq17⟩ : ∃ b_ : Bool, b_ = (rdOf false x5_2 (rd l0 x22_2)) := ⟨_, rfl⟩
     replace H : (if bq17 = true then (some false) else (auto_Names.l0 k2 (x5_2.set ((rd l0 x22_2) : Int).toNat true) l0 (l0.length : Int) (wrap64 (x22_2 + 1)))) = some r := by rw [← hbq17] at H; exact H
     have Nbq17 := am hbq17
     clear hbq17
     by_cases c18 : bq17 = true
     ·subst c18
      have H1 : (some false) = some r := by rw [if_pos rfl] at H; exact H
      clear H
      have H := H1
      clear H1
      obtain rfl := Option.some.inj H
      have p119 : 0 ≤ (x22_2 : Int) := od zz2
      have q119 : x22_2 < (l0.length : Int) := od zz2
      obtain ⟨ad119, e119, hx119_0⟩ := Kd.at_int HR0.out x22_2 p119 q119
      cases e119
      replace hx119_0 := (HB.out.cell (World.block_lt_of_cell? w _ hx119_0)).trans hx119_0
      replace p119 := eq_true p119
      replace q119 := eq_true q119
      obtain ⟨Ao19, co19, eo19⟩ := Kd.R_slice HO_5.out
      subst eo19
      have p120 : 0 ≤ ((rd l0 x22_2) : Int) := od zz2
      have q120 : (rd l0 x22_2) < (x5_2.length : Int) := od zz2
      obtain ⟨ad120, e120, hx120_0⟩ := Kd.at_bool (Kd.R_reads' HO_5.out).2.2 (rd l0 x22_2) p120 q120
      (try rw [← Nbq17.out] at hx120_0)
      cases e120
      replace p120 := eq_true p120
      replace q120 := eq_true q120
      go_wp2
      go_ret
      exact ⟨by first | rfl | (simp [errW_none, errW_some] <;> rfl) | (simp [*, errW_none, errW_some] <;> rfl), bw HB.out⟩
     replace c18 := Bool.eq_false_iff.mpr c18
     subst c18
     have H1 : (auto_Names.l0 k2 (x5_2.set ((rd l0 x22_2) : Int).toNat true) l0 (l0.length : Int) (wrap64 (x22_2 + 1))) = some r := by rw [if_neg (show ¬ (false = true) by decide)] at H; exact H
     clear H
     have H := H1
     clear H1
     obtain ⟨y121, hy121⟩ : ∃ y_ : List Bool, y_ = (x5_2.set ((rd l0 x22_2) : Int).toNat true) := ⟨_, rfl⟩
     replace H : (auto_Names.l0 k2 y121 l0 (l0.length : Int) (wrap64 (x22_2 + 1))) = some r := by first | (rw [hy121]; with_reducible exact H) | (have H2_ := (Option.bind_some _ _).symm.trans H; rw [hy121]; with_reducible exact H2_) | (have H2_ := (Option.bind_some _ _).symm.trans H; with_reducible exact H2_) | with_reducible exact H | (rw [hy121]; exact H) | exact H
     have Ny121 := am hy121
     clear hy121
     have H' := am H
     clear H
     have p119 : 0 ≤ (x22_2 : Int) := od zz2
     have q119 : x22_2 < (l0.length : Int) := od zz2
     obtain ⟨ad119, e119, hx119_0⟩ := Kd.at_int HR0.out x22_2 p119 q119
     cases e119
     replace hx119_0 := (HB.out.cell (World.block_lt_of_cell? w _ hx119_0)).trans hx119_0
     replace p119 := eq_true p119
     replace q119 := eq_true q119
     obtain ⟨Ao21, co21, eo21⟩ := Kd.R_slice HO_5.out
     subst eo21
     have p120 : 0 ≤ ((rd l0 x22_2) : Int) := od zz2
     have q120 : (rd l0 x22_2) < (x5_2.length : Int) := od zz2
     obtain ⟨ad120, e120, hx120_0⟩ := Kd.at_bool (Kd.R_reads' HO_5.out).2.2 (rd l0 x22_2) p120 q120
     (try rw [← Nbq17.out] at hx120_0)
     cases e120
     replace p120 := eq_true p120
     replace q120 := eq_true q120
     have p20 : 0 ≤ ((rd l0 x22_2) : Int) := od zz2
     have q20 : ((rd l0 x22_2) : Int) < ((x5_2.length : Int) : Int) := od zz2
     obtain ⟨go20, co20, eo20, gb20, gl20, cl20, HG20⟩ := Kd.R_form HO_5.out (by omega)
     (first | cases eo20 | (injection eo20 with ea_ en_ ec_; (first | subst ea_ | (injection ea_ with ea_; subst ea_)); subst ec_; clear en_))
     have GB20 := am gb20
     have GG20 := am HG20
     clear gb20 gl20 HG20
     (first | simp only [add_plain] at hx120_0 | skip)
     obtain ⟨hx20_0, hf20_0⟩ := Kd.R_celln false HO_5.out ((rd l0 x22_2) : Int) p20 q20
     replace p20 := eq_true p20
     replace q20 := eq_true q20
     have HP22 := Kd.R_putg HO_5.out ((rd l0 x22_2) : Int) true
     go_wp2_with (first | ((with_reducible refine gate_store (t := 4) (p := 32) rfl ?_); refine store_event (t := 4) (p := 32) (v := ?vo_w23) (w1 := (wr.setCell ⟨go20, ((rd l0 x22_2) : Int).toNat, none⟩ (.bool true))) zz5 zz5 zz5 zz6 ?_; intro w23 hw; have hg : wr.grownBy w23 (some go20) := (by rw [hw]; exact HP22.2); have hp_ : Kd.R Kd.bool 4 w23 w.heap.size (fun _ => True) (.slice (some ⟨go20, 0, none⟩) x5_2.length co21) y121 := (by rw [hw, Ny121.out]; exact HP22.1); clear HP22; replace HO_5 := am (hp_); replace HB := am ((by rw [hw]; exact below_set (HB.out) GB20.out : Below w.heap.size w w23)); clear hg hw hp_))
     go_roundg k2
     case measure => have := HJ2.out; have := HK2.out; omega
     case rel => exact ⟨(y121), (wrap64 (x22_2 + 1)), zz3, H', ⟨by have := HJ2.out; have := HK2.out; omega⟩, ⟨kR HO_5.out⟩, ⟨bw HB.out⟩⟩
end Go.Proofs.Ytjgdalhdiohclaa.Q
end
section
namespace Go.Proofs.Ytjgdalhdiohclaa.Q
attribute [local go_sem] max2_int min2_int max_two min_two max_three min_three max_four min_four
def auto_Letters.f (l0_0 : List (List Int)) : Option (Int) := if 0 < (l0_0.length : Int) then (some ((rd_L1 l0_0 0).length : Int)) else (none)
theorem auto_Letters.calls (A0_0 : Option Addr) (c0_0 : Nat) (l0_0 : List (List Int)) (r : Int) (w : World) (hr0_0 : Kd.C (Kd.slice 3 (Kd.int .i64)) w A0_0 l0_0.length l0_0) (hc0_0 : l0_0.length ≤ c0_0) (h : auto_Letters.f l0_0 = some r) :
  Calls Try.prog 80 #[.agg #[.slice A0_0 l0_0.length c0_0]] w fun e w' => e = .returned (.int .i64 r) ∧ Below w.heap.size w w' := by
 have hu24 := Try.underlying24
 have HR0_0 := am hr0_0
 have HC0_0 := am hc0_0
 clear hr0_0 hc0_0
 have HB := am (Below.refl w.heap.size w)
 have H : (if 0 < (l0_0.length : Int) then (some ((rd_L1 l0_0 0).length : Int)) else (none)) = some r := h
 clear h
 by_cases c2 : 0 < (l0_0.length : Int)
 ·rw [if_pos c2] at H
  have c2b0 : decide (0 < (l0_0.length : Int)) = true := decide_eq_true c2
  have c2b1 : decide (0 < l0_0.length) = true := decide_eq_true (by omega)
  clear c2
  obtain rfl := Option.some.inj H
  go_enter Try.func80, Try.ntmps80
  go_wp2_with (first | ((with_reducible refine gate_dst (N := 1) rfl ?_); refine box_event zz5 (N := 1) zz5 (cs := #[.slice A0_0 l0_0.length c0_0]) (t := 24) zz6 ?_; intro gb122 hg w3 hbox hb; have BK122 := am (hbox); have GW122 := am ((by rw [hg]; exact (below_size (bw HB.out)) : w.heap.size ≤ gb122)); have GE122 := am ((by rw [hg]; exact (below_size (bw HB.out)) : w.heap.size ≤ gb122)); replace HB := am (below_step (bw HB.out) hb); clear hb hbox hg; have hcz4_0 : w3.cell? ⟨gb122, 0, none⟩ = some (.slice A0_0 l0_0.length c0_0) := (blk_cell BK122.out 0).trans rfl; have hfz4_0 := blk_frozen BK122.out 0; have p123 : 0 ≤ (0 : Int) := (by omega); have q123 : 0 < (l0_0.length : Int) := od zz2; obtain ⟨ad123, A123_0, c123_0, e123, hx123_0, hl123_0, hi123_0⟩ := at_L1 HR0_0.out 0 p123 q123; cases e123; have qi123 : (0 < l0_0.length) = True := eq_true (by omega); (try rw [show ((0 : Int)).toNat = 0 from rfl] at hx123_0); (try rw [Addr.add_zero'] at hx123_0); replace hx123_0 := (HB.out.cell (World.block_lt_of_cell? w _ hx123_0)).trans hx123_0; have HR123_0 := am hi123_0; have HC123_0 := am hl123_0; clear hi123_0 hl123_0; replace p123 := eq_true p123; replace q123 := eq_true q123))
  go_ret
  exact ⟨by first | rfl | (simp [errW_none, errW_some] <;> rfl) | (simp [*, errW_none, errW_some] <;> rfl), bs HB.out⟩
 ·rw [if_neg c2] at H
  exact absurd H (by simp)
end Go.Proofs.Ytjgdalhdiohclaa.Q
end
section
namespace Go.Proofs.Ytjgdalhdiohclaa.Q
def badB (k n : Int) (row : List Int) : Bool := decide ((row.length : Int) ≠ k) || !inB n row
theorem valid1_calls (k n : Int) (K B : Nat) (A A2 : Option Addr) (c c2 m : Nat) (row : List Int) (w : World)
  (hr : Kd.C (Kd.int .i64) w A row.length row) (hc : row.length ≤ c) (hk : w.cell? ⟨K, 0, none⟩ = some (.int .i64 k))
  (hb : w.cell? ⟨B, 0, none⟩ = some (.slice A2 m c2)) (hn : n = m) :
  Calls Try.prog 100 #[.slice A row.length c, .pointer (some ⟨K, 0, none⟩), .pointer (some ⟨B, 0, none⟩)] w fun e w' => e = .returned (.bool (badB k n row)) ∧ Below w.heap.size w w' := by
 subst hn
 have HC := am (within_calls (m : Int) A c row w hr hc)
 clear hr hc
 by_cases h : (row.length : Int) = k
 ·have h1 : ((row.length : Int) != k) = false := bne_eq_false_iff_eq.mpr h
  have HK := am h
  clear h
  go_enter Try.func100, Try.ntmps100
  go_wp2_with (refine (HC.out.mono ?_); rintro e w' ⟨rfl, hb'⟩; have HB := am hb'; clear hb')
  go_ret
  exact ⟨by simp [badB, HK.out], HB.out⟩
 ·have h1 : ((row.length : Int) != k) = true := bne_iff_ne.mpr h
  have HK := am h
  clear h
  go_enter Try.func100, Try.ntmps100
  go_wp2
  go_ret
  exact ⟨by simp [badB, HK.out], Below.refl _ _⟩
theorem index2_calls (F : Nat) (caps : Array Value) (p : List Int → Bool) (A : Option Addr) (c : Nat) (l : List (List Int)) (w : World)
  (hr : Kd.C (Kd.slice 3 (Kd.int .i64)) w A l.length l) (hc : l.length ≤ c)
  (hcall : ∀ a w, Sem.run Try.prog (callFunc F a) w = .ok (.enter F a) w)
  (hp : ∀ W A c row, Below w.heap.size w W → Kd.C (Kd.int .i64) W A row.length row → row.length ≤ c → Calls Try.prog F (#[.slice A row.length c] ++ caps) W fun e w' => e = .returned (.bool (p row)) ∧ Below W.heap.size W w') :
  Calls Try.prog 114 #[.slice A l.length c, .func (.func F) #[] caps] w fun e w' => e = .returned (.int .i64 (findTo p l)) ∧ Below w.heap.size w w' := by
 have hm : l.length ≤ 9223372036854775807 := hr.2.1
 have HP := am hp
 have HR := am hr
 clear hp hr hc
 go_enter Try.func114, Try.ntmps114
 go_wp2
 go_loopw [8] (fun i wr => ∃ x : Int, 0 ≤ x ∧ x ≤ l.length ∧ i = .int .i64 x ∧ Aside0 (NoneTo p l [] x) ∧ Aside0 (Below w.heap.size w wr)) (fun i _ => l.length - (intOf i).toNat)
 case atStart => exact ⟨0, by omega, by omega, rfl, ⟨NoneTo.zero _ _ _⟩, ⟨Below.refl _ _⟩⟩
 case round =>
  obtain ⟨x, h0, h1, rfl, HA, HB⟩ := hrel
  rename_i wr
  by_cases hlt : x < l.length
  ·obtain ⟨ad, A0, c0, e, hx, hl0, hg0⟩ := at_L1 (Kd.C_below HR.out HB.out) x h0 hlt
   cases e
   have c3 : decide (x < (l.length : Int)) = true := decide_eq_true hlt
   have k0 := am h0
   have k1 := am hlt
   have HQ := am (HP.out wr A0 c0 (rd_L1 l x) HB.out hg0 hl0)
   replace h0 := eq_true h0
   replace hlt := eq_true hlt
   clear hl0 hg0
   cases hpx : p (rd_L1 l x) with
   | true =>
    have HF := am (findTo_at HA.out k0.out k1.out hpx)
    have HPX := am hpx
    clear hpx
    go_wp2_with (refine (HQ.out.mono ?_); rintro e w' ⟨rfl, hb'⟩; have HB2 := am hb'; clear hb'; rw [HPX.out])
    go_ret
    exact ⟨by rw [HF.out]; rfl, below_step HB.out HB2.out⟩
   | false =>
    have HF := am (NoneTo.succ HA.out k0.out hpx)
    have HPX := am hpx
    clear hpx
    go_wp2_with (refine (HQ.out.mono ?_); rintro e w' ⟨rfl, hb'⟩; have HB2 := am hb'; clear hb'; rw [HPX.out])
    go_roundw
    case rel => exact ⟨x + 1, by have := k0.out; omega, by have := k1.out; omega, by rw [wrap_in k0.out k1.out hm], HF, ⟨below_step HB.out HB2.out⟩⟩
    case measure => have := k0.out; have := k1.out; rw [wrap_in k0.out k1.out hm]; simp [intOf]; omega
  ·have HF := am (findTo_none HA.out (by omega))
   go_wp2
   go_ret
   exact ⟨by rw [HF.out]; rfl, HB.out⟩
theorem contains2_calls (F : Nat) (caps : Array Value) (p : List Int → Bool) (A : Option Addr) (c : Nat) (l : List (List Int)) (w : World)
  (hr : Kd.C (Kd.slice 3 (Kd.int .i64)) w A l.length l) (hc : l.length ≤ c)
  (hcall : ∀ a w, Sem.run Try.prog (callFunc F a) w = .ok (.enter F a) w)
  (hp : ∀ W A c row, Below w.heap.size w W → Kd.C (Kd.int .i64) W A row.length row → row.length ≤ c → Calls Try.prog F (#[.slice A row.length c] ++ caps) W fun e w' => e = .returned (.bool (p row)) ∧ Below W.heap.size W w') :
  Calls Try.prog 99 #[.slice A l.length c, .func (.func F) #[] caps] w fun e w' => e = .returned (.bool (l.any p)) ∧ Below w.heap.size w w' := by
 have HC := am (index2_calls F caps p A c l w hr hc hcall hp)
 clear hp hcall hr hc
 go_enter Try.func99, Try.ntmps99
 go_wp2_with (refine (HC.out.mono ?_); rintro e w' ⟨rfl, hb'⟩; have HB2 := am hb'; clear hb')
 go_ret
 exact ⟨by rw [← findTo_any]; rfl, HB2.out⟩
theorem call100 (a : Array Value) (w : World) : Sem.run Try.prog (callFunc 100 a) w = .ok (.enter 100 a) w := by
 go_simp
def kOf (l : List (List Int)) : Int := (rd_L1 l 0).length
def validB (l : List (List Int)) : Bool := decide (1 ≤ l.length ∧ l.length ≤ 60 ∧ 1 ≤ kOf l ∧ kOf l ≤ 6) && !l.any (badB (kOf l) l.length)
def auto_Valid.f (l0_0 : List (List Int)) : Option Bool := some (validB l0_0)
theorem auto_Valid.calls (A0_0 : Option Addr) (c0_0 : Nat) (l0_0 : List (List Int)) (r : Bool) (w : World) (hr0_0 : Kd.C (Kd.slice 3 (Kd.int .i64)) w A0_0 l0_0.length l0_0) (hc0_0 : l0_0.length ≤ c0_0) (h : auto_Valid.f l0_0 = some r) :
  Calls Try.prog 63 #[.agg #[.slice A0_0 l0_0.length c0_0]] w fun e w' => e = .returned (.bool r) ∧ Below w.heap.size w w' := by
 obtain rfl := Option.some.inj h
 clear h
 have hm : l0_0.length ≤ 9223372036854775807 := hr0_0.2.1
 by_cases h1 : l0_0.length < 1
 ·have h1' : decide ((l0_0.length : Int) < 1) = true := decide_eq_true (by omega)
  have HV : validB l0_0 = false := by unfold validB; rw [decide_eq_false (by omega)]; rfl
  rw [HV]
  have h1'' := am h1
  clear h1 HV hr0_0 hc0_0
  go_enter Try.func63, Try.ntmps63
  go_wp2
  go_ret
  exact ⟨rfl, by repeat (first | exact Below.refl _ _ | apply ba)⟩
 by_cases h2 : 60 < l0_0.length
 ·have h1' : decide ((l0_0.length : Int) < 1) = false := decide_eq_false (by omega)
  have h2' : decide (60 < (l0_0.length : Int)) = true := decide_eq_true (by omega)
  have HV : validB l0_0 = false := by unfold validB; rw [decide_eq_false (by omega)]; rfl
  rw [HV]
  clear h1 h2 HV hr0_0 hc0_0
  go_enter Try.func63, Try.ntmps63
  go_wp2
  go_ret
  exact ⟨rfl, by repeat (first | exact Below.refl _ _ | apply ba)⟩
 obtain ⟨ad, A0, c0, e, hx, hl0, hg0⟩ := at_L1 hr0_0 0 (by omega) (by omega)
 cases e
 have h1' : decide ((l0_0.length : Int) < 1) = false := decide_eq_false (by omega)
 have h2' : decide (60 < (l0_0.length : Int)) = false := decide_eq_false (by omega)
 have hpos : 0 < l0_0.length := by omega
 have hx' : w.cell? ad = some (.slice A0 (rd_L1 l0_0 0).length c0) := (by simpa [Addr.add] using hx)
 clear hx
 obtain ⟨kk, hkk⟩ : ∃ kk, kk = (rd_L1 l0_0 0).length := ⟨_, rfl⟩
 have hkm : kk ≤ 9223372036854775807 := hkk ▸ hg0.2.1
 rw [← hkk] at hx' hl0
 have hx'' : (w.alloc (.cells #[.slice (some ad) l0_0.length c0_0] 24)).cell? ad = some (.slice A0 kk c0) := pw_cell_below (ba (Below.refl _ _) _) hx'
 have HKK := am hkk
 clear hkk hg0 hl0
 have HR := am hr0_0
 clear hr0_0
 by_cases k1 : 1 ≤ (kk : Int)
 ·by_cases k2 : (kk : Int) ≤ 6
  ·have k1' : decide (1 ≤ (kk : Int)) = true := decide_eq_true k1
   have k2' : decide ((kk : Int) ≤ 6) = true := decide_eq_true k2
   have HV : validB l0_0 = !l0_0.any (badB (kk : Int) l0_0.length) := by
    unfold validB kOf; rw [← HKK.out, decide_eq_true (by omega)]; rfl
   rw [HV]
   have hB := am (ba (ba (Below.refl w.heap.size w) (.cells #[.slice (some ad) l0_0.length c0_0] 24)) (.cells #[.int .i64 (kk : Int)] 3))
   have HC := am (contains2_calls 100 #[.pointer (some ⟨w.heap.size + 1, 0, none⟩), .pointer (some ⟨w.heap.size, 0, none⟩)] (badB (kk : Int) l0_0.length) (some ad) c0_0 l0_0
    ((w.alloc (.cells #[.slice (some ad) l0_0.length c0_0] 24)).alloc (.cells #[.int .i64 (kk : Int)] 3)) (Kd.C_below HR.out hB.out) hc0_0 call100
    (fun W A c row hb hr hc => valid1_calls (kk : Int) _ (w.heap.size + 1) w.heap.size A (some ad) c c0_0 l0_0.length row W hr hc
     ((hb.cell (p := ⟨w.heap.size + 1, 0, none⟩) (by simp)).trans (by simp)) ((hb.cell (p := ⟨w.heap.size, 0, none⟩) (by simp; omega)).trans (by simp)) rfl))
   clear h1 h2 k1 k2 HV hc0_0
   go_enter Try.func63, Try.ntmps63
   go_wp2_with (refine (HC.out.mono ?_); rintro e w' ⟨rfl, hb'⟩; have HB2 := am hb'; clear hb')
   go_ret
   exact ⟨rfl, below_step hB.out HB2.out⟩
  ·have k1' : decide (1 ≤ (kk : Int)) = true := decide_eq_true k1
   have k2' : decide ((kk : Int) ≤ 6) = false := decide_eq_false k2
   have HV : validB l0_0 = false := by unfold validB kOf; rw [← HKK.out, decide_eq_false (by omega)]; rfl
   rw [HV]
   clear h1 h2 k1 k2 HV hc0_0
   go_enter Try.func63, Try.ntmps63
   go_wp2
   go_ret
   exact ⟨rfl, by repeat (first | exact Below.refl _ _ | apply ba)⟩
 ·have k1' : decide (1 ≤ (kk : Int)) = false := decide_eq_false k1
  have HV : validB l0_0 = false := by unfold validB kOf; rw [← HKK.out, decide_eq_false (by omega)]; rfl
  rw [HV]
  clear h1 h2 k1 HV hc0_0
  go_enter Try.func63, Try.ntmps63
  go_wp2
  go_ret
  exact ⟨rfl, by repeat (first | exact Below.refl _ _ | apply ba)⟩
end Go.Proofs.Ytjgdalhdiohclaa.Q
end
section
namespace Go.Proofs.Ytjgdalhdiohclaa.Q
attribute [local go_sem] max2_int min2_int max_two min_two max_three min_three max_four min_four
mutual
def color_Colored.l0 : Nat → List (List Int) → Int → Int → List (List Int) → List (List Int) → Option ((List (List Int)) × Int)
 | 0, _, _, _, _, _ => none
 | k + 1, x25, x26, x27, x125000, x128000 => if x27 < x26 then (if 0 ≤ x27 then (if x27 < (x25.length : Int) then ((auto_Letters.f x125000).bind fun t129 => ((auto_Names.f k (rd_L1 x25 x27) t129).bind fun t130 => (if t130 = true then (color_Colored.l1 k x27 ([] : List Int) x25 x26 x27 (rd_L1 x25 x27) ((rd_L1 x25 x27).length : Int) 0 x125000 x128000) else (some (([] : List (List Int)), 2))))) else (none)) else (none)) else (some (x128000, 0))
def color_Colored.l1 : Nat → Int → List Int → List (List Int) → Int → Int → List Int → Int → Int → List (List Int) → List (List Int) → Option ((List (List Int)) × Int)
 | 0, _, _, _, _, _, _, _, _, _, _ => none
 | k + 1, x7, x9, x25, x26, x27, x38, x39, x40, x125000, x128000 => if x40 < x39 then (if 0 ≤ x40 then (if x40 < (x38.length : Int) then (if 0 ≤ x7 then (if x7 < (x125000.length : Int) then (if 0 ≤ (rd x38 x40) then (if (rd x38 x40) < ((rd_L1 x125000 x7).length : Int) then (if x9.length < 17592186044416 then (color_Colored.l1 k x7 (x9 ++ [rd (rd_L1 x125000 x7) (rd x38 x40)]) x25 x26 x27 x38 x39 (wrap64 (x40 + 1)) x125000 x128000) else (none)) else (none)) else (none)) else (none)) else (none)) else (none)) else (none)) else (if x128000.length < 5864062014805 then (color_Colored.l0 k x25 x26 (wrap64 (x27 + 1)) x125000 (x128000 ++ [x9])) else (none))
end
def color_Colored.f (k : Nat) (l0_0 : List (List Int)) (l1 : List (List Int)) : Option ((List (List Int)) × Int) := (auto_Valid.f l0_0).bind fun t126 => (if t126 = true then (if (l1.length : Int) = (l0_0.length : Int) then (color_Colored.l0 k l1 (l1.length : Int) 0 l0_0 ([] : List (List Int))) else (some (([] : List (List Int)), 2))) else (some (([] : List (List Int)), 1)))
theorem color_Colored.mono_l : ∀ k, (∀ y0 y1 y2 y3 y4, LeO (color_Colored.l0 k y0 y1 y2 y3 y4) (color_Colored.l0 (k + 1) y0 y1 y2 y3 y4)) ∧ (∀ y0 y1 y2 y3 y4 y5 y6 y7 y8 y9, LeO (color_Colored.l1 k y0 y1 y2 y3 y4 y5 y6 y7 y8 y9) (color_Colored.l1 (k + 1) y0 y1 y2 y3 y4 y5 y6 y7 y8 y9))
 | 0 => ⟨fun _ _ _ _ _ r h => by simp [color_Colored.l0] at h, fun _ _ _ _ _ _ _ _ _ _ r h => by simp [color_Colored.l1] at h⟩
 | k + 1 => by
  obtain ⟨ih0, ih1⟩ := color_Colored.mono_l k
  refine ⟨?_, ?_⟩
  ·intro y0 y1 y2 y3 y4
   unfold color_Colored.l0
   with_reducible repeat' first | exact ih0 _ _ _ _ _ | exact ih1 _ _ _ _ _ _ _ _ _ _ | exact auto_Names.mono _ _ _ | exact LeO.refl _ | exact LeO.none _ | refine LeO.ite ?_ ?_ | refine LeO.bind ?_ (fun _ => ?_)
  ·intro y0 y1 y2 y3 y4 y5 y6 y7 y8 y9
   unfold color_Colored.l1
   with_reducible repeat' first | exact ih0 _ _ _ _ _ | exact ih1 _ _ _ _ _ _ _ _ _ _ | exact auto_Names.mono _ _ _ | exact LeO.refl _ | exact LeO.none _ | refine LeO.ite ?_ ?_ | refine LeO.bind ?_ (fun _ => ?_)
theorem color_Colored.mono : ∀ a0 a1 k, LeO (color_Colored.f k a0 a1) (color_Colored.f (k + 1) a0 a1) := by
 intro a0 a1 k
 obtain ⟨ih0, ih1⟩ := color_Colored.mono_l k
 unfold color_Colored.f
 with_reducible repeat' first | exact ih0 _ _ _ _ _ | exact ih1 _ _ _ _ _ _ _ _ _ _ | exact auto_Names.mono _ _ _ | exact LeO.refl _ | exact LeO.none _ | refine LeO.ite ?_ ?_ | refine LeO.bind ?_ (fun _ => ?_)
theorem color_Colored.calls (k : Nat) (A0_0 : Option Addr) (c0_0 : Nat) (l0_0 : List (List Int)) (A1 : Option Addr) (c1 : Nat) (l1 : List (List Int)) (r1 : List (List Int)) (r2 : Int) (w : World) (hr0_0 : Kd.C (Kd.slice 3 (Kd.int .i64)) w A0_0 l0_0.length l0_0) (hc0_0 : l0_0.length ≤ c0_0) (hr1 : Kd.C (Kd.slice 3 (Kd.int .i64)) w A1 l1.length l1) (hc1 : l1.length ≤ c1) (h : color_Colored.f k l0_0 l1 = some (r1, r2)) :
    Calls Try.prog 41 #[.agg #[.slice A0_0 l0_0.length c0_0], .slice A1 l1.length c1] w fun e w' => ∃ v0_ : Value, e = .returned (.tuple #[.agg #[v0_], .int .i64 r2]) ∧ Kd.S (Kd.slice 3 (Kd.int .i64)) 28 w' w.heap.size (fun _ => True) v0_ r1 ∧ Below w.heap.size w w' := by
 have hu24 := Try.underlying24
 have HR0_0 := am hr0_0
 have HC0_0 := am hc0_0
 clear hr0_0 hc0_0
 have HR1 := am hr1
 have HC1 := am hc1
 clear hr1 hc1
 have HB := am (Below.refl w.heap.size w)
 have H : ((auto_Valid.f l0_0).bind fun t126 => (if t126 = true then (if (l1.length : Int) = (l0_0.length : Int) then (color_Colored.l0 k l1 (l1.length : Int) 0 l0_0 ([] : List (List Int))) else (some (([] : List (List Int)), 2))) else (some (([] : List (List Int)), 1)))) = some (r1, r2) := h
 clear h
 replace H := Option.bind_eq_some_iff.mp H
 obtain ⟨t126, A30, H⟩ := H
 replace H : (if t126 = true then (if (l1.length : Int) = (l0_0.length : Int) then (color_Colored.l0 k l1 (l1.length : Int) 0 l0_0 ([] : List (List Int))) else (some (([] : List (List Int)), 2))) else (some (([] : List (List Int)), 1))) = some (r1, r2) := H
 have A3 := am A30
 clear A30
 by_cases c4 : t126 = true
 rotate_left
 ·replace c4 := Bool.eq_false_iff.mpr c4
  subst c4
  have H1 : (some (([] : List (List Int)), 1)) = some (r1, r2) := by rw [if_neg (show ¬ (false = true) by decide)] at H; exact H
  clear H
  have H := H1
  clear H1
  simp only [Option.some.injEq, Prod.mk.injEq] at H
  obtain ⟨rfl, rfl⟩ := H
  go_enter Try.func41, Try.ntmps41
  go_wp2_with (first | ((with_reducible refine gate_dst (N := 2) rfl ?_); refine box_event zz5 (N := 2) zz5 (cs := #[.slice A0_0 l0_0.length c0_0]) (t := 24) zz6 ?_; intro gb124 hg w64 hbox hb; have BK124 := am (hbox); have GW124 := am ((by rw [hg]; exact (below_size (bw HB.out)) : w.heap.size ≤ gb124)); have GE124 := am ((by rw [hg]; exact (below_size (bw HB.out)) : w.heap.size ≤ gb124)); replace HB := am (below_step (bw HB.out) hb); clear hb hbox hg) | ((with_reducible refine gate_dst (N := 4) rfl ?_); refine box_event zz5 (N := 4) zz5 (cs := #[.slice none 0 0]) (t := 24) zz6 ?_; intro gb125 hg w65 hbox hb; have BK125 := am (hbox); have GW125 := am ((by rw [hg]; exact (below_size (bs HB.out)) : w.heap.size ≤ gb125)); have GE125 := am ((by rw [hg]; exact (below_size (bs HB.out)) : w.heap.size ≤ gb125)); replace HB := am (below_step (bs HB.out) hb); have NB124_125 := am ((by rw [hg]; exact Nat.ne_of_lt (blk_lt (g := gb124) (o := .cells #[.slice A0_0 l0_0.length c0_0] 24 (0, 0)) (kb BK124.out)) : gb124 ≠ gb125)); have NB125_124 := am ((by rw [hg]; exact Nat.ne_of_gt (blk_lt (g := gb124) (o := .cells #[.slice A0_0 l0_0.length c0_0] 24 (0, 0)) (kb BK124.out)) : gb125 ≠ gb124)); replace BK124 := am (blk_below (g := gb124) (o := .cells #[.slice A0_0 l0_0.length c0_0] 24 (0, 0)) (kb BK124.out) hb); clear hb hbox hg; have hnb66 := NB124_125.out; have hnc66 := NB125_124.out; have hcz67_0 : w65.cell? ⟨gb124, 0, none⟩ = some (.slice A0_0 l0_0.length c0_0) := (blk_cell BK124.out 0).trans rfl; have hfz67_0 := blk_frozen BK124.out 0) | ((with_reducible refine gate_callee (f := 63) rfl ?_); refine goesL_ (some 14) rfl rfl Try.func63 (by kernel_rfl) rfl #[.agg #[.slice A0_0 l0_0.length c0_0]] rfl zz1 ?_; (with_reducible refine (auto_Valid.calls _ _ l0_0 false _ ?side1 ?side2 A3.out).mono ?_); (case side1 => exact kc (Kd.C_below HR0_0.out HB.out)); (case side2 => exact HC0_0.out); rintro e w68 ⟨rfl, hb⟩; refine ⟨_, rfl, ?_⟩; replace BK124 := am (blk_below (g := gb124) (o := .cells #[.slice A0_0 l0_0.length c0_0] 24 (0, 0)) (kb BK124.out) hb); replace BK125 := am (blk_below (g := gb125) (o := .cells #[.slice none 0 0] 24 (0, 0)) (kb BK125.out) hb); replace HB := am (below_step (bs HB.out) hb); (try clear hb); (try clear hb2); (try clear hk); (try clear hi); have hcz69_0 : w68.cell? ⟨gb125, 0, none⟩ = some (.slice none 0 0) := (blk_cell BK125.out 0).trans rfl; have hfz69_0 := blk_frozen BK125.out 0))
  refine bodyPost_ret (results_ct rfl _ _ gb125 24 #[.slice none 0 0] (0, 0) _ rfl (by (with_reducible repeat (first | refine blk_drewN ?_ _ | refine blk_drew ?_ | refine blk_alloc ?_ _)); refine blk_put (cs := #[.slice none 0 0]) ?_ 0 _ rfl; (with_reducible repeat (first | refine blk_drewN ?_ _ | refine blk_drew ?_ | refine blk_alloc ?_ _)); exact BK125.out) Try.underlying24 rfl (by kernel_rfl)) rfl ?_
  exact ⟨_, by first | rfl | (simp [errW_none, errW_some] <;> rfl) | (simp [*, errW_none, errW_some] <;> rfl), by first | exact Kd.S_nil _ _ _ _ _ | exact Kd.N_nil _ _ _ _ _ | exact Kd.V_nil _ _ _ _ _ | exact Kd.Q_nil _ _ _ _ _ | exact Kd.R_nil _ _ _ _ _, bs HB.out⟩
 subst c4
 have H1 : (if (l1.length : Int) = (l0_0.length : Int) then (color_Colored.l0 k l1 (l1.length : Int) 0 l0_0 ([] : List (List Int))) else (some (([] : List (List Int)), 2))) = some (r1, r2) := by rw [if_pos rfl] at H; exact H
 clear H
 have H := H1
 clear H1
 by_cases c5 : (l1.length : Int) = (l0_0.length : Int)
 rotate_left
 ·rw [if_neg c5] at H
  have c5b0 : ((l1.length : Int) == (l0_0.length : Int)) = false := beq_eq_false_iff_ne.mpr c5
  have c5b1 : ((l1.length : Int) != (l0_0.length : Int)) = true := bne_iff_ne.mpr c5
  have c5b2 : (l1.length == l0_0.length) = false := by first | simpa using c5 | (simp at c5 ⊢; omega)
  simp only [Option.some.injEq, Prod.mk.injEq] at H
  obtain ⟨rfl, rfl⟩ := H
  go_enter Try.func41, Try.ntmps41
  go_wp2_with (first | ((with_reducible refine gate_dst (N := 2) rfl ?_); refine box_event zz5 (N := 2) zz5 (cs := #[.slice A0_0 l0_0.length c0_0]) (t := 24) zz6 ?_; intro gb124 hg w57 hbox hb; have BK124 := am (hbox); have GW124 := am ((by rw [hg]; exact (below_size (bw HB.out)) : w.heap.size ≤ gb124)); have GE124 := am ((by rw [hg]; exact (below_size (bw HB.out)) : w.heap.size ≤ gb124)); replace HB := am (below_step (bw HB.out) hb); clear hb hbox hg) | ((with_reducible refine gate_dst (N := 4) rfl ?_); refine box_event zz5 (N := 4) zz5 (cs := #[.slice none 0 0]) (t := 24) zz6 ?_; intro gb125 hg w58 hbox hb; have BK125 := am (hbox); have GW125 := am ((by rw [hg]; exact (below_size (bs HB.out)) : w.heap.size ≤ gb125)); have GE125 := am ((by rw [hg]; exact (below_size (bs HB.out)) : w.heap.size ≤ gb125)); replace HB := am (below_step (bs HB.out) hb); have NB124_125 := am ((by rw [hg]; exact Nat.ne_of_lt (blk_lt (g := gb124) (o := .cells #[.slice A0_0 l0_0.length c0_0] 24 (0, 0)) (kb BK124.out)) : gb124 ≠ gb125)); have NB125_124 := am ((by rw [hg]; exact Nat.ne_of_gt (blk_lt (g := gb124) (o := .cells #[.slice A0_0 l0_0.length c0_0] 24 (0, 0)) (kb BK124.out)) : gb125 ≠ gb124)); replace BK124 := am (blk_below (g := gb124) (o := .cells #[.slice A0_0 l0_0.length c0_0] 24 (0, 0)) (kb BK124.out) hb); clear hb hbox hg; have hnb59 := NB124_125.out; have hnc59 := NB125_124.out; have hcz60_0 : w58.cell? ⟨gb124, 0, none⟩ = some (.slice A0_0 l0_0.length c0_0) := (blk_cell BK124.out 0).trans rfl; have hfz60_0 := blk_frozen BK124.out 0) | ((with_reducible refine gate_callee (f := 63) rfl ?_); refine goesL_ (some 14) rfl rfl Try.func63 (by kernel_rfl) rfl #[.agg #[.slice A0_0 l0_0.length c0_0]] rfl zz1 ?_; (with_reducible refine (auto_Valid.calls _ _ l0_0 true _ ?side1 ?side2 A3.out).mono ?_); (case side1 => exact kc (Kd.C_below HR0_0.out HB.out)); (case side2 => exact HC0_0.out); rintro e w61 ⟨rfl, hb⟩; refine ⟨_, rfl, ?_⟩; replace BK124 := am (blk_below (g := gb124) (o := .cells #[.slice A0_0 l0_0.length c0_0] 24 (0, 0)) (kb BK124.out) hb); replace BK125 := am (blk_below (g := gb125) (o := .cells #[.slice none 0 0] 24 (0, 0)) (kb BK125.out) hb); replace HB := am (below_step (bs HB.out) hb); (try clear hb); (try clear hb2); (try clear hk); (try clear hi); have hcz62_0 : w61.cell? ⟨gb124, 0, none⟩ = some (.slice A0_0 l0_0.length c0_0) := (blk_cell BK124.out 0).trans rfl; have hfz62_0 := blk_frozen BK124.out 0; have hcz63_0 : w61.cell? ⟨gb125, 0, none⟩ = some (.slice none 0 0) := (blk_cell BK125.out 0).trans rfl; have hfz63_0 := blk_frozen BK125.out 0))
  refine bodyPost_ret (results_ct rfl _ _ gb125 24 #[.slice none 0 0] (0, 0) _ rfl (by (with_reducible repeat (first | refine blk_drewN ?_ _ | refine blk_drew ?_ | refine blk_alloc ?_ _)); refine blk_put (cs := #[.slice none 0 0]) ?_ 0 _ rfl; (with_reducible repeat (first | refine blk_drewN ?_ _ | refine blk_drew ?_ | refine blk_alloc ?_ _)); exact BK125.out) Try.underlying24 rfl (by kernel_rfl)) rfl ?_
  exact ⟨_, by first | rfl | (simp [errW_none, errW_some] <;> rfl) | (simp [*, errW_none, errW_some] <;> rfl), by first | exact Kd.S_nil _ _ _ _ _ | exact Kd.N_nil _ _ _ _ _ | exact Kd.V_nil _ _ _ _ _ | exact Kd.Q_nil _ _ _ _ _ | exact Kd.R_nil _ _ _ _ _, bs HB.out⟩
 rw [if_pos c5] at H
 have c5b0 : ((l1.length : Int) == (l0_0.length : Int)) = true := beq_iff_eq.mpr c5
 have c5b1 : ((l1.length : Int) != (l0_0.length : Int)) = false := bne_eq_false_iff_eq.mpr c5
 have c5b2 : (l1.length == l0_0.length) = true := by first | simpa using c5 | (simp at c5 ⊢; omega)
 clear c5
 have H' := am H
 clear H
 go_enter Try.func41, Try.ntmps41
 go_wp2_with (first | ((with_reducible refine gate_dst (N := 2) rfl ?_); refine box_event zz5 (N := 2) zz5 (cs := #[.slice A0_0 l0_0.length c0_0]) (t := 24) zz6 ?_; intro gb124 hg w6 hbox hb; have BK124 := am (hbox); have GW124 := am ((by rw [hg]; exact (below_size (bw HB.out)) : w.heap.size ≤ gb124)); have GE124 := am ((by rw [hg]; exact (below_size (bw HB.out)) : w.heap.size ≤ gb124)); replace HB := am (below_step (bw HB.out) hb); clear hb hbox hg) | ((with_reducible refine gate_dst (N := 4) rfl ?_); refine box_event zz5 (N := 4) zz5 (cs := #[.slice none 0 0]) (t := 24) zz6 ?_; intro gb125 hg w7 hbox hb; have BK125 := am (hbox); have GW125 := am ((by rw [hg]; exact (below_size (bs HB.out)) : w.heap.size ≤ gb125)); have GE125 := am ((by rw [hg]; exact (below_size (bs HB.out)) : w.heap.size ≤ gb125)); replace HB := am (below_step (bs HB.out) hb); have NB124_125 := am ((by rw [hg]; exact Nat.ne_of_lt (blk_lt (g := gb124) (o := .cells #[.slice A0_0 l0_0.length c0_0] 24 (0, 0)) (kb BK124.out)) : gb124 ≠ gb125)); have NB125_124 := am ((by rw [hg]; exact Nat.ne_of_gt (blk_lt (g := gb124) (o := .cells #[.slice A0_0 l0_0.length c0_0] 24 (0, 0)) (kb BK124.out)) : gb125 ≠ gb124)); replace BK124 := am (blk_below (g := gb124) (o := .cells #[.slice A0_0 l0_0.length c0_0] 24 (0, 0)) (kb BK124.out) hb); clear hb hbox hg; have hnb8 := NB124_125.out; have hnc8 := NB125_124.out; have hcz9_0 : w7.cell? ⟨gb124, 0, none⟩ = some (.slice A0_0 l0_0.length c0_0) := (blk_cell BK124.out 0).trans rfl; have hfz9_0 := blk_frozen BK124.out 0) | ((with_reducible refine gate_callee (f := 63) rfl ?_); refine goesL_ (some 14) rfl rfl Try.func63 (by kernel_rfl) rfl #[.agg #[.slice A0_0 l0_0.length c0_0]] rfl zz1 ?_; (with_reducible refine (auto_Valid.calls _ _ l0_0 true _ ?side1 ?side2 A3.out).mono ?_); (case side1 => exact kc (Kd.C_below HR0_0.out HB.out)); (case side2 => exact HC0_0.out); rintro e w10 ⟨rfl, hb⟩; refine ⟨_, rfl, ?_⟩; replace BK124 := am (blk_below (g := gb124) (o := .cells #[.slice A0_0 l0_0.length c0_0] 24 (0, 0)) (kb BK124.out) hb); replace BK125 := am (blk_below (g := gb125) (o := .cells #[.slice none 0 0] 24 (0, 0)) (kb BK125.out) hb); replace HB := am (below_step (bs HB.out) hb); (try clear hb); (try clear hb2); (try clear hk); (try clear hi); have hcz11_0 : w10.cell? ⟨gb124, 0, none⟩ = some (.slice A0_0 l0_0.length c0_0) := (blk_cell BK124.out 0).trans rfl; have hfz11_0 := blk_frozen BK124.out 0) | ((with_reducible refine gate_dst (N := 6) rfl ?_); refine box_event zz5 (N := 6) zz5 (cs := #[.slice none 0 0]) (t := 24) zz6 ?_; intro gb127 hg w12 hbox hb; have BK127 := am (hbox); have GW127 := am ((by rw [hg]; exact (below_size (bs HB.out)) : w.heap.size ≤ gb127)); have GE127 := am ((by rw [hg]; exact (below_size (bs HB.out)) : w.heap.size ≤ gb127)); replace HB := am (below_step (bs HB.out) hb); have NB124_127 := am ((by rw [hg]; exact Nat.ne_of_lt (blk_lt (g := gb124) (o := .cells #[.slice A0_0 l0_0.length c0_0] 24 (0, 0)) (kb BK124.out)) : gb124 ≠ gb127)); have NB127_124 := am ((by rw [hg]; exact Nat.ne_of_gt (blk_lt (g := gb124) (o := .cells #[.slice A0_0 l0_0.length c0_0] 24 (0, 0)) (kb BK124.out)) : gb127 ≠ gb124)); replace BK124 := am (blk_below (g := gb124) (o := .cells #[.slice A0_0 l0_0.length c0_0] 24 (0, 0)) (kb BK124.out) hb); have NB125_127 := am ((by rw [hg]; exact Nat.ne_of_lt (blk_lt (g := gb125) (o := .cells #[.slice none 0 0] 24 (0, 0)) (kb BK125.out)) : gb125 ≠ gb127)); have NB127_125 := am ((by rw [hg]; exact Nat.ne_of_gt (blk_lt (g := gb125) (o := .cells #[.slice none 0 0] 24 (0, 0)) (kb BK125.out)) : gb127 ≠ gb125)); replace BK125 := am (blk_below (g := gb125) (o := .cells #[.slice none 0 0] 24 (0, 0)) (kb BK125.out) hb); clear hb hbox hg))
 go_loopg [27] k (fun kq v27 w' => ∃ (x27_1 : Int) (x128000_1 : List (List Int)) (u128000 : Value), v27 = .int .i64 x27_1 ∧ Aside0 (color_Colored.l0 kq l1 (l1.length : Int) x27_1 l0_0 x128000_1 = some (r1, r2)) ∧ Aside0 (kq ≤ k) ∧ Aside0 (Kd.S (Kd.slice 3 (Kd.int .i64)) 28 w' w.heap.size (fun _ => True) u128000 x128000_1) ∧ Aside0 (w'.heap[gb124]? = some (.cells #[(.slice A0_0 l0_0.length c0_0)] 24 (0, 0))) ∧ Aside0 (w'.heap[gb125]? = some (.cells #[(.slice none 0 0)] 24 (0, 0))) ∧ Aside0 (w'.heap[gb127]? = some (.cells #[u128000] 24 (0, 0))) ∧ Aside0 (Below w.heap.size w w'))
 case atStart => exact ⟨(0), (([] : List (List Int))), (.slice none 0 0), zz3, H', ⟨Nat.le_refl _⟩, ⟨by first | exact Kd.S_nil _ _ _ _ _ | exact Kd.N_nil _ _ _ _ _ | exact Kd.V_nil _ _ _ _ _ | exact Kd.Q_nil _ _ _ _ _ | exact Kd.R_nil _ _ _ _ _⟩, ⟨kb BK124.out⟩, ⟨kb BK125.out⟩, ⟨kb BK127.out⟩, ⟨bs HB.out⟩⟩
 case round =>
  clear H'
  (try clear c1); (try clear p2); (try clear c4); (try clear c5); (try clear c5b0); (try clear c5b1); (try clear c5b2); (try clear c6); (try clear c8); (try clear hcz11_0); (try clear hcz9_0); (try clear hfz11_0); (try clear hfz9_0)
  obtain ⟨x27_1, x128000_1, u128000, rfl, HA, HK1, HO_128000, BK124, BK125, BK127, HB⟩ := hrel
  cases gk with
  | zero => exact absurd HA.out (by simp [color_Colored.l0])
  | succ k1 =>
   have H := HA.out
   clear HA
   simp only [color_Colored.l0] at H
   by_cases c13 : x27_1 < (l1.length : Int)
   rotate_left
   ·rw [if_neg c13] at H
    have c13b0 : decide (x27_1 < (l1.length : Int)) = false := decide_eq_false c13
    clear c13
    simp only [Option.some.injEq, Prod.mk.injEq] at H
    obtain ⟨rfl, rfl⟩ := H
    have hnb51 := NB127_124.out
    have hnc51 := NB124_127.out
    have hnb52 := NB127_125.out
    have hnc52 := NB125_127.out
    have hcz53_0 : wr.cell? ⟨gb127, 0, none⟩ = some (u128000) := (blk_cell BK127.out 0).trans rfl
    have hfz53_0 := blk_frozen BK127.out 0
    obtain ⟨Ao54, co54, eo54⟩ := Kd.S_slice HO_128000.out
    subst eo54
    have hnb55 := NB125_124.out
    have hnc55 := NB124_125.out
    have hcz56_0 : wr.cell? ⟨gb125, 0, none⟩ = some (.slice none 0 0) := (blk_cell BK125.out 0).trans rfl
    have hfz56_0 := blk_frozen BK125.out 0
    go_wp2
    refine bodyPost_ret (results_ct rfl _ _ gb125 24 #[.slice Ao54 x128000_1.length co54] (0, 0) _ rfl (by (with_reducible repeat (first | refine blk_drewN ?_ _ | refine blk_drew ?_ | refine blk_alloc ?_ _)); refine blk_put (cs := #[.slice none 0 0]) ?_ 0 _ rfl; (with_reducible repeat (first | refine blk_drewN ?_ _ | refine blk_drew ?_ | refine blk_alloc ?_ _)); exact BK125.out) Try.underlying24 rfl (by kernel_rfl)) rfl ?_
    exact ⟨_, by first | rfl | (simp [errW_none, errW_some] <;> rfl) | (simp [*, errW_none, errW_some] <;> rfl), kS (Kd.S_mono (Kd.S_far (p := ⟨gb125, 0, none⟩) (Kd.S_types HO_128000.out BK125.out (by decide)) (fun _ hk => hk.2) (.slice Ao54 x128000_1.length co54)) (fun _ hk => trivial)), bs HB.out⟩
   rw [if_pos c13] at H
   have c13b0 : decide (x27_1 < (l1.length : Int)) = true := decide_eq_true c13
   clear c13
   by_cases c14 : 0 ≤ x27_1
   rotate_left
   ·rw [if_neg c14] at H
    exact absurd H (by simp)
   rw [if_pos c14] at H
   have c14b0 : decide (0 ≤ x27_1) = true := decide_eq_true c14
   clear c14
   by_cases c15 : x27_1 < (l1.length : Int)
   rotate_left
   ·rw [if_neg c15] at H
    exact absurd H (by simp)
   rw [if_pos c15] at H
   have c15b0 : decide (x27_1 < (l1.length : Int)) = true := decide_eq_true c15
   clear c15
   replace H := Option.bind_eq_some_iff.mp H
   obtain ⟨t129, A160, H⟩ := H
   replace H : ((auto_Names.f k1 (rd_L1 l1 x27_1) t129).bind fun t130 => (if t130 = true then (color_Colored.l1 k1 x27_1 ([] : List Int) l1 (l1.length : Int) x27_1 (rd_L1 l1 x27_1) ((rd_L1 l1 x27_1).length : Int) 0 l0_0 x128000_1) else (some (([] : List (List Int)), 2)))) = some (r1, r2) := H
   have A16 := am A160
   clear A160
   replace H := Option.bind_eq_some_iff.mp H
   obtain ⟨t130, A170, H⟩ := H
   replace H : (if t130 = true then (color_Colored.l1 k1 x27_1 ([] : List Int) l1 (l1.length : Int) x27_1 (rd_L1 l1 x27_1) ((rd_L1 l1 x27_1).length : Int) 0 l0_0 x128000_1) else (some (([] : List (List Int)), 2))) = some (r1, r2) := H
   have A17 := am A170
   clear A170
   by_cases c18 : t130 = true
   rotate_left
   ·replace c18 := Bool.eq_false_iff.mpr c18
    subst c18
    have H1 : (some (([] : List (List Int)), 2)) = some (r1, r2) := by rw [if_neg (show ¬ (false = true) by decide)] at H; exact H
    clear H
    have H := H1
    clear H1
    simp only [Option.some.injEq, Prod.mk.injEq] at H
    obtain ⟨rfl, rfl⟩ := H
    have p128 : 0 ≤ (x27_1 : Int) := od zz2
    have q128 : x27_1 < (l1.length : Int) := od zz2
    obtain ⟨ad128, A128_0, c128_0, e128, hx128_0, hl128_0, hi128_0⟩ := at_L1 HR1.out x27_1 p128 q128
    cases e128
    replace hx128_0 := (HB.out.cell (World.block_lt_of_cell? w _ hx128_0)).trans hx128_0
    have HR128_0 := am hi128_0
    have HC128_0 := am hl128_0
    clear hi128_0 hl128_0
    replace p128 := eq_true p128
    replace q128 := eq_true q128
    have hnb44 := NB124_125.out
    have hnc44 := NB125_124.out
    have hnb45 := NB124_127.out
    have hnc45 := NB127_124.out
    have hcz46_0 : wr.cell? ⟨gb124, 0, none⟩ = some (.slice A0_0 l0_0.length c0_0) := (blk_cell BK124.out 0).trans rfl
    have hfz46_0 := blk_frozen BK124.out 0
    go_wp2_with (first | ((with_reducible refine gate_callee (f := 80) rfl ?_); refine goesL_ (some 34) rfl rfl Try.func80 (by kernel_rfl) rfl #[.agg #[.slice A0_0 l0_0.length c0_0]] rfl zz1 ?_; (with_reducible refine (auto_Letters.calls _ _ l0_0 t129 _ ?side1 ?side2 A16.out).mono ?_); (case side1 => exact kc (Kd.C_below HR0_0.out HB.out)); (case side2 => exact HC0_0.out); rintro e w47 ⟨rfl, hb⟩; refine ⟨_, rfl, ?_⟩; replace HO_128000 := am (Kd.S_below (kS HO_128000.out) hb); replace BK124 := am (blk_below (g := gb124) (o := .cells #[.slice A0_0 l0_0.length c0_0] 24 (0, 0)) (kb BK124.out) hb); replace BK125 := am (blk_below (g := gb125) (o := .cells #[.slice none 0 0] 24 (0, 0)) (kb BK125.out) hb); replace BK127 := am (blk_below (g := gb127) (o := .cells #[u128000] 24 (0, 0)) (kb BK127.out) hb); replace HB := am (below_step (bs HB.out) hb); (try clear hb); (try clear hb2); (try clear hk); (try clear hi)) | ((with_reducible refine gate_callee (f := 79) rfl ?_); refine goesL_ (some 35) rfl rfl Try.func79 (by kernel_rfl) rfl #[.slice A128_0 (rd_L1 l1 x27_1).length c128_0, .int .i64 t129] rfl zz1 ?_; (with_reducible refine (auto_Names.calls k1 _ _ (rd_L1 l1 x27_1) t129 false _ ?side1 ?side2 A17.out).mono ?_); (case side1 => exact kc (Kd.C_below HR128_0.out HB.out)); (case side2 => exact HC128_0.out); rintro e w48 ⟨rfl, hb⟩; refine ⟨_, rfl, ?_⟩; replace HO_128000 := am (Kd.S_below (kS HO_128000.out) hb); replace BK124 := am (blk_below (g := gb124) (o := .cells #[.slice A0_0 l0_0.length c0_0] 24 (0, 0)) (kb BK124.out) hb); replace BK125 := am (blk_below (g := gb125) (o := .cells #[.slice none 0 0] 24 (0, 0)) (kb BK125.out) hb); replace BK127 := am (blk_below (g := gb127) (o := .cells #[u128000] 24 (0, 0)) (kb BK127.out) hb); replace HB := am (below_step (bs HB.out) hb); (try clear hb); (try clear hb2); (try clear hk); (try clear hi); have hnb49 := NB125_127.out; have hnc49 := NB127_125.out; have hcz50_0 : w48.cell? ⟨gb125, 0, none⟩ = some (.slice none 0 0) := (blk_cell BK125.out 0).trans rfl; have hfz50_0 := blk_frozen BK125.out 0))
    refine bodyPost_ret (results_ct rfl _ _ gb125 24 #[.slice none 0 0] (0, 0) _ rfl (by (with_reducible repeat (first | refine blk_drewN ?_ _ | refine blk_drew ?_ | refine blk_alloc ?_ _)); refine blk_put (cs := #[.slice none 0 0]) ?_ 0 _ rfl; (with_reducible repeat (first | refine blk_drewN ?_ _ | refine blk_drew ?_ | refine blk_alloc ?_ _)); exact BK125.out) Try.underlying24 rfl (by kernel_rfl)) rfl ?_
    exact ⟨_, by first | rfl | (simp [errW_none, errW_some] <;> rfl) | (simp [*, errW_none, errW_some] <;> rfl), by first | exact Kd.S_nil _ _ _ _ _ | exact Kd.N_nil _ _ _ _ _ | exact Kd.V_nil _ _ _ _ _ | exact Kd.Q_nil _ _ _ _ _ | exact Kd.R_nil _ _ _ _ _, bs HB.out⟩
   subst c18
   have H1 : (color_Colored.l1 k1 x27_1 ([] : List Int) l1 (l1.length : Int) x27_1 (rd_L1 l1 x27_1) ((rd_L1 l1 x27_1).length : Int) 0 l0_0 x128000_1) = some (r1, r2) := by rw [if_pos rfl] at H; exact H
   clear H
   have H := H1
   clear H1
   have H' := am H
   clear H
   have p128 : 0 ≤ (x27_1 : Int) := od zz2
   have q128 : x27_1 < (l1.length : Int) := od zz2
   obtain ⟨ad128, A128_0, c128_0, e128, hx128_0, hl128_0, hi128_0⟩ := at_L1 HR1.out x27_1 p128 q128
   cases e128
   replace hx128_0 := (HB.out.cell (World.block_lt_of_cell? w _ hx128_0)).trans hx128_0
   have HR128_0 := am hi128_0
   have HC128_0 := am hl128_0
   clear hi128_0 hl128_0
   replace p128 := eq_true p128
   replace q128 := eq_true q128
   have hnb19 := NB124_125.out
   have hnc19 := NB125_124.out
   have hnb20 := NB124_127.out
   have hnc20 := NB127_124.out
   have hcz21_0 : wr.cell? ⟨gb124, 0, none⟩ = some (.slice A0_0 l0_0.length c0_0) := (blk_cell BK124.out 0).trans rfl
   have hfz21_0 := blk_frozen BK124.out 0
   go_wp2_with (first | ((with_reducible refine gate_callee (f := 80) rfl ?_); refine goesL_ (some 34) rfl rfl Try.func80 (by kernel_rfl) rfl #[.agg #[.slice A0_0 l0_0.length c0_0]] rfl zz1 ?_; (with_reducible refine (auto_Letters.calls _ _ l0_0 t129 _ ?side1 ?side2 A16.out).mono ?_); (case side1 => exact kc (Kd.C_below HR0_0.out HB.out)); (case side2 => exact HC0_0.out); rintro e w22 ⟨rfl, hb⟩; refine ⟨_, rfl, ?_⟩; replace HO_128000 := am (Kd.S_below (kS HO_128000.out) hb); replace BK124 := am (blk_below (g := gb124) (o := .cells #[.slice A0_0 l0_0.length c0_0] 24 (0, 0)) (kb BK124.out) hb); replace BK125 := am (blk_below (g := gb125) (o := .cells #[.slice none 0 0] 24 (0, 0)) (kb BK125.out) hb); replace BK127 := am (blk_below (g := gb127) (o := .cells #[u128000] 24 (0, 0)) (kb BK127.out) hb); replace HB := am (below_step (bs HB.out) hb); (try clear hb); (try clear hb2); (try clear hk); (try clear hi)) | ((with_reducible refine gate_callee (f := 79) rfl ?_); refine goesL_ (some 35) rfl rfl Try.func79 (by kernel_rfl) rfl #[.slice A128_0 (rd_L1 l1 x27_1).length c128_0, .int .i64 t129] rfl zz1 ?_; (with_reducible refine (auto_Names.calls k1 _ _ (rd_L1 l1 x27_1) t129 true _ ?side1 ?side2 A17.out).mono ?_); (case side1 => exact kc (Kd.C_below HR128_0.out HB.out)); (case side2 => exact HC128_0.out); rintro e w23 ⟨rfl, hb⟩; refine ⟨_, rfl, ?_⟩; replace HO_128000 := am (Kd.S_below (kS HO_128000.out) hb); replace BK124 := am (blk_below (g := gb124) (o := .cells #[.slice A0_0 l0_0.length c0_0] 24 (0, 0)) (kb BK124.out) hb); replace BK125 := am (blk_below (g := gb125) (o := .cells #[.slice none 0 0] 24 (0, 0)) (kb BK125.out) hb); replace BK127 := am (blk_below (g := gb127) (o := .cells #[u128000] 24 (0, 0)) (kb BK127.out) hb); replace HB := am (below_step (bs HB.out) hb); (try clear hb); (try clear hb2); (try clear hk); (try clear hi)))
   go_loopg [9, 40] k1 (fun kq v9 v40 w' => ∃ (x9_2 : List Int) (x40_2 : Int), v40 = .int .i64 x40_2 ∧ Aside0 (color_Colored.l1 kq x27_1 x9_2 l1 (l1.length : Int) x27_1 (rd_L1 l1 x27_1) ((rd_L1 l1 x27_1).length : Int) x40_2 l0_0 x128000_1 = some (r1, r2)) ∧ Aside0 (kq ≤ k1) ∧ Aside0 (Kd.R (Kd.int .i64) 3 w' w.heap.size (fun _ => True) v9 x9_2) ∧ Aside0 (Kd.S (Kd.slice 3 (Kd.int .i64)) 28 w' w.heap.size (fun k_ => some k_ ≠ (v9 : Value).ownBlock) u128000 x128000_1) ∧ Aside0 (w'.heap[gb124]? = some (.cells #[(.slice A0_0 l0_0.length c0_0)] 24 (0, 0))) ∧ Aside0 (w'.heap[gb125]? = some (.cells #[(.slice none 0 0)] 24 (0, 0))) ∧ Aside0 (w'.heap[gb127]? = some (.cells #[u128000] 24 (0, 0))) ∧ Aside0 (Below w.heap.size w w'))
   case atStart => exact ⟨(([] : List Int)), (0), zz3, H', ⟨Nat.le_refl _⟩, ⟨by first | exact Kd.R_nil _ _ _ _ _ | exact Kd.N_nil _ _ _ _ _ | exact Kd.V_nil _ _ _ _ _ | exact Kd.Q_nil _ _ _ _ _ | exact Kd.S_nil _ _ _ _ _⟩, ⟨kS (Kd.S_mono HO_128000.out (fun _ hk => (by simp [Value.ownBlock])))⟩, ⟨kb BK124.out⟩, ⟨kb BK125.out⟩, ⟨kb BK127.out⟩, ⟨bs HB.out⟩⟩
   case round =>
    clear H'
    (try clear c1); (try clear p1); (try clear q1); (try clear hx1); (try clear c2); (try clear p2); (try clear c4); (try clear c5); (try clear c5b0); (try clear c5b1); (try clear c5b2); (try clear c6); (try clear c7); (try clear c8); (try clear c12); (try clear p12); (try clear q12); (try clear hx12); (try clear c13); (try clear c13b0); (try clear c14); (try clear c14b0); (try clear c15); (try clear c15b0); (try clear c18); (try clear c19); (try clear c20); (try clear hcz11_0); (try clear hcz21_0); (try clear hcz9_0); (try clear hfz11_0); (try clear hfz21_0); (try clear hfz9_0); (try clear hx128_0); (try clear p128); (try clear p2); (try clear q128)
    obtain ⟨x9_2, x40_2, rfl, HA, HK2, HO_9, HO_128000, BK124, BK125, BK127, HB⟩ := hrel
    cases gk with
    | zero => exact absurd HA.out (by simp [color_Colored.l1])
    | succ k2 =>
     have H := HA.out
     clear HA
     simp only [color_Colored.l1] at H
     by_cases c24 : x40_2 < ((rd_L1 l1 x27_1).length : Int)
     rotate_left
     ·rw [if_neg c24] at H
      have c24b0 : decide (x40_2 < ((rd_L1 l1 x27_1).length : Int)) = false := decide_eq_false c24
      clear c24
      by_cases c36 : x128000_1.length < 5864062014805
      rotate_left
      ·rw [if_neg c36] at H
       exact absurd H (by simp)
      rw [if_pos c36] at H
      have LMc36 := am c36
      clear c36
      obtain ⟨y137, hy137⟩ : ∃ y_ : List (List Int), y_ = (x128000_1 ++ [x9_2]) := ⟨_, rfl⟩
      replace H : (color_Colored.l0 k2 l1 (l1.length : Int) (wrap64 (x27_1 + 1)) l0_0 y137) = some (r1, r2) := by first | (rw [hy137]; with_reducible exact H) | (have H2_ := (Option.bind_some _ _).symm.trans H; rw [hy137]; with_reducible exact H2_) | (have H2_ := (Option.bind_some _ _).symm.trans H; with_reducible exact H2_) | with_reducible exact H | (rw [hy137]; exact H) | exact H
      have Ny137 := am hy137
      clear hy137
      have H' := am H
      clear H
      have hnb37 := NB127_124.out
      have hnc37 := NB124_127.out
      have hnb38 := NB127_125.out
      have hnc38 := NB125_127.out
      have hcz39_0 : wr.cell? ⟨gb127, 0, none⟩ = some (u128000) := (blk_cell BK127.out 0).trans rfl
      have hfz39_0 := blk_frozen BK127.out 0
      obtain ⟨Ao41, co41, eo41⟩ := Kd.R_slice HO_9.out
      subst eo41
      go_wp2_with (first | ((with_reducible refine gate_builtin (b := .append) (xs := #[.tmp 57, .tmp 59]) rfl ?_); at_builtin; refine Kd.S_append (Kd.slice 3 (Kd.int .i64)) (w0 := w) w.heap.size rfl (.tmp 57) (.tmp 59) 22 28 (.slice none 0 0) 24 rfl Try.underlying22 info28 rfl (by decide) (by omega) u128000 x128000_1 x9_2 [.slice Ao41 x9_2.length co41] (fun _ => True) (fun k_ => some k_ = (.slice Ao41 x9_2.length co41 : Value).ownBlock) rfl rfl ?aP (fun k_ hk_ => ((Kd.R_mono (ok' := fun k_ => ((fun _ => True)) k_ ∧ some k_ ≠ (u128000 : Value).ownBlock) (Kd.R_apart' (HO_9.out) (Kd.S_typed HO_128000.out) (by decide)) (fun k_ hk => ⟨trivial, hk.2⟩))).1 k_ hk_.symm) ?aF ?aO ?aB ?aS ?aL ?_; (case aP => exact Kd.M_row (Kd.R_mono (Kd.R_tight rfl (Kd.R_mono (ok' := fun k_ => ((fun _ => True)) k_ ∧ some k_ ≠ (u128000 : Value).ownBlock) (Kd.R_apart' (HO_9.out) (Kd.S_typed HO_128000.out) (by decide)) (fun k_ hk => ⟨trivial, hk.2⟩))) (fun _ h_ => h_))); (case aB => exact (bs HB.out)); (case aF => exact (fun _ _ => trivial)); (case aO => exact (kS (Kd.S_mono HO_128000.out (fun k_ hk => ⟨trivial, fun e_ => hk e_⟩)))); (case aS => exact (below_size (bs HB.out))); (case aL => have := LMc36.out; omega); intro v138 w40 ho hb hg hat; rw [← Ny137.out] at ho; have n0_ := am (blk_grown (g := gb124) (o := .cells #[.slice A0_0 l0_0.length c0_0] 24 (0, 0)) (kb BK124.out) hg (Kd.S_ne HO_128000.out BK124.out (by decide))); have n1_ := am (blk_grown (g := gb125) (o := .cells #[.slice none 0 0] 24 (0, 0)) (kb BK125.out) hg (Kd.S_ne HO_128000.out BK125.out (by decide))); have n2_ := am (blk_grown (g := gb127) (o := .cells #[u128000] 24 (0, 0)) (kb BK127.out) hg (Kd.S_ne HO_128000.out BK127.out (by decide))); have n3_ := am (hb); have n4_ := am (ho); clear BK124; clear BK125; clear BK127; clear HB; clear HO_128000; clear HO_9; have BK124 := n0_; have BK125 := n1_; have BK127 := n2_; have HB := n3_; have HO139 := n4_; clear n0_ n1_ n2_ n3_ n4_; clear ho hb hg hat; obtain ⟨Ao42, co42, eo42⟩ := Kd.S_slice HO139.out; subst eo42; have hcz43_0 : w40.cell? ⟨gb127, 0, none⟩ = some (u128000) := (blk_cell BK127.out 0).trans rfl; have hfz43_0 := blk_frozen BK127.out 0))
      go_roundg k2
      case measure => have := HK1.out; have := HK2.out; omega
      case rel => exact ⟨(wrap64 (x27_1 + 1)), (y137), (.slice Ao42 y137.length co42), zz3, H', ⟨by have := HK1.out; have := HK2.out; omega⟩, ⟨kS (Kd.S_mono (Kd.S_far (p := ⟨gb127, 0, none⟩) (Kd.S_types HO139.out BK127.out (by decide)) (fun _ hk => hk.2) (.slice Ao42 y137.length co42)) (fun _ hk => trivial))⟩, ⟨by (with_reducible repeat (first | refine blk_drewN ?_ _ | refine blk_drew ?_ | refine blk_alloc ?_ _)); refine blk_far ?_ NB124_127.out _; (with_reducible repeat (first | refine blk_drewN ?_ _ | refine blk_drew ?_ | refine blk_alloc ?_ _)); exact BK124.out⟩, ⟨by (with_reducible repeat (first | refine blk_drewN ?_ _ | refine blk_drew ?_ | refine blk_alloc ?_ _)); refine blk_far ?_ NB125_127.out _; (with_reducible repeat (first | refine blk_drewN ?_ _ | refine blk_drew ?_ | refine blk_alloc ?_ _)); exact BK125.out⟩, ⟨by (with_reducible repeat (first | refine blk_drewN ?_ _ | refine blk_drew ?_ | refine blk_alloc ?_ _)); refine blk_put (cs := #[u128000]) ?_ 0 _ rfl; (with_reducible repeat (first | refine blk_drewN ?_ _ | refine blk_drew ?_ | refine blk_alloc ?_ _)); exact BK127.out⟩, ⟨bs HB.out⟩⟩
     rw [if_pos c24] at H
     have c24b0 : decide (x40_2 < ((rd_L1 l1 x27_1).length : Int)) = true := decide_eq_true c24
     clear c24
     by_cases c25 : 0 ≤ x40_2
     rotate_left
     ·rw [if_neg c25] at H
      exact absurd H (by simp)
     rw [if_pos c25] at H
     have c25b0 : decide (0 ≤ x40_2) = true := decide_eq_true c25
     clear c25
     by_cases c26 : x40_2 < ((rd_L1 l1 x27_1).length : Int)
     rotate_left
     ·rw [if_neg c26] at H
      exact absurd H (by simp)
     rw [if_pos c26] at H
     have c26b0 : decide (x40_2 < ((rd_L1 l1 x27_1).length : Int)) = true := decide_eq_true c26
     clear c26
     by_cases c27 : 0 ≤ x27_1
     rotate_left
     ·rw [if_neg c27] at H
      exact absurd H (by simp)
     rw [if_pos c27] at H
     have c27b0 : decide (0 ≤ x27_1) = true := decide_eq_true c27
     clear c27
     by_cases c28 : x27_1 < (l0_0.length : Int)
     rotate_left
     ·rw [if_neg c28] at H
      exact absurd H (by simp)
     rw [if_pos c28] at H
     have c28b0 : decide (x27_1 < (l0_0.length : Int)) = true := decide_eq_true c28
     clear c28
     by_cases c29 : 0 ≤ (rd (rd_L1 l1 x27_1) x40_2)
     rotate_left
     ·rw [if_neg c29] at H
      exact absurd H (by simp)
     rw [if_pos c29] at H
     have c29b0 : decide (0 ≤ (rd (rd_L1 l1 x27_1) x40_2)) = true := decide_eq_true c29
     clear c29
     by_cases c30 : (rd (rd_L1 l1 x27_1) x40_2) < ((rd_L1 l0_0 x27_1).length : Int)
     rotate_left
     ·rw [if_neg c30] at H
      exact absurd H (by simp)
     rw [if_pos c30] at H
     have c30b0 : decide ((rd (rd_L1 l1 x27_1) x40_2) < ((rd_L1 l0_0 x27_1).length : Int)) = true := decide_eq_true c30
     clear c30
     by_cases c31 : x9_2.length < 17592186044416
     rotate_left
     ·rw [if_neg c31] at H
      exact absurd H (by simp)
     rw [if_pos c31] at H
     have LMc31 := am c31
     clear c31
     obtain ⟨y134, hy134⟩ : ∃ y_ : List Int, y_ = (x9_2 ++ [rd (rd_L1 l0_0 x27_1) (rd (rd_L1 l1 x27_1) x40_2)]) := ⟨_, rfl⟩
     replace H : (color_Colored.l1 k2 x27_1 y134 l1 (l1.length : Int) x27_1 (rd_L1 l1 x27_1) ((rd_L1 l1 x27_1).length : Int) (wrap64 (x40_2 + 1)) l0_0 x128000_1) = some (r1, r2) := by first | (rw [hy134]; with_reducible exact H) | (have H2_ := (Option.bind_some _ _).symm.trans H; rw [hy134]; with_reducible exact H2_) | (have H2_ := (Option.bind_some _ _).symm.trans H; with_reducible exact H2_) | with_reducible exact H | (rw [hy134]; exact H) | exact H
     have Ny134 := am hy134
     clear hy134
     have H' := am H
     clear H
     have p131 : 0 ≤ (x40_2 : Int) := od zz2
     have q131 : x40_2 < ((rd_L1 l1 x27_1).length : Int) := od zz2
     obtain ⟨ad131, e131, hx131_0⟩ := Kd.at_int HR128_0.out x40_2 p131 q131
     cases e131
     replace hx131_0 := (HB.out.cell (World.block_lt_of_cell? w _ hx131_0)).trans hx131_0
     replace p131 := eq_true p131
     replace q131 := eq_true q131
     have hnb32 := NB124_125.out
     have hnc32 := NB125_124.out
     have hnb33 := NB124_127.out
     have hnc33 := NB127_124.out
     have hcz34_0 : wr.cell? ⟨gb124, 0, none⟩ = some (.slice A0_0 l0_0.length c0_0) := (blk_cell BK124.out 0).trans rfl
     have hfz34_0 := blk_frozen BK124.out 0
     have p132 : 0 ≤ (x27_1 : Int) := od zz2
     have q132 : x27_1 < (l0_0.length : Int) := od zz2
     obtain ⟨ad132, A132_0, c132_0, e132, hx132_0, hl132_0, hi132_0⟩ := at_L1 HR0_0.out x27_1 p132 q132
     cases e132
     replace hx132_0 := (HB.out.cell (World.block_lt_of_cell? w _ hx132_0)).trans hx132_0
     have HR132_0 := am hi132_0
     have HC132_0 := am hl132_0
     clear hi132_0 hl132_0
     replace p132 := eq_true p132
     replace q132 := eq_true q132
     have p133 : 0 ≤ ((rd (rd_L1 l1 x27_1) x40_2) : Int) := od zz2
     have q133 : (rd (rd_L1 l1 x27_1) x40_2) < ((rd_L1 l0_0 x27_1).length : Int) := od zz2
     obtain ⟨ad133, e133, hx133_0⟩ := Kd.at_int HR132_0.out (rd (rd_L1 l1 x27_1) x40_2) p133 q133
     cases e133
     replace hx133_0 := (HB.out.cell (World.block_lt_of_cell? w _ hx133_0)).trans hx133_0
     replace p133 := eq_true p133
     replace q133 := eq_true q133
     go_wp2_with (first | ((with_reducible refine gate_builtin (b := .append) (xs := #[.tmp 44, .tmp 53]) rfl ?_); at_builtin; refine Kd.R_append (Kd.int .i64) (w0 := w) w.heap.size rfl (.tmp 44) (.tmp 53) 28 3 (.int .i64 0) 8 rfl Try.underlying28 info3 rfl (by decide) (by omega) u9 x9_2 (rd (rd_L1 l0_0 x27_1) (rd (rd_L1 l1 x27_1) x40_2)) [.int .i64 (rd (rd_L1 l0_0 x27_1) (rd (rd_L1 l1 x27_1) x40_2))] (fun _ => True) (fun _ => False) rfl rfl ?aP (fun _ hk => hk.elim) ?aF ?aO ?aB ?aS ?aL ?_; (case aP => exact rfl); (case aB => exact (bs HB.out)); (case aF => exact (fun _ _ => trivial)); (case aO => exact (kR HO_9.out)); (case aS => exact (below_size (bs HB.out))); (case aL => have := LMc31.out; omega); intro v135 w35 ho hb hg hat; rw [← Ny134.out] at ho; have n0_ := am (Kd.S_after (ok := (fun _ => True)) (kS (Kd.S_mono HO_128000.out (fun _ hk => ⟨trivial, hk⟩))) hg hat); have n1_ := am (blk_grown (g := gb124) (o := .cells #[.slice (some ad132) l0_0.length c0_0] 24 (0, 0)) (kb BK124.out) hg (Kd.R_ne HO_9.out BK124.out (by decide))); have n2_ := am (blk_grown (g := gb125) (o := .cells #[.slice none 0 0] 24 (0, 0)) (kb BK125.out) hg (Kd.R_ne HO_9.out BK125.out (by decide))); have n3_ := am (blk_grown (g := gb127) (o := .cells #[u128000] 24 (0, 0)) (kb BK127.out) hg (Kd.R_ne HO_9.out BK127.out (by decide))); have n4_ := am (hb); have n5_ := am (ho); clear HO_128000; clear BK124; clear BK125; clear BK127; clear HB; clear HO_9; have HO_128000 := n0_; have BK124 := n1_; have BK125 := n2_; have BK127 := n3_; have HB := n4_; have HO136 := n5_; clear n0_ n1_ n2_ n3_ n4_ n5_; clear ho hb hg hat))
     go_roundg k2
     case measure => have := HK1.out; have := HK2.out; omega
     case rel => exact ⟨(y134), (wrap64 (x40_2 + 1)), zz3, H', ⟨by have := HK1.out; have := HK2.out; omega⟩, ⟨kR HO136.out⟩, ⟨kS (Kd.S_mono HO_128000.out (fun _ hk => hk.2))⟩, ⟨kb BK124.out⟩, ⟨kb BK125.out⟩, ⟨kb BK127.out⟩, ⟨bs HB.out⟩⟩
end Go.Proofs.Ytjgdalhdiohclaa.Q
end
section
namespace Go.Proofs.Ytjgdalhdiohclaa.Q
attribute [local go_sem] max2_int min2_int max_two min_two max_three min_three max_four min_four
def slices_Equal_int_int.l0 : Nat → List Int → List Int → Int → Int → Option (Bool)
 | 0, _, _, _, _ => none
 | k + 1, x0, x1, x12, x13 => if x13 < x12 then (if 0 ≤ x13 then (if x13 < (x0.length : Int) then (if x13 < (x1.length : Int) then (if (rd x0 x13) = (rd x1 x13) then (slices_Equal_int_int.l0 k x0 x1 x12 (wrap64 (x13 + 1))) else (some false)) else (none)) else (none)) else (none)) else (some true)
def slices_Equal_int_int.f (k : Nat) (l0 : List Int) (l1 : List Int) : Option (Bool) := if (l0.length : Int) = (l1.length : Int) then (slices_Equal_int_int.l0 k l0 l1 (l0.length : Int) 0) else (some false)
theorem slices_Equal_int_int.mono_l : ∀ k, (∀ y0 y1 y2 y3, LeO (slices_Equal_int_int.l0 k y0 y1 y2 y3) (slices_Equal_int_int.l0 (k + 1) y0 y1 y2 y3))
 | 0 => fun _ _ _ _ r h => by simp [slices_Equal_int_int.l0] at h
 | k + 1 => by
  have ih0 := slices_Equal_int_int.mono_l k
  ·intro y0 y1 y2 y3
   unfold slices_Equal_int_int.l0
   with_reducible repeat' first | exact ih0 _ _ _ _ | exact LeO.refl _ | exact LeO.none _ | refine LeO.ite ?_ ?_ | refine LeO.bind ?_ (fun _ => ?_)
theorem slices_Equal_int_int.mono : ∀ a0 a1 k, LeO (slices_Equal_int_int.f k a0 a1) (slices_Equal_int_int.f (k + 1) a0 a1) := by
 intro a0 a1 k
 have ih0 := slices_Equal_int_int.mono_l k
 unfold slices_Equal_int_int.f
 with_reducible repeat' first | exact ih0 _ _ _ _ | exact LeO.refl _ | exact LeO.none _ | refine LeO.ite ?_ ?_ | refine LeO.bind ?_ (fun _ => ?_)
theorem slices_Equal_int_int.calls (k : Nat) (A0 : Option Addr) (c0 : Nat) (l0 : List Int) (A1 : Option Addr) (c1 : Nat) (l1 : List Int) (r : Bool) (w : World) (hr0 : Kd.C (Kd.int .i64) w A0 l0.length l0) (hc0 : l0.length ≤ c0) (hr1 : Kd.C (Kd.int .i64) w A1 l1.length l1) (hc1 : l1.length ≤ c1) (h : slices_Equal_int_int.f k l0 l1 = some r) :
  Calls Try.prog 81 #[.slice A0 l0.length c0, .slice A1 l1.length c1] w fun e w' => e = .returned (.bool r) ∧ Drawn0 w w' := by
 have HR0 := am hr0
 have HC0 := am hc0
 clear hr0 hc0
 have HR1 := am hr1
 have HC1 := am hc1
 clear hr1 hc1
 have H : (if (l0.length : Int) = (l1.length : Int) then (slices_Equal_int_int.l0 k l0 l1 (l0.length : Int) 0) else (some false)) = some r := h
 clear h
 by_cases c3 : (l0.length : Int) = (l1.length : Int)
 ·rw [if_pos c3] at H
  have c3b0 : ((l0.length : Int) == (l1.length : Int)) = true := beq_iff_eq.mpr c3
  have c3b1 : ((l0.length : Int) != (l1.length : Int)) = false := bne_eq_false_iff_eq.mpr c3
  have c3b2 : (l0.length == l1.length) = true := by first | simpa using c3 | (simp at c3 ⊢; omega)
  clear c3
  have H' := am H
  clear H
  go_enter Try.func81, Try.ntmps81
  go_wp2
  repeat (go_quiet (fail); try go_wp2)
  go_loopg [13] k (fun kq v13 w' => ∃ (x13_1 : Int), v13 = .int .i64 x13_1 ∧ Aside0 (slices_Equal_int_int.l0 kq l0 l1 (l0.length : Int) x13_1 = some r) ∧ Aside0 (kq ≤ k) ∧ Drawn0 w w')
  case atStart => exact ⟨(0), zz3, H', ⟨Nat.le_refl _⟩, by repeat (first | exact Drawn0.refl _ | apply Drawn0.step)⟩
  case round =>
   clear H'
   (try clear c1); (try clear p2); (try clear c3); (try clear c3b0); (try clear c3b1); (try clear c3b2)
   obtain ⟨x13_1, rfl, HA, HK1, ⟨m1, rfl⟩⟩ := hrel
   cases gk with
   | zero => exact absurd HA.out (by simp [slices_Equal_int_int.l0])
   | succ k1 =>
    have H := HA.out
    clear HA
    simp only [slices_Equal_int_int.l0] at H
    by_cases c4 : x13_1 < (l0.length : Int)
    ·rw [if_pos c4] at H
     have c4b0 : decide (x13_1 < (l0.length : Int)) = true := decide_eq_true c4
     clear c4
     by_cases c5 : 0 ≤ x13_1
     ·rw [if_pos c5] at H
      have c5b0 : decide (0 ≤ x13_1) = true := decide_eq_true c5
      clear c5
      by_cases c6 : x13_1 < (l0.length : Int)
      ·rw [if_pos c6] at H
       have c6b0 : decide (x13_1 < (l0.length : Int)) = true := decide_eq_true c6
       clear c6
       by_cases c7 : x13_1 < (l1.length : Int)
       ·rw [if_pos c7] at H
        have c7b0 : decide (x13_1 < (l1.length : Int)) = true := decide_eq_true c7
        clear c7
        by_cases c8 : (rd l0 x13_1) = (rd l1 x13_1)
        ·rw [if_pos c8] at H
         have c8b0 : ((rd l0 x13_1) == (rd l1 x13_1)) = true := beq_iff_eq.mpr c8
         have c8b1 : ((rd l0 x13_1) != (rd l1 x13_1)) = false := bne_eq_false_iff_eq.mpr c8
         clear c8
         have H' := am H
         clear H
         have p140 : 0 ≤ (x13_1 : Int) := od zz2
         have q140 : x13_1 < (l0.length : Int) := od zz2
         obtain ⟨ad140, e140, hx140_0⟩ := Kd.at_int HR0.out x13_1 p140 q140
         cases e140
         replace p140 := eq_true p140
         replace q140 := eq_true q140
         have p141 : 0 ≤ (x13_1 : Int) := od zz2
         have q141 : x13_1 < (l1.length : Int) := od zz2
         obtain ⟨ad141, e141, hx141_0⟩ := Kd.at_int HR1.out x13_1 p141 q141
         cases e141
         replace p141 := eq_true p141
         replace q141 := eq_true q141
         go_wp2
         repeat (go_quiet (fail); try go_wp2)
         go_roundg k1
         case measure => have := HK1.out; omega
         case rel => exact ⟨(wrap64 (x13_1 + 1)), zz3, H', ⟨by have := HK1.out; omega⟩, by repeat (first | exact Drawn0.refl _ | apply Drawn0.step)⟩
        ·rw [if_neg c8] at H
         have c8b0 : ((rd l0 x13_1) == (rd l1 x13_1)) = false := beq_eq_false_iff_ne.mpr c8
         have c8b1 : ((rd l0 x13_1) != (rd l1 x13_1)) = true := bne_iff_ne.mpr c8
         obtain rfl := Option.some.inj H
         have p140 : 0 ≤ (x13_1 : Int) := od zz2
         have q140 : x13_1 < (l0.length : Int) := od zz2
         obtain ⟨ad140, e140, hx140_0⟩ := Kd.at_int HR0.out x13_1 p140 q140
         cases e140
         replace p140 := eq_true p140
         replace q140 := eq_true q140
         have p141 : 0 ≤ (x13_1 : Int) := od zz2
         have q141 : x13_1 < (l1.length : Int) := od zz2
         obtain ⟨ad141, e141, hx141_0⟩ := Kd.at_int HR1.out x13_1 p141 q141
         cases e141
         replace p141 := eq_true p141
         replace q141 := eq_true q141
         go_wp2
         repeat (go_quiet (fail); try go_wp2)
         go_ret
         exact ⟨by first | rfl | (simp; done) | (simp [*]; done), by repeat (first | exact Drawn0.refl _ | apply Drawn0.step)⟩
       ·rw [if_neg c7] at H
        exact absurd H (by simp)
      ·rw [if_neg c6] at H
       exact absurd H (by simp)
     ·rw [if_neg c5] at H
      exact absurd H (by simp)
    ·rw [if_neg c4] at H
     have c4b0 : decide (x13_1 < (l0.length : Int)) = false := decide_eq_false c4
     clear c4
     obtain rfl := Option.some.inj H
     go_wp2
     repeat (go_quiet (fail); try go_wp2)
     go_ret
     exact ⟨by first | rfl | (simp; done) | (simp [*]; done), by repeat (first | exact Drawn0.refl _ | apply Drawn0.step)⟩
 ·rw [if_neg c3] at H
  have c3b0 : ((l0.length : Int) == (l1.length : Int)) = false := beq_eq_false_iff_ne.mpr c3
  have c3b1 : ((l0.length : Int) != (l1.length : Int)) = true := bne_iff_ne.mpr c3
  have c3b2 : (l0.length == l1.length) = false := by first | simpa using c3 | (simp at c3 ⊢; omega)
  obtain rfl := Option.some.inj H
  go_enter Try.func81, Try.ntmps81
  go_wp2
  repeat (go_quiet (fail); try go_wp2)
  go_ret
  exact ⟨by first | rfl | (simp; done) | (simp [*]; done), by repeat (first | exact Drawn0.refl _ | apply Drawn0.step)⟩
end Go.Proofs.Ytjgdalhdiohclaa.Q
end
section
namespace Go.Proofs.Ytjgdalhdiohclaa.Q
attribute [local go_sem] max2_int min2_int max_two min_two max_three min_three max_four min_four
def color_count.l0 : Nat → Int → List (List (List Int)) → Int → Int → Option (Int × Bool)
 | 0, _, _, _, _ => none
 | k + 1, x4, x7, x8, x9 => if x9 < x8 then (if 0 ≤ x9 then (if x9 < (x7.length : Int) then (if ((rd_L2 x7 x9).length : Int) = 0 then (none) else (if x4 > (wrap64 ((1152921504606846976 : Int) / ((rd_L2 x7 x9).length : Int))) then (some (0, false)) else (color_count.l0 k (wrap64 (x4 * ((rd_L2 x7 x9).length : Int))) x7 x8 (wrap64 (x9 + 1))))) else (none)) else (none)) else (some (x4, true))
def color_count.f (k : Nat) (l0 : List (List (List Int))) : Option (Int × Bool) := color_count.l0 k 1 l0 (l0.length : Int) 0
theorem color_count.mono_l : ∀ k, (∀ y0 y1 y2 y3, LeO (color_count.l0 k y0 y1 y2 y3) (color_count.l0 (k + 1) y0 y1 y2 y3))
 | 0 => fun _ _ _ _ r h => by simp [color_count.l0] at h
 | k + 1 => by
  have ih0 := color_count.mono_l k
  ·intro y0 y1 y2 y3
   unfold color_count.l0
   with_reducible repeat' first | exact ih0 _ _ _ _ | exact LeO.refl _ | exact LeO.none _ | refine LeO.ite ?_ ?_ | refine LeO.bind ?_ (fun _ => ?_)
theorem color_count.mono : ∀ a0 k, LeO (color_count.f k a0) (color_count.f (k + 1) a0) := by
 intro a0 k
 have ih0 := color_count.mono_l k
 unfold color_count.f
 with_reducible repeat' first | exact ih0 _ _ _ _ | exact LeO.refl _ | exact LeO.none _ | refine LeO.ite ?_ ?_ | refine LeO.bind ?_ (fun _ => ?_)
theorem color_count.calls (k : Nat) (A0 : Option Addr) (c0 : Nat) (l0 : List (List (List Int))) (r1 : Int) (r2 : Bool) (w : World) (hr0 : Kd.C (Kd.slice 28 (Kd.slice 3 (Kd.int .i64))) w A0 l0.length l0) (hc0 : l0.length ≤ c0) (h : color_count.f k l0 = some (r1, r2)) :
  Calls Try.prog 85 #[.slice A0 l0.length c0] w fun e w' => e = .returned (.tuple #[.int .i64 r1, .bool r2]) ∧ Drawn0 w w' := by
 have HR0 := am hr0
 have HC0 := am hc0
 clear hr0 hc0
 have H : (color_count.l0 k 1 l0 (l0.length : Int) 0) = some (r1, r2) := h
 clear h
 have H' := am H
 clear H
 go_enter Try.func85, Try.ntmps85
 go_wp2
 go_loopg [4, 9] k (fun kq v4 v9 w' => ∃ (x4_1 : Int) (x9_1 : Int), v4 = .int .i64 x4_1 ∧ v9 = .int .i64 x9_1 ∧ Aside0 (color_count.l0 kq x4_1 l0 (l0.length : Int) x9_1 = some (r1, r2)) ∧ Aside0 (kq ≤ k) ∧ Drawn0 w w')
 case atStart => exact ⟨(1), (0), zz3, zz3, H', ⟨Nat.le_refl _⟩, by repeat (first | exact Drawn0.refl _ | apply Drawn0.step)⟩
 case round =>
  clear H'
  obtain ⟨x4_1, x9_1, rfl, rfl, HA, HK1, ⟨m1, rfl⟩⟩ := hrel
  cases gk with
  | zero => exact absurd HA.out (by simp [color_count.l0])
  | succ k1 =>
   have H := HA.out
   clear HA
   simp only [color_count.l0] at H
   by_cases c2 : x9_1 < (l0.length : Int)
   ·rw [if_pos c2] at H
    have c2b0 : decide (x9_1 < (l0.length : Int)) = true := decide_eq_true c2
    clear c2
    by_cases c3 : 0 ≤ x9_1
    ·rw [if_pos c3] at H
     have c3b0 : decide (0 ≤ x9_1) = true := decide_eq_true c3
     clear c3
     by_cases c4 : x9_1 < (l0.length : Int)
     ·rw [if_pos c4] at H
      have c4b0 : decide (x9_1 < (l0.length : Int)) = true := decide_eq_true c4
      clear c4
      by_cases c5 : ((rd_L2 l0 x9_1).length : Int) = 0
      ·rw [if_pos c5] at H
       exact absurd H (by simp)
      ·rw [if_neg c5] at H
       have c5b0 : (((rd_L2 l0 x9_1).length : Int) == 0) = false := beq_eq_false_iff_ne.mpr c5
       have c5b1 : (((rd_L2 l0 x9_1).length : Int) != 0) = true := bne_iff_ne.mpr c5
       have c5b2 : ¬ ((rd_L2 l0 x9_1) = []) := fun h_ => c5 (by rw [h_]; rfl)
       by_cases c6 : x4_1 > (wrap64 ((1152921504606846976 : Int) / ((rd_L2 l0 x9_1).length : Int)))
       ·rw [if_pos c6] at H
        have c6b0 : decide ((wrap64 ((1152921504606846976 : Int) / ((rd_L2 l0 x9_1).length : Int))) < x4_1) = true := decide_eq_true c6
        rw [show wrap64 ((1152921504606846976 : Int) / ((rd_L2 l0 x9_1).length : Int)) = (1152921504606846976 : Int) / ((rd_L2 l0 x9_1).length : Int) from (by have h1_ : (0 : Int) ≤ (1152921504606846976 : Int) / ((rd_L2 l0 x9_1).length : Int) := Int.ediv_nonneg (by decide) (Int.natCast_nonneg _); have h2_ : (1152921504606846976 : Int) / ((rd_L2 l0 x9_1).length : Int) ≤ 1152921504606846976 := Int.ediv_le_self _ (by decide); generalize (1152921504606846976 : Int) / ((rd_L2 l0 x9_1).length : Int) = q_ at h1_ h2_ ⊢; unfold wrap64; omega)] at c6b0
        clear c6
        simp only [Option.some.injEq, Prod.mk.injEq] at H
        obtain ⟨rfl, rfl⟩ := H
        have p297 : 0 ≤ (x9_1 : Int) := od zz2
        have q297 : x9_1 < (l0.length : Int) := od zz2
        obtain ⟨ad297, A297_0, c297_0, e297, hx297_0, hl297_0, hi297_0⟩ := at_L2 HR0.out x9_1 p297 q297
        cases e297
        have HR297_0 := am hi297_0
        have HC297_0 := am hl297_0
        clear hi297_0 hl297_0
        replace p297 := eq_true p297
        replace q297 := eq_true q297
        go_wp2
        go_ret2
        exact ⟨by first | rfl | (simp; done) | (simp [*]; done), by repeat (first | exact Drawn0.refl _ | apply Drawn0.step)⟩
       ·rw [if_neg c6] at H
        have c6b0 : decide ((wrap64 ((1152921504606846976 : Int) / ((rd_L2 l0 x9_1).length : Int))) < x4_1) = false := decide_eq_false c6
        rw [show wrap64 ((1152921504606846976 : Int) / ((rd_L2 l0 x9_1).length : Int)) = (1152921504606846976 : Int) / ((rd_L2 l0 x9_1).length : Int) from (by have h1_ : (0 : Int) ≤ (1152921504606846976 : Int) / ((rd_L2 l0 x9_1).length : Int) := Int.ediv_nonneg (by decide) (Int.natCast_nonneg _); have h2_ : (1152921504606846976 : Int) / ((rd_L2 l0 x9_1).length : Int) ≤ 1152921504606846976 := Int.ediv_le_self _ (by decide); generalize (1152921504606846976 : Int) / ((rd_L2 l0 x9_1).length : Int) = q_ at h1_ h2_ ⊢; unfold wrap64; omega)] at c6b0
        clear c6
        have H' := am H
        clear H
        have p297 : 0 ≤ (x9_1 : Int) := od zz2
        have q297 : x9_1 < (l0.length : Int) := od zz2
        obtain ⟨ad297, A297_0, c297_0, e297, hx297_0, hl297_0, hi297_0⟩ := at_L2 HR0.out x9_1 p297 q297
        cases e297
        have HR297_0 := am hi297_0
        have HC297_0 := am hl297_0
        clear hi297_0 hl297_0
        replace p297 := eq_true p297
        replace q297 := eq_true q297
        go_wp2
        go_roundg k1
        case measure => have := HK1.out; omega
        case rel => exact ⟨(wrap64 (x4_1 * ((rd_L2 l0 x9_1).length : Int))), (wrap64 (x9_1 + 1)), zz3, zz3, H', ⟨by have := HK1.out; omega⟩, by repeat (first | exact Drawn0.refl _ | apply Drawn0.step)⟩
     ·rw [if_neg c4] at H
      exact absurd H (by simp)
    ·rw [if_neg c3] at H
     exact absurd H (by simp)
   ·rw [if_neg c2] at H
    have c2b0 : decide (x9_1 < (l0.length : Int)) = false := decide_eq_false c2
    clear c2
    simp only [Option.some.injEq, Prod.mk.injEq] at H
    obtain ⟨rfl, rfl⟩ := H
    go_wp2
    go_ret2
    exact ⟨by first | rfl | (simp; done) | (simp [*]; done), by repeat (first | exact Drawn0.refl _ | apply Drawn0.step)⟩
end Go.Proofs.Ytjgdalhdiohclaa.Q
end
section
namespace Go.Proofs.Ytjgdalhdiohclaa.Q
attribute [local go_sem] max2_int min2_int max_two min_two max_three min_three max_four min_four
def reset_of.f (a0 : Int) (a1 : Int) : Option (Int × Int) := some (mn a0 a1, mx a0 a1)
theorem reset_of.calls (a0 : Int) (a1 : Int) (r1 : Int) (r2 : Int) (w : World) (h : reset_of.f a0 a1 = some (r1, r2)) :
  Calls Try.prog 132 #[.int .i64 a0, .int .i64 a1] w fun e w' => e = .returned (.agg #[.int .i64 r1, .int .i64 r2]) ∧ Below w.heap.size w w' := by
 have hu97 := Try.underlying97
 have HB := am (Below.refl w.heap.size w)
 have H : (some (mn a0 a1, mx a0 a1)) = some (r1, r2) := h
 clear h
 obtain ⟨ji3, hji3⟩ : ∃ j_ : Int, (mn a0 a1) = j_ := ⟨_, rfl⟩
 replace H : (some (ji3, mx a0 a1)) = some (r1, r2) := by first | (rw [hji3] at H; exact H) | (simp only [hji3] at H ⊢; exact H)
 have hji3_ : (if a1 < a0 then a1 else a0) = ji3 := hji3
 obtain ⟨ji4, hji4⟩ : ∃ j_ : Int, (mx a0 a1) = j_ := ⟨_, rfl⟩
 replace H : (some (ji3, ji4)) = some (r1, r2) := by first | (rw [hji4] at H; exact H) | (simp only [hji4] at H ⊢; exact H)
 have hji4_ : (if a0 < a1 then a1 else a0) = ji4 := hji4
 simp only [Option.some.injEq, Prod.mk.injEq] at H
 obtain ⟨rfl, rfl⟩ := H
 go_enter Try.func132, Try.ntmps132
 go_wp2_with (first | ((with_reducible refine gate_dst (N := 4) rfl ?_); refine box_event zz5 (N := 4) zz5 (cs := #[.int .i64 0, .int .i64 0]) (t := 97) zz6 ?_; intro gb373 hg w5 hbox hb; have BK373 := am (hbox); have GW373 := am ((by rw [hg]; exact (below_size (bw HB.out)) : w.heap.size ≤ gb373)); have GE373 := am ((by rw [hg]; exact (below_size (bw HB.out)) : w.heap.size ≤ gb373)); replace HB := am (below_step (bw HB.out) hb); clear hb hbox hg; have hcz6_0 : w5.cell? ⟨gb373, 0, none⟩ = some (.int .i64 0) := (blk_cell BK373.out 0).trans rfl; have hcz6_1 : w5.cell? ⟨gb373, 1, none⟩ = some (.int .i64 0) := (blk_cell BK373.out 1).trans rfl; have hfz6_0 := blk_frozen BK373.out 0; have hfz6_1 := blk_frozen BK373.out 1))
 refine bodyPost_ret (results_cell_row rfl _ _ gb373 97 #[.int .i64 ji3, .int .i64 ji4] (0, 0) _ rfl (by (with_reducible repeat (first | refine blk_drewN ?_ _ | refine blk_drew ?_ | refine blk_alloc ?_ _)); refine blk_put (cs := #[.int .i64 ji3, .int .i64 0]) ?_ 1 _ rfl; (with_reducible repeat (first | refine blk_drewN ?_ _ | refine blk_drew ?_ | refine blk_alloc ?_ _)); refine blk_put (cs := #[.int .i64 0, .int .i64 0]) ?_ 0 _ rfl; (with_reducible repeat (first | refine blk_drewN ?_ _ | refine blk_drew ?_ | refine blk_alloc ?_ _)); exact BK373.out) Try.underlying97 rfl (by kernel_rfl)) rfl ?_
 exact ⟨by first | rfl | (simp [errW_none, errW_some] <;> rfl) | (simp only [← hji3, ← hji4]; first | rfl | (simp [errW_none, errW_some] <;> rfl)) | (simp [*, errW_none, errW_some] <;> rfl), bs HB.out⟩
end Go.Proofs.Ytjgdalhdiohclaa.Q
end
section
namespace Go.Proofs.Ytjgdalhdiohclaa.Q
attribute [local go_sem] max2_int min2_int max_two min_two max_three min_three max_four min_four
end Go.Proofs.Ytjgdalhdiohclaa.Q
end
section
namespace Go.Proofs.Ytjgdalhdiohclaa.Q
attribute [local go_sem] max2_int min2_int max_two min_two max_three min_three max_four min_four
def auto_All.l0 : Nat → List Int → Int → Int → Option (List Int)
 | 0, _, _, _ => none
 | k + 1, x3, x8, x9 => if x9 < x8 then (if x3.length < 17592186044416 then (auto_All.l0 k (x3 ++ [x9]) x8 (wrap64 (x9 + 1))) else (none)) else (some x3)
def auto_All.f (k : Nat) (l0_0 : List (List Int)) : Option (List Int) := auto_All.l0 k (([] : List Int)) (l0_0.length : Int) 0
theorem auto_All.mono_l : ∀ k, (∀ y0 y1 y2, LeO (auto_All.l0 k y0 y1 y2) (auto_All.l0 (k + 1) y0 y1 y2))
 | 0 => fun _ _ _ r h => by simp [auto_All.l0] at h
 | k + 1 => by
  have ih0 := auto_All.mono_l k
  ·intro y0 y1 y2
   unfold auto_All.l0
   with_reducible repeat' first | exact ih0 _ _ _ | exact LeO.refl _ | exact LeO.none _ | refine LeO.ite ?_ ?_ | refine LeO.bind ?_ (fun _ => ?_)
theorem auto_All.mono : ∀ a0 k, LeO (auto_All.f k a0) (auto_All.f (k + 1) a0) := by
 intro a0 k
 have ih0 := auto_All.mono_l k
 unfold auto_All.f
 with_reducible repeat' first | exact ih0 _ _ _ | exact LeO.refl _ | exact LeO.none _ | refine LeO.ite ?_ ?_ | refine LeO.bind ?_ (fun _ => ?_)
theorem auto_All.calls (k : Nat) (A0_0 : Option Addr) (c0_0 : Nat) (l0_0 : List (List Int)) (r : List Int) (w : World) (hr0_0 : Kd.C (Kd.slice 3 (Kd.int .i64)) w A0_0 l0_0.length l0_0) (hc0_0 : l0_0.length ≤ c0_0) (h : auto_All.f k l0_0 = some r) :
  Calls Try.prog 93 #[.agg #[.slice A0_0 l0_0.length c0_0]] w fun e w' => ∃ v0_ : Value, e = .returned (v0_) ∧ Kd.R (Kd.int .i64) 3 w' w.heap.size (fun _ => True) v0_ r ∧ Below w.heap.size w w' := by
 have hu24 := Try.underlying24
 have HR0_0 := am hr0_0
 have HC0_0 := am hc0_0
 clear hr0_0 hc0_0
 have HB := am (Below.refl w.heap.size w)
 have H : (auto_All.l0 k (([] : List Int)) (l0_0.length : Int) 0) = some r := h
 clear h
 obtain ⟨y383, hy383⟩ : ∃ y_ : List Int, y_ = (([] : List Int)) := ⟨_, rfl⟩
 replace H : (auto_All.l0 k y383 (l0_0.length : Int) 0) = some r := by first | (rw [hy383]; with_reducible exact H) | (have H2_ := (Option.bind_some _ _).symm.trans H; rw [hy383]; with_reducible exact H2_) | (have H2_ := (Option.bind_some _ _).symm.trans H; with_reducible exact H2_) | with_reducible exact H | (rw [hy383]; exact H) | exact H
 have Ny383 := am hy383
 clear hy383
 have H' := am H
 clear H
 go_enter Try.func93, Try.ntmps93
 go_wp2_with (first | ((with_reducible refine gate_dst (N := 1) rfl ?_); refine box_event zz5 (N := 1) zz5 (cs := #[.slice A0_0 l0_0.length c0_0]) (t := 24) zz6 ?_; intro gb382 hg w2 hbox hb; have BK382 := am (hbox); have GW382 := am ((by rw [hg]; exact (below_size (bw HB.out)) : w.heap.size ≤ gb382)); have GE382 := am ((by rw [hg]; exact (below_size (bw HB.out)) : w.heap.size ≤ gb382)); replace HB := am (below_step (bw HB.out) hb); clear hb hbox hg) | ((with_reducible refine gate_dst (N := 5) rfl ?_); refine Kd.R_lit (Kd.int .i64) _ 3 zz5 (N := 5) zz5 (xs := ([] : List Int)) (inner := []) (ok := fun _ => True) (okp := fun _ => True) zz6 ?hp (fun _ hk => hk) trivial (Below.refl _ _) (Nat.le_refl _) (by simp) ?_; (case hp => exact (Reps.none _ _)); intro v384 w3 ho4 hb hg_ hnew_; clear hg_ hnew_; (first | rw [← Ny383.out] at ho4 | (simp only [Int.reduceToNat] at ho4; rw [← Ny383.out] at ho4)); have HO385 := am (Kd.R_lower ho4 (below_size (bs HB.out))); replace BK382 := am (blk_below (g := gb382) (o := .cells #[.slice A0_0 l0_0.length c0_0] 24 (0, 0)) (kb BK382.out) hb); replace HB := am (below_step (bs HB.out) hb); clear hb ho4; have hcz5_0 : w3.cell? ⟨gb382, 0, none⟩ = some (.slice A0_0 l0_0.length c0_0) := (blk_cell BK382.out 0).trans rfl; have hfz5_0 := blk_frozen BK382.out 0))
 go_loopg [3, 9] k (fun kq v3 v9 w' => ∃ (x3_1 : List Int) (x9_1 : Int), v9 = .int .i64 x9_1 ∧ Aside0 (auto_All.l0 kq x3_1 (l0_0.length : Int) x9_1 = some r) ∧ Aside0 (kq ≤ k) ∧ Aside0 (Kd.R (Kd.int .i64) 3 w' w.heap.size (fun _ => True) v3 x3_1) ∧ Aside0 (w'.heap[gb382]? = some (.cells #[(.slice A0_0 l0_0.length c0_0)] 24 (0, 0))) ∧ Aside0 (Below w.heap.size w w'))
 case atStart => exact ⟨(y383), (0), zz3, H', ⟨Nat.le_refl _⟩, ⟨kR HO385.out⟩, ⟨kb BK382.out⟩, ⟨bs HB.out⟩⟩
 case round =>
  clear H'
  (try clear p2); (try clear hcz5_0); (try clear hfz5_0)
  obtain ⟨x3_1, x9_1, rfl, HA, HK1, HO_3, BK382, HB⟩ := hrel
  cases gk with
  | zero => exact absurd HA.out (by simp [auto_All.l0])
  | succ k1 =>
   have H := HA.out
   clear HA
   simp only [auto_All.l0] at H
   by_cases c6 : x9_1 < (l0_0.length : Int)
   ·rw [if_pos c6] at H
    have c6b0 : decide (x9_1 < (l0_0.length : Int)) = true := decide_eq_true c6
    clear c6
    by_cases c7 : x3_1.length < 17592186044416
    ·rw [if_pos c7] at H
     have LMc7 := am c7
     clear c7
     obtain ⟨y386, hy386⟩ : ∃ y_ : List Int, y_ = (x3_1 ++ [x9_1]) := ⟨_, rfl⟩
     replace H : (auto_All.l0 k1 y386 (l0_0.length : Int) (wrap64 (x9_1 + 1))) = some r := by first | (rw [hy386]; with_reducible exact H) | (have H2_ := (Option.bind_some _ _).symm.trans H; rw [hy386]; with_reducible exact H2_) | (have H2_ := (Option.bind_some _ _).symm.trans H; with_reducible exact H2_) | with_reducible exact H | (rw [hy386]; exact H) | exact H
     have Ny386 := am hy386
     clear hy386
     have H' := am H
     clear H
     go_wp2_with (first | ((with_reducible refine gate_builtin (b := .append) (xs := #[.tmp 12, .tmp 14]) rfl ?_); at_builtin; refine Kd.R_append (Kd.int .i64) (w0 := w) w.heap.size rfl (.tmp 12) (.tmp 14) 28 3 (.int .i64 0) 8 rfl Try.underlying28 info3 rfl (by decide) (by omega) u3 x3_1 x9_1 [.int .i64 x9_1] (fun _ => True) (fun _ => False) rfl rfl ?aP (fun _ hk => hk.elim) ?aF ?aO ?aB ?aS ?aL ?_; (case aP => exact rfl); (case aB => exact (bs HB.out)); (case aF => exact (fun _ _ => trivial)); (case aO => exact (kR HO_3.out)); (case aS => exact (below_size (bs HB.out))); (case aL => have := LMc7.out; omega); intro v387 w8 ho hb hg hat; rw [← Ny386.out] at ho; have n0_ := am (blk_grown (g := gb382) (o := .cells #[.slice A0_0 l0_0.length c0_0] 24 (0, 0)) (kb BK382.out) hg (Kd.R_ne HO_3.out BK382.out (by decide))); have n1_ := am (hb); have n2_ := am (ho); clear BK382; clear HB; clear HO_3; have BK382 := n0_; have HB := n1_; have HO388 := n2_; clear n0_ n1_ n2_; clear ho hb hg hat))
     go_roundg k1
     case measure => have := HK1.out; omega
     case rel => exact ⟨(y386), (wrap64 (x9_1 + 1)), zz3, H', ⟨by have := HK1.out; omega⟩, ⟨kR HO388.out⟩, ⟨kb BK382.out⟩, ⟨bs HB.out⟩⟩
    ·rw [if_neg c7] at H
     exact absurd H (by simp)
   ·rw [if_neg c6] at H
    have c6b0 : decide (x9_1 < (l0_0.length : Int)) = false := decide_eq_false c6
    clear c6
    obtain rfl := Option.some.inj H
    go_wp2
    go_ret
    exact ⟨_, by first | rfl | (simp [errW_none, errW_some] <;> rfl) | (simp [*, errW_none, errW_some] <;> rfl), kR HO_3.out, bs HB.out⟩
end Go.Proofs.Ytjgdalhdiohclaa.Q
end
section
namespace Go.Proofs.Ytjgdalhdiohclaa.Q
attribute [local go_sem] max2_int min2_int max_two min_two max_three min_three max_four min_four
def auto_Lead.l0 : Nat → Int → List Int → Int → Int → List (List Int) → Option (Int)
 | 0, _, _, _, _, _ => none
 | k + 1, x1, x9, x10, x11, x356000 => if x11 < x10 then (if 0 ≤ x11 then (if x11 < (x9.length : Int) then (if 0 ≤ x1 then (if x1 < (x356000.length : Int) then (if 0 ≤ (rd x9 x11) then (if (rd x9 x11) < ((rd_L1 x356000 x1).length : Int) then (auto_Lead.l0 k (rd (rd_L1 x356000 x1) (rd x9 x11)) x9 x10 (wrap64 (x11 + 1)) x356000) else (none)) else (none)) else (none)) else (none)) else (none)) else (none)) else (some x1)
def auto_Lead.f (k : Nat) (l0_0 : List (List Int)) (a1 : Int) (l2 : List Int) : Option (Int) := auto_Lead.l0 k a1 l2 (l2.length : Int) 0 l0_0
theorem auto_Lead.mono_l : ∀ k, (∀ y0 y1 y2 y3 y4, LeO (auto_Lead.l0 k y0 y1 y2 y3 y4) (auto_Lead.l0 (k + 1) y0 y1 y2 y3 y4))
 | 0 => fun _ _ _ _ _ r h => by simp [auto_Lead.l0] at h
 | k + 1 => by
  have ih0 := auto_Lead.mono_l k
  ·intro y0 y1 y2 y3 y4
   unfold auto_Lead.l0
   with_reducible repeat' first | exact ih0 _ _ _ _ _ | exact LeO.refl _ | exact LeO.none _ | refine LeO.ite ?_ ?_ | refine LeO.bind ?_ (fun _ => ?_)
theorem auto_Lead.mono : ∀ a0 a1 a2 k, LeO (auto_Lead.f k a0 a1 a2) (auto_Lead.f (k + 1) a0 a1 a2) := by
 intro a0 a1 a2 k
 have ih0 := auto_Lead.mono_l k
 unfold auto_Lead.f
 with_reducible repeat' first | exact ih0 _ _ _ _ _ | exact LeO.refl _ | exact LeO.none _ | refine LeO.ite ?_ ?_ | refine LeO.bind ?_ (fun _ => ?_)
theorem auto_Lead.calls (k : Nat) (A0_0 : Option Addr) (c0_0 : Nat) (l0_0 : List (List Int)) (a1 : Int) (A2 : Option Addr) (c2 : Nat) (l2 : List Int) (r : Int) (w : World) (hr0_0 : Kd.C (Kd.slice 3 (Kd.int .i64)) w A0_0 l0_0.length l0_0) (hc0_0 : l0_0.length ≤ c0_0) (hr2 : Kd.C (Kd.int .i64) w A2 l2.length l2) (hc2 : l2.length ≤ c2) (h : auto_Lead.f k l0_0 a1 l2 = some r) :
  Calls Try.prog 74 #[.agg #[.slice A0_0 l0_0.length c0_0], .int .i64 a1, .slice A2 l2.length c2] w fun e w' => e = .returned (.int .i64 r) ∧ Below w.heap.size w w' := by
 have hu24 := Try.underlying24
 have HR0_0 := am hr0_0
 have HC0_0 := am hc0_0
 clear hr0_0 hc0_0
 have HR2 := am hr2
 have HC2 := am hc2
 clear hr2 hc2
 have HB := am (Below.refl w.heap.size w)
 have H : (auto_Lead.l0 k a1 l2 (l2.length : Int) 0 l0_0) = some r := h
 clear h
 have H' := am H
 clear H
 go_enter Try.func74, Try.ntmps74
 go_wp2_with (first | ((with_reducible refine gate_dst (N := 3) rfl ?_); refine box_event zz5 (N := 3) zz5 (cs := #[.slice A0_0 l0_0.length c0_0]) (t := 24) zz6 ?_; intro gb355 hg w4 hbox hb; have BK355 := am (hbox); have GW355 := am ((by rw [hg]; exact (below_size (bw HB.out)) : w.heap.size ≤ gb355)); have GE355 := am ((by rw [hg]; exact (below_size (bw HB.out)) : w.heap.size ≤ gb355)); replace HB := am (below_step (bw HB.out) hb); clear hb hbox hg))
 go_loopg [1, 11] k (fun kq v1 v11 w' => ∃ (x1_1 : Int) (x11_1 : Int), v1 = .int .i64 x1_1 ∧ v11 = .int .i64 x11_1 ∧ Aside0 (auto_Lead.l0 kq x1_1 l2 (l2.length : Int) x11_1 l0_0 = some r) ∧ Aside0 (kq ≤ k) ∧ Aside0 (w'.heap[gb355]? = some (.cells #[(.slice A0_0 l0_0.length c0_0)] 24 (0, 0))) ∧ Aside0 (Below w.heap.size w w'))
 case atStart => exact ⟨(a1), (0), zz3, zz3, H', ⟨Nat.le_refl _⟩, ⟨kb BK355.out⟩, ⟨bs HB.out⟩⟩
 case round =>
  clear H'
  (try clear c2); (try clear p2)
  obtain ⟨x1_1, x11_1, rfl, rfl, HA, HK1, BK355, HB⟩ := hrel
  cases gk with
  | zero => exact absurd HA.out (by simp [auto_Lead.l0])
  | succ k1 =>
   have H := HA.out
   clear HA
   simp only [auto_Lead.l0] at H
   by_cases c5 : x11_1 < (l2.length : Int)
   ·rw [if_pos c5] at H
    have c5b0 : decide (x11_1 < (l2.length : Int)) = true := decide_eq_true c5
    clear c5
    by_cases c6 : 0 ≤ x11_1
    ·rw [if_pos c6] at H
     have c6b0 : decide (0 ≤ x11_1) = true := decide_eq_true c6
     clear c6
     by_cases c7 : x11_1 < (l2.length : Int)
     ·rw [if_pos c7] at H
      have c7b0 : decide (x11_1 < (l2.length : Int)) = true := decide_eq_true c7
      clear c7
      by_cases c8 : 0 ≤ x1_1
      ·rw [if_pos c8] at H
       have c8b0 : decide (0 ≤ x1_1) = true := decide_eq_true c8
       clear c8
       by_cases c9 : x1_1 < (l0_0.length : Int)
       ·rw [if_pos c9] at H
        have c9b0 : decide (x1_1 < (l0_0.length : Int)) = true := decide_eq_true c9
        clear c9
        by_cases c10 : 0 ≤ (rd l2 x11_1)
        ·rw [if_pos c10] at H
         have c10b0 : decide (0 ≤ (rd l2 x11_1)) = true := decide_eq_true c10
         clear c10
         by_cases c11 : (rd l2 x11_1) < ((rd_L1 l0_0 x1_1).length : Int)
         ·rw [if_pos c11] at H
          have c11b0 : decide ((rd l2 x11_1) < ((rd_L1 l0_0 x1_1).length : Int)) = true := decide_eq_true c11
          clear c11
          have H' := am H
          clear H
          have p356 : 0 ≤ (x11_1 : Int) := od zz2
          have q356 : x11_1 < (l2.length : Int) := od zz2
          obtain ⟨ad356, e356, hx356_0⟩ := Kd.at_int HR2.out x11_1 p356 q356
          cases e356
          replace hx356_0 := (HB.out.cell (World.block_lt_of_cell? w _ hx356_0)).trans hx356_0
          replace p356 := eq_true p356
          replace q356 := eq_true q356
          have hcz12_0 : wr.cell? ⟨gb355, 0, none⟩ = some (.slice A0_0 l0_0.length c0_0) := (blk_cell BK355.out 0).trans rfl
          have hfz12_0 := blk_frozen BK355.out 0
          have p357 : 0 ≤ (x1_1 : Int) := od zz2
          have q357 : x1_1 < (l0_0.length : Int) := od zz2
          obtain ⟨ad357, A357_0, c357_0, e357, hx357_0, hl357_0, hi357_0⟩ := at_L1 HR0_0.out x1_1 p357 q357
          cases e357
          replace hx357_0 := (HB.out.cell (World.block_lt_of_cell? w _ hx357_0)).trans hx357_0
          have HR357_0 := am hi357_0
          have HC357_0 := am hl357_0
          clear hi357_0 hl357_0
          replace p357 := eq_true p357
          replace q357 := eq_true q357
          have p358 : 0 ≤ ((rd l2 x11_1) : Int) := od zz2
          have q358 : (rd l2 x11_1) < ((rd_L1 l0_0 x1_1).length : Int) := od zz2
          obtain ⟨ad358, e358, hx358_0⟩ := Kd.at_int HR357_0.out (rd l2 x11_1) p358 q358
          cases e358
          replace hx358_0 := (HB.out.cell (World.block_lt_of_cell? w _ hx358_0)).trans hx358_0
          replace p358 := eq_true p358
          replace q358 := eq_true q358
          go_wp2
          go_roundg k1
          case measure => have := HK1.out; omega
          case rel => exact ⟨(rd (rd_L1 l0_0 x1_1) (rd l2 x11_1)), (wrap64 (x11_1 + 1)), zz3, zz3, H', ⟨by have := HK1.out; omega⟩, ⟨kb BK355.out⟩, ⟨bs HB.out⟩⟩
         ·rw [if_neg c11] at H
          exact absurd H (by simp)
        ·rw [if_neg c10] at H
         exact absurd H (by simp)
       ·rw [if_neg c9] at H
        exact absurd H (by simp)
      ·rw [if_neg c8] at H
       exact absurd H (by simp)
     ·rw [if_neg c7] at H
      exact absurd H (by simp)
    ·rw [if_neg c6] at H
     exact absurd H (by simp)
   ·rw [if_neg c5] at H
    have c5b0 : decide (x11_1 < (l2.length : Int)) = false := decide_eq_false c5
    clear c5
    obtain rfl := Option.some.inj H
    go_wp2
    go_ret
    exact ⟨by first | rfl | (simp [errW_none, errW_some] <;> rfl) | (simp [*, errW_none, errW_some] <;> rfl), bs HB.out⟩
end Go.Proofs.Ytjgdalhdiohclaa.Q
end
section
namespace Go.Proofs.Ytjgdalhdiohclaa.Q
attribute [local go_sem] max2_int min2_int max_two min_two max_three min_three max_four min_four
def net_common.l0 : Nat → Int → Int → Option (Int)
 | 0, _, _ => none
 | k + 1, x0, x1 => if x1 > 0 then (if x1 = 0 then (none) else (net_common.l0 k x1 (Int.tmod x0 x1))) else (some x0)
def net_common.f (k : Nat) (a0 : Int) (a1 : Int) : Option (Int) := net_common.l0 k a0 a1
theorem net_common.mono_l : ∀ k, (∀ y0 y1, LeO (net_common.l0 k y0 y1) (net_common.l0 (k + 1) y0 y1))
 | 0 => fun _ _ r h => by simp [net_common.l0] at h
 | k + 1 => by
  have ih0 := net_common.mono_l k
  ·intro y0 y1
   unfold net_common.l0
   with_reducible repeat' first | exact ih0 _ _ | exact LeO.refl _ | exact LeO.none _ | refine LeO.ite ?_ ?_ | refine LeO.bind ?_ (fun _ => ?_)
theorem net_common.mono : ∀ a0 a1 k, LeO (net_common.f k a0 a1) (net_common.f (k + 1) a0 a1) := by
 intro a0 a1 k
 have ih0 := net_common.mono_l k
 unfold net_common.f
 with_reducible repeat' first | exact ih0 _ _ | exact LeO.refl _ | exact LeO.none _ | refine LeO.ite ?_ ?_ | refine LeO.bind ?_ (fun _ => ?_)
theorem net_common.calls (k : Nat) (a0 : Int) (a1 : Int) (r : Int) (w : World) (h : net_common.f k a0 a1 = some r) :
  Calls Try.prog 104 #[.int .i64 a0, .int .i64 a1] w fun e w' => e = .returned (.int .i64 r) ∧ Drawn0 w w' := by
 have H : (net_common.l0 k a0 a1) = some r := h
 clear h
 have H' := am H
 clear H
 go_enter Try.func104, Try.ntmps104
 go_wp2
 repeat (go_quiet (fail); try go_wp2)
 go_loopg [0, 1] k (fun kq v0 v1 w' => ∃ (x0_1 : Int) (x1_1 : Int), v0 = .int .i64 x0_1 ∧ v1 = .int .i64 x1_1 ∧ Aside0 (net_common.l0 kq x0_1 x1_1 = some r) ∧ Aside0 (kq ≤ k) ∧ Drawn0 w w')
 case atStart => exact ⟨(a0), (a1), zz3, zz3, H', ⟨Nat.le_refl _⟩, by repeat (first | exact Drawn0.refl _ | apply Drawn0.step)⟩
 case round =>
  clear H'
  (try clear c1); (try clear p2)
  obtain ⟨x0_1, x1_1, rfl, rfl, HA, HK1, ⟨m1, rfl⟩⟩ := hrel
  cases gk with
  | zero => exact absurd HA.out (by simp [net_common.l0])
  | succ k1 =>
   have H := HA.out
   clear HA
   simp only [net_common.l0] at H
   by_cases c3 : x1_1 > 0
   ·rw [if_pos c3] at H
    have c3b0 : decide (0 < x1_1) = true := decide_eq_true c3
    clear c3
    by_cases c4 : x1_1 = 0
    ·rw [if_pos c4] at H
     exact absurd H (by simp)
    ·rw [if_neg c4] at H
     have c4b0 : (x1_1 == 0) = false := beq_eq_false_iff_ne.mpr c4
     have c4b1 : (x1_1 != 0) = true := bne_iff_ne.mpr c4
     have H' := am H
     clear H
     go_wp2
     repeat (go_quiet (fail); try go_wp2)
     go_roundg k1
     case measure => have := HK1.out; omega
     case rel => exact ⟨(x1_1), (Int.tmod x0_1 x1_1), zz3, zz3, H', ⟨by have := HK1.out; omega⟩, by repeat (first | exact Drawn0.refl _ | apply Drawn0.step)⟩
   ·rw [if_neg c3] at H
    have c3b0 : decide (0 < x1_1) = false := decide_eq_false c3
    clear c3
    obtain rfl := Option.some.inj H
    go_wp2
    repeat (go_quiet (fail); try go_wp2)
    go_ret
    exact ⟨by first | rfl | (simp; done) | (simp [*]; done), by repeat (first | exact Drawn0.refl _ | apply Drawn0.step)⟩
end Go.Proofs.Ytjgdalhdiohclaa.Q
end
section
namespace Go.Proofs.Ytjgdalhdiohclaa.Q
attribute [local go_sem] max2_int min2_int max_two min_two max_three min_three max_four min_four
end Go.Proofs.Ytjgdalhdiohclaa.Q
end
