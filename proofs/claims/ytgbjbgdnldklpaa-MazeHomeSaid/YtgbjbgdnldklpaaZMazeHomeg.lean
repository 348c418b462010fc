/- Whatever connected maze of the size there is, and wherever one begins, what Universal returns visits all of its rooms, also with letters before it and behind it; it is proved for every input, without conditions. (text 7 of 30) -/
import Derived.Test.YtgbjbgdnldklpaaProg
import Derived.Below
import Derived.Deep.Draws
import Derived.Deep.AppendLies
import Derived.Maps.AppendAt
import Derived.OwnWalk
import Derived.Laws.BytesArg
import Derived.Laws.MakeOwn
import Derived.Laws.OwnMore
import Derived.Deep.OwnRows
import Derived.Tactics
import Derived.Lib.ConvBytes
import Derived.Laws.Slices
import Derived.WalkKit
import Derived.KernelRfl
import Derived.RowKit3
import Derived.Deep.LoopGhost
import Derived.Deep.QuietTactic
import Derived.BigQuiet
import Derived.WideLaws
import Derived.Deep.DeepCutAuto
import Derived.Deep.CutBlock
import Derived.Deep.RegionHeld3
import Derived.Laws.Rows
import Derived.Lib.AppendStr
import Derived.ArgAppend
import Derived.Laws.IdiomCopy
import Derived.OrdersHeld
import Derived.Laws.BitsLemmas
import Derived.RowKit
import Derived.WalkMore
import Derived.Test.YtgbjbgdnldklpaaZMazeHomea
import Derived.Test.YtgbjbgdnldklpaaZMazeHomeb
import Derived.Test.YtgbjbgdnldklpaaZMazeHomec
import Derived.Test.YtgbjbgdnldklpaaZMazeHomef
/-! Part QBase -/
section
-- Written by xprint.py, a program of this session's, over the kit's print. Lean checks it.
namespace Go.Proofs.Ytgbjbgdnldklpaa.Q
open Go.RowKit Go.Proofs.YtgbjbgdnldklpaaW.PrintWords Go.Proofs.YtgbjbgdnldklpaaW.PrintLast Go.Proofs.YtgbjbgdnldklpaaW.PrintMore
attribute [local go_sem] max2_int min2_int max_two min_two max_three min_three max_four min_four
set_option linter.unusedVariables false
set_option linter.unusedSimpArgs false

def errW : Option Int → Value
 | none => .nilIface
 | some c => .iface 0 (.int .i64 c)
theorem errW_none : errW none = .nilIface := rfl
theorem errW_some (c : Int) : errW (some c) = .iface 0 (.int .i64 c) := rfl

theorem info3 : (Try.prog.info? 3).map (fun i => (i.zero, i.size, i.bytes)) = some (some (.int .i64 0), 1, 8) := by kernel_rfl
theorem info4 : (Try.prog.info? 4).map (fun i => (i.zero, i.size, i.bytes)) = some (some (.bool false), 1, 1) := by kernel_rfl
-- the values' own types
def rd_L1 (xs : List (List Int)) (i : Int) : (List Int) := xs.getD i.toNat ([] : List Int)
/-! #### struct type 44 -/
structure S44 where
 f0 : Int
 f1 : Int
def z44 : S44 := ⟨(0 : Int), (0 : Int)⟩
def k44 : Kd S44 := Kd.iso (Kd.pair (Kd.int .i64) (Kd.int .i64)) (fun x : S44 => (x.f0, x.f1))
theorem k44_open {w : World} {x : S44} {cs : List Value} (h : k44.K w x cs) : cs = [.int .i64 x.f0, .int .i64 x.f1] := by
 obtain ⟨_, _, rfl, rfl, rfl⟩ := h
 exact rfl
theorem k44_mk (w : World) (x : S44)  : k44.K w x [.int .i64 x.f0, .int .i64 x.f1] := ⟨[.int .i64 x.f0], [.int .i64 x.f1], rfl, rfl, rfl⟩
def rd_T44 (xs : List S44) (i : Int) : S44 := xs.getD i.toNat z44
theorem at_T44 {w : World} {A : Option Addr} {n : Nat} {xs : List S44} (h : Kd.C k44 w A n xs) (i : Int) (h0 : 0 ≤ i) (h1 : i < n) : ∃ ad , A = some ad ∧ w.cell? (ad.add (i.toNat * 2)) = some (.int .i64 (rd_T44 xs i).f0) ∧ w.cell? ⟨(ad.add (i.toNat * 2)).block, (ad.add (i.toNat * 2)).off + 1, none⟩ = some (.int .i64 (rd_T44 xs i).f1) := by
 obtain ⟨ad, c, e, _, hK, hc0⟩ := Kd.C_get h z44 i h0 h1
 have hc : ∀ j u, c[j]? = some u → w.cell? (ad.add (i.toNat * 2 + j)) = some u := hc0
 obtain rfl := k44_open hK
 exact ⟨ad, e, hc 0 _ rfl, by rw [← add_field _ _ 1 (by omega)]; exact hc 1 _ rfl⟩

def rd_L4 (xs : List (List S44)) (i : Int) : (List S44) := xs.getD i.toNat ([] : List S44)
theorem at_L4 {w : World} {A : Option Addr} {n : Nat} {xs : List (List S44)} (h : Kd.C (Kd.slice 44 k44) w A n xs) (i : Int) (h0 : 0 ≤ i) (h1 : i < n) : ∃ ad A0 c0, A = some ad ∧ w.cell? (ad.add i.toNat) = some (.slice A0 (rd_L4 xs i).length c0) ∧ (rd_L4 xs i).length ≤ c0 ∧ k44.C w A0 (rd_L4 xs i).length (rd_L4 xs i) := by
 obtain ⟨ad, c, e, _, hK, hc0⟩ := Kd.C_get h ([] : List S44) i h0 h1
 have hc : ∀ j u, c[j]? = some u → w.cell? (ad.add (i.toNat * 1 + j)) = some u := hc0
 obtain ⟨A0, c0, rfl, l0, g0⟩ := hK
 exact ⟨ad, A0, c0, e, by have hq := hc 0 _ rfl; rwa [Nat.mul_one, Nat.add_zero] at hq, l0, g0⟩

/-! #### struct type 38 -/
structure S38 where
 f0 : (List (List S44))
end Go.Proofs.Ytgbjbgdnldklpaa.Q
end
/-! Part QRef10Fits -/
section
-- Written by xprint.py, a program of this session's, over the kit's print. Lean checks it.
namespace Go.Proofs.Ytgbjbgdnldklpaa.Q
open Go.RowKit Go.Proofs.YtgbjbgdnldklpaaW.PrintWords Go.Proofs.YtgbjbgdnldklpaaW.PrintLast Go.Proofs.YtgbjbgdnldklpaaW.PrintMore
attribute [local go_sem] max2_int min2_int max_two min_two max_three min_three max_four min_four
set_option linter.unusedVariables false
set_option linter.unusedSimpArgs false

/-! ### mizmazeref10_Fits: function 13 -/
def mizmazeref10_Fits.f (a0 : Int) (a1 : Int) : Option (Bool) := if a0 ≥ 1 then (if a0 ≤ 12 then (if a1 ≥ 1 then (if a1 ≤ 6 then (some (decide ((wrap64 (a0 * a1)) ≤ 12))) else (some false)) else (some false)) else (some false)) else (some false)
set_option maxHeartbeats 8000000 in
set_option maxRecDepth 100000 in
theorem mizmazeref10_Fits.calls (a0 : Int) (a1 : Int) (r : Bool) (w : World) (h : mizmazeref10_Fits.f a0 a1 = some r) :
  Calls Try.prog 13 #[.int .i64 a0, .int .i64 a1] w fun e w' => e = .returned (.bool r) ∧ Drawn0 w w' := by
 have H : (if a0 ≥ 1 then (if a0 ≤ 12 then (if a1 ≥ 1 then (if a1 ≤ 6 then (some (decide ((wrap64 (a0 * a1)) ≤ 12))) else (some false)) else (some false)) else (some false)) else (some false)) = some r := h
 clear h
 by_cases c3 : a0 ≥ 1
 ·rw [if_pos c3] at H
  have c3b0 : decide (1 ≤ a0) = true := decide_eq_true c3
  clear c3
  by_cases c4 : a0 ≤ 12
  ·rw [if_pos c4] at H
   have c4b0 : decide (a0 ≤ 12) = true := decide_eq_true c4
   clear c4
   by_cases c5 : a1 ≥ 1
   ·rw [if_pos c5] at H
    have c5b0 : decide (1 ≤ a1) = true := decide_eq_true c5
    clear c5
    by_cases c6 : a1 ≤ 6
    ·rw [if_pos c6] at H
     have c6b0 : decide (a1 ≤ 6) = true := decide_eq_true c6
     clear c6
     obtain rfl := Option.some.inj H
     go_enter Try.func13, Try.ntmps13
     go_wp2
     go_ret
     exact ⟨by first | rfl | (simp; done) | (simp [*]; done), by repeat (first | exact Drawn0.refl _ | apply Drawn0.step)⟩
    ·rw [if_neg c6] at H
     have c6b0 : decide (a1 ≤ 6) = false := decide_eq_false c6
     clear c6
     obtain rfl := Option.some.inj H
     go_enter Try.func13, Try.ntmps13
     go_wp2
     go_ret
     exact ⟨by first | rfl | (simp; done) | (simp [*]; done), by repeat (first | exact Drawn0.refl _ | apply Drawn0.step)⟩
   ·rw [if_neg c5] at H
    have c5b0 : decide (1 ≤ a1) = false := decide_eq_false c5
    clear c5
    obtain rfl := Option.some.inj H
    go_enter Try.func13, Try.ntmps13
    go_wp2
    go_ret
    exact ⟨by first | rfl | (simp; done) | (simp [*]; done), by repeat (first | exact Drawn0.refl _ | apply Drawn0.step)⟩
  ·rw [if_neg c4] at H
   have c4b0 : decide (a0 ≤ 12) = false := decide_eq_false c4
   clear c4
   obtain rfl := Option.some.inj H
   go_enter Try.func13, Try.ntmps13
   go_wp2
   go_ret
   exact ⟨by first | rfl | (simp; done) | (simp [*]; done), by repeat (first | exact Drawn0.refl _ | apply Drawn0.step)⟩
 ·rw [if_neg c3] at H
  have c3b0 : decide (1 ≤ a0) = false := decide_eq_false c3
  clear c3
  obtain rfl := Option.some.inj H
  go_enter Try.func13, Try.ntmps13
  go_wp2
  go_ret
  exact ⟨by first | rfl | (simp; done) | (simp [*]; done), by repeat (first | exact Drawn0.refl _ | apply Drawn0.step)⟩

end Go.Proofs.Ytgbjbgdnldklpaa.Q
end
/-! Part XFits -/
section
namespace Go.Proofs.Ytgbjbgdnldklpaa.Q
open Go.RowKit Go.Proofs.YtgbjbgdnldklpaaW.PrintWords Go.Proofs.YtgbjbgdnldklpaaW.PrintLast Go.Proofs.YtgbjbgdnldklpaaW.PrintMore
set_option linter.unusedVariables false
set_option linter.unusedSimpArgs false

/-- Where the first element with p stands, or -1. -/
def findTo {α : Type} (p : α → Bool) (l : List α) : Int := match l.findIdx? p with | some i => (i : Int) | none => -1
theorem findTo_any {α : Type} (p : α → Bool) (l : List α) : decide (0 ≤ findTo p l) = l.any p := by
 unfold findTo
 cases h : l.findIdx? p with
 | none => rw [List.findIdx?_eq_none_iff] at h; simp; simpa using h
 | some i =>
  obtain ⟨h1, h2, _⟩ := List.findIdx?_eq_some_iff_getElem.1 h
  simp; exact ⟨_, List.getElem_mem h1, h2⟩
def NoneTo {α : Type} (p : α → Bool) (l : List α) (d : α) (x : Int) : Prop := ∀ j : Nat, (j : Int) < x → p (l.getD j d) = false
theorem NoneTo.zero {α : Type} (p : α → Bool) (l : List α) (d : α) : NoneTo p l d 0 := fun j h => by omega
theorem NoneTo.succ {α : Type} {p : α → Bool} {l : List α} {d : α} {x : Int} (h : NoneTo p l d x) (h0 : 0 ≤ x) (hp : p (l.getD x.toNat d) = false) : NoneTo p l d (x + 1) := fun j hj => by
 by_cases e : (j : Int) = x
 ·have : j = x.toNat := by omega
  rw [this]; exact hp
 ·exact h j (by omega)
theorem findTo_at {α : Type} {p : α → Bool} {l : List α} {d : α} {x : Int} (h : NoneTo p l d x) (h0 : 0 ≤ x) (hx : x < l.length) (hp : p (l.getD x.toNat d) = true) : findTo p l = x := by
 have : l.findIdx? p = some x.toNat := by
  rw [List.findIdx?_eq_some_iff_getElem]
  refine ⟨by omega, ?_, fun j hj => ?_⟩
  ·rw [List.getD_eq_getElem?_getD, List.getElem?_eq_getElem (by omega)] at hp; exact hp
  ·have := h j (by omega)
   rw [List.getD_eq_getElem?_getD, List.getElem?_eq_getElem (by omega)] at this
   simpa using this
 unfold findTo; rw [this]; simp; omega
theorem findTo_none {α : Type} {p : α → Bool} {l : List α} {d : α} {x : Int} (h : NoneTo p l d x) (hx : (l.length : Int) ≤ x) : findTo p l = -1 := by
 have : l.findIdx? p = none := by
  rw [List.findIdx?_eq_none_iff]
  intro a ha
  obtain ⟨j, hj, rfl⟩ := List.getElem_of_mem ha
  have := h j (by omega)
  rw [List.getD_eq_getElem?_getD, List.getElem?_eq_getElem (by omega)] at this
  exact this
 unfold findTo; rw [this]

def outB (n x : Int) : Bool := decide (x < 0 ∨ n ≤ x)
def inB (n : Int) (l : List Int) : Bool := l.all fun x => decide (0 ≤ x ∧ x < n)
theorem inB_eq (n : Int) (l : List Int) : inB n l = !l.any (outB n) := by
 unfold inB outB
 induction l with
 | nil => rfl
 | cons a l ih =>
  rw [List.all_cons, List.any_cons, ih, Bool.not_or]
  congr 1
  by_cases h1 : a < 0 <;> by_cases h2 : n ≤ a <;> simp_all <;> omega
set_option maxHeartbeats 400000 in
theorem within1_calls (x n : Int) (g : Nat) (w : World) (hg : w.cell? ⟨g, 0, none⟩ = some (.int .i64 n)) :
  Calls Try.prog 56 #[.int .i64 x, .pointer (some ⟨g, 0, none⟩)] w fun e w' => e = .returned (.bool (outB n x)) ∧ w = w' := by
 by_cases h : x < 0
 ·go_enter Try.func56, Try.ntmps56
  go_wp2
  go_ret
  exact ⟨by simp [h, outB], rfl⟩
 ·go_enter Try.func56, Try.ntmps56
  go_wp2
  go_ret
  exact ⟨by simp [outB]; omega, rfl⟩

theorem wrap_in {x : Int} {n : Nat} (h0 : 0 ≤ x) (h : x < (n : Int)) (hn : n ≤ 9223372036854775807) : wrap64 (x + 1) = x + 1 := by
 unfold wrap64
 omega

set_option maxRecDepth 100000 in
set_option maxHeartbeats 400000 in
/-- IndexFunc over []int by a predicate that reads memory alone. -/
theorem index1_calls (F : Nat) (caps : Array Value) (p : Int → Bool) (A : Option Addr) (c : Nat) (l : List Int) (w : World)
  (hr : Kd.C (Kd.int .i64) w A l.length l) (hc : l.length ≤ c)
  (hcall : ∀ a w, Sem.run Try.prog (callFunc F a) w = .ok (.enter F a) w)
  (hp : ∀ x, Calls Try.prog F (#[.int .i64 x] ++ caps) w fun e w' => e = .returned (.bool (p x)) ∧ w = w') :
  Calls Try.prog 62 #[.slice A l.length c, .func (.func F) #[] caps] w fun e w' => e = .returned (.int .i64 (findTo p l)) ∧ w = w' := by
 have hm : l.length ≤ 9223372036854775807 := hr.2.1
 have HP := Aside0.mk hp
 clear hp
 go_enter Try.func62, Try.ntmps62
 go_wp2
 go_loop [8] (fun i => ∃ x : Int, 0 ≤ x ∧ x ≤ l.length ∧ i = .int .i64 x ∧ Aside0 (NoneTo p l 0 x)) (fun i => l.length - (intOf i).toNat)
 case atStart => exact ⟨0, by omega, by omega, rfl, ⟨NoneTo.zero _ _ _⟩⟩
 case round =>
  obtain ⟨x, h0, h1, rfl, HA⟩ := hrel
  by_cases hlt : x < l.length
  ·obtain ⟨ad, e, hx⟩ := Kd.at_int hr x h0 hlt
   cases e
   have c3 : decide (x < (l.length : Int)) = true := decide_eq_true hlt
   have k0 := Aside0.mk h0
   have k1 := Aside0.mk hlt
   replace h0 := eq_true h0
   replace hlt := eq_true hlt
   clear hr hc
   cases hpx : p (rd l x) with
   | true =>
    have HF := Aside0.mk (findTo_at HA.out k0.out k1.out hpx)
    have HPX := Aside0.mk hpx
    clear hpx
    go_wp2_with (refine ((HP.out _).mono ?_); rintro e w' ⟨rfl, rfl⟩; rw [HPX.out])
    go_ret
    exact ⟨by rw [HF.out]; rfl, rfl⟩
   | false =>
    have HF := Aside0.mk (NoneTo.succ HA.out k0.out hpx)
    have HPX := Aside0.mk hpx
    clear hpx
    go_wp2_with (refine ((HP.out _).mono ?_); rintro e w' ⟨rfl, rfl⟩; rw [HPX.out])
    go_round
    case rel => exact ⟨x + 1, by have := k0.out; omega, by have := k1.out; omega, by rw [wrap_in k0.out k1.out hm], HF⟩
    case measure => have := k0.out; have := k1.out; rw [wrap_in k0.out k1.out hm]; simp [intOf]; omega
  ·have HF := Aside0.mk (findTo_none HA.out (by omega))
   go_wp2
   go_ret
   exact ⟨by rw [HF.out]; rfl, rfl⟩

set_option maxHeartbeats 400000 in
theorem contains1_calls (F : Nat) (caps : Array Value) (p : Int → Bool) (A : Option Addr) (c : Nat) (l : List Int) (w : World)
  (hr : Kd.C (Kd.int .i64) w A l.length l) (hc : l.length ≤ c)
  (hcall : ∀ a w, Sem.run Try.prog (callFunc F a) w = .ok (.enter F a) w)
  (hp : ∀ x, Calls Try.prog F (#[.int .i64 x] ++ caps) w fun e w' => e = .returned (.bool (p x)) ∧ w = w') :
  Calls Try.prog 55 #[.slice A l.length c, .func (.func F) #[] caps] w fun e w' => e = .returned (.bool (l.any p)) ∧ w = w' := by
 have HC := Aside0.mk (index1_calls F caps p A c l w hr hc hcall hp)
 clear hp hcall hr hc
 go_enter Try.func55, Try.ntmps55
 go_wp2_with (refine (HC.out.mono ?_); rintro e w' ⟨rfl, rfl⟩)
 go_ret
 exact ⟨by rw [← findTo_any]; rfl, rfl⟩

theorem call56 (a : Array Value) (w : World) : Sem.run Try.prog (callFunc 56 a) w = .ok (.enter 56 a) w := by
 go_simp
def maze_fits.f (l0 : List Int) (a1 : Int) : Option Bool := some (decide (l0.length ≤ 40000) && inB a1 l0)
set_option maxHeartbeats 400000 in
theorem maze_fits.calls (A0 : Option Addr) (c0 : Nat) (l0 : List Int) (a1 : Int) (r : Bool) (w : World) (hr0 : Kd.C (Kd.int .i64) w A0 l0.length l0) (hc0 : l0.length ≤ c0) (h : maze_fits.f l0 a1 = some r) :
  Calls Try.prog 41 #[.slice A0 l0.length c0, .int .i64 a1] w fun e w' => e = .returned (.bool r) ∧ Below w.heap.size w w' := by
 obtain rfl := Option.some.inj h
 have hB := below_alloc (Below.refl w.heap.size w) (.cells #[.int .i64 a1] 3)
 have HC := Aside0.mk (contains1_calls 56 #[.pointer (some ⟨w.heap.size, 0, none⟩)] (outB a1) A0 c0 l0 (w.alloc (.cells #[.int .i64 a1] 3)) (Kd.C_below hr0 hB) hc0 call56
  (fun x => within1_calls x a1 w.heap.size _ (by simp)))
 have hm := hr0.2.1
 have HB := Aside0.mk hB
 clear hB hr0 h
 by_cases hl : l0.length ≤ 40000
 ·have h1 : decide ((l0.length : Int) ≤ 40000) = true := decide_eq_true (by omega)
  rw [decide_eq_true hl, Bool.true_and]
  clear hl
  go_enter Try.func41, Try.ntmps41
  go_wp2_with (refine (HC.out.mono ?_); rintro e w' ⟨rfl, rfl⟩)
  go_ret
  exact ⟨by rw [inB_eq]; rfl, HB.out⟩
 ·have h1 : decide ((l0.length : Int) ≤ 40000) = false := decide_eq_false (by omega)
  rw [decide_eq_false hl, Bool.false_and]
  clear hl
  go_enter Try.func41, Try.ntmps41
  go_wp2
  go_ret
  exact ⟨rfl, HB.out⟩
end Go.Proofs.Ytgbjbgdnldklpaa.Q
end
/-! Part XSmall -/
section
namespace Go.Proofs.Ytgbjbgdnldklpaa.Q
open Go.RowKit Go.Proofs.YtgbjbgdnldklpaaW.PrintWords Go.Proofs.YtgbjbgdnldklpaaW.PrintLast Go.Proofs.YtgbjbgdnldklpaaW.PrintMore
set_option linter.unusedVariables false
set_option linter.unusedSimpArgs false
/-! ### a maze with few doors -/
theorem ne_type {W : World} {a b : Nat} {cs cs' : Array Value} {t t' : TypeId} (h : W.heap[a]? = some (.cells cs t (0, 0))) (h' : W.heap[b]? = some (.cells cs' t' (0, 0))) (ht : t ≠ t') : a ≠ b := by
 intro e
 subst e
 rw [h] at h'
 injection h' with h'
 injection h' with _ h2
 exact ht h2
/-- The cells of a maze: rooms, doors, and for each door the room behind it. -/
def smC (n d : Int) (rs : List Int) : Array Value := (.int .i64 n :: .int .i64 d :: rs.map (Value.int .u8)).toArray
/-- Block Z is a maze. -/
def SmB (w : World) (Z : Nat) (n d : Int) (rs : List Int) : Prop := w.heap[Z]? = some (.cells (smC n d rs) 66 (0, 0)) ∧ rs.length = 12
theorem SmB.n {w : World} {Z : Nat} {n d : Int} {rs : List Int} (h : SmB w Z n d rs) : w.cell? ⟨Z, 0, none⟩ = some (.int .i64 n) := (blk_cell h.1 0).trans rfl
theorem SmB.d {w : World} {Z : Nat} {n d : Int} {rs : List Int} (h : SmB w Z n d rs) : w.cell? ⟨Z, 1, none⟩ = some (.int .i64 d) := (blk_cell h.1 1).trans rfl
theorem SmB.at_ {w : World} {Z : Nat} {n d : Int} {rs : List Int} (h : SmB w Z n d rs) (i : Int) (h0 : 0 ≤ i) (h1 : i < 12) : w.cell? ⟨Z, 2 + i.toNat, none⟩ = some (.int .u8 (rd rs i)) := by
 refine (blk_cell h.1 (2 + i.toNat)).trans ?_
 have hl := h.2
 show (smC n d rs)[2 + i.toNat]? = _
 unfold smC
 rw [List.getElem?_toArray, show 2 + i.toNat = i.toNat + 1 + 1 by omega, List.getElem?_cons_succ, List.getElem?_cons_succ, List.getElem?_map]
 have : i.toNat < rs.length := by omega
 rw [List.getElem?_eq_getElem this]
 unfold rd
 rw [List.getD_eq_getElem?_getD, List.getElem?_eq_getElem this]
 rfl
def fullU (n : Int) : Int := IntKind.u16.wrap (IntKind.u16.wrap (2 ^ min n.toNat 16) - 1)
set_option maxHeartbeats 400000 in
theorem full_calls (w : World) (Z : Nat) (n d : Int) (rs : List Int) (hZ : SmB w Z n d rs) (h0 : 0 ≤ n) :
  Calls Try.prog 53 #[.pointer (some ⟨Z, 0, none⟩)] w fun e w' => e = .returned (.int .u16 (fullU n)) ∧ w = w' := by
 have hn := hZ.n
 have p0 := eq_true h0
 clear hZ h0
 go_enter Try.func53, Try.ntmps53
 go_wp2
 go_ret
 exact ⟨rfl, rfl⟩
/-- Is room t in the set? -/
def hasU (met t : Int) : Bool := Go.bits .and .u16 (met / 2 ^ min t.toNat 16) 1 == 0
def addU (met t : Int) : Int := Go.bits .or .u16 met (IntKind.u16.wrap (2 ^ min t.toNat 16))
theorem info_u8 : (Try.prog.info? 5).map (fun i => (i.zero, i.size, i.bytes)) = some (some (.int .u8 0), 1, 1) := by kernel_rfl
def portU (a d x : Int) : Int := IntKind.i64.wrap (IntKind.i64.wrap (IntKind.i64.wrap a * d) + x)
mutual
def small_connected.l0 : Nat → Int → Int → List Int → List Int → Int → Int → Option Bool
 | 0, _, _, _, _, _, _ => none
 | k + 1, n, d, rs, list, met, i => if i < (list.length : Int) then small_connected.l1 k n d rs list met i 0 else (if 0 ≤ n then some (met == fullU n) else none)
def small_connected.l1 : Nat → Int → Int → List Int → List Int → Int → Int → Int → Option Bool
 | 0, _, _, _, _, _, _, _ => none
 | k + 1, n, d, rs, list, met, i, x => if x < d then (if 0 ≤ i then (if i < (list.length : Int) then (if 0 ≤ portU (rd list i) d x then (if portU (rd list i) d x < 12 then (if 0 ≤ rd rs (portU (rd list i) d x) then (if hasU met (rd rs (portU (rd list i) d x)) = true then (if list.length < 140737488355327 then small_connected.l1 k n d rs (list ++ [rd rs (portU (rd list i) d x)]) (addU met (rd rs (portU (rd list i) d x))) i (wrap64 (x + 1)) else none) else small_connected.l1 k n d rs list met i (wrap64 (x + 1))) else none) else none) else none) else none) else none) else small_connected.l0 k n d rs list met (wrap64 (i + 1))
end
def small_connected.f (k : Nat) (n d : Int) (rs : List Int) : Option Bool := small_connected.l0 k n d rs [0] 1 0
theorem small_connected.mono_l : ∀ k, (∀ y0 y1 y2 y3 y4 y5, LeO (small_connected.l0 k y0 y1 y2 y3 y4 y5) (small_connected.l0 (k + 1) y0 y1 y2 y3 y4 y5)) ∧ (∀ y0 y1 y2 y3 y4 y5 y6, LeO (small_connected.l1 k y0 y1 y2 y3 y4 y5 y6) (small_connected.l1 (k + 1) y0 y1 y2 y3 y4 y5 y6))
 | 0 => ⟨fun _ _ _ _ _ _ r h => by simp [small_connected.l0] at h, fun _ _ _ _ _ _ _ r h => by simp [small_connected.l1] at h⟩
 | k + 1 => by
  obtain ⟨ih0, ih1⟩ := small_connected.mono_l k
  refine ⟨?_, ?_⟩
  ·intro y0 y1 y2 y3 y4 y5
   unfold small_connected.l0
   repeat' first
   | (with_reducible exact ih1 _ _ _ _ _ _ _)
   | (with_reducible exact LeO.refl _)
   | (with_reducible exact LeO.none _)
   | (with_reducible refine LeO.ite ?_ ?_)
  ·intro y0 y1 y2 y3 y4 y5 y6
   unfold small_connected.l1
   repeat' first
   | (with_reducible exact ih0 _ _ _ _ _ _)
   | (with_reducible exact ih1 _ _ _ _ _ _ _)
   | (with_reducible exact LeO.refl _)
   | (with_reducible exact LeO.none _)
   | (with_reducible refine LeO.ite ?_ ?_)
theorem small_connected.mono : ∀ a0 a1 a2 k, LeO (small_connected.f k a0 a1 a2) (small_connected.f (k + 1) a0 a1 a2) := fun _ _ _ k => (small_connected.mono_l k).1 _ _ _ _ _ _
set_option maxHeartbeats 2000000 in
set_option maxRecDepth 100000 in
theorem small_connected.calls (k : Nat) (n d : Int) (rs : List Int) (r : Bool) (w : World) (Z : Nat) (hZ : SmB w Z n d rs) (h : small_connected.f k n d rs = some r) :
  Calls Try.prog 39 #[.pointer (some ⟨Z, 0, none⟩)] w fun e w' => e = .returned (.bool r) ∧ Below w.heap.size w w' := by
 have HZ := Aside0.mk hZ
 have H' : Aside0 (small_connected.l0 k n d rs [0] 1 0 = some r) := ⟨h⟩
 clear hZ h
 go_enter Try.func39, Try.ntmps39
 go_wp2_with (first | ((with_reducible refine gate_dst (N := 8) rfl ?_); refine Kd.R_lit (Kd.int .u8) _ 5 ?hg (N := 8) ?hd (xs := [0]) (inner := [.int .u8 0]) (ok := fun _ => True) (okp := fun _ => True) ?hr ?hp (fun _ hk => hk) trivial (Below.refl _ _) (Nat.le_refl _) (by simp) ?_; (case hd => rfl); (case hg => rfl); (case hr => first | (go_simp; done) | (go_simp; rfl)); (case hp => exact (Reps.one (show Kd.M (Kd.int .u8) _ _ _ 0 [.int .u8 0] from rfl) (Reps.none _ _)));  intro v1 w1 hO1 hb1 _ hat1; have HO1 := Aside0.mk hO1; have HB1 := Aside0.mk hb1; clear hO1 hb1 hat1))
 go_loopg [3, 4, 5] k (fun kq v3 v4 v5 w' => ∃ (i met : Int) (list : List Int), v3 = .int .u16 met ∧ v5 = .int .i64 i ∧ Aside0 (small_connected.l0 kq n d rs list met i = some r) ∧ Aside0 (kq ≤ k) ∧ Aside0 (Kd.R (Kd.int .u8) 5 w' w.heap.size (fun _ => True) v4 list) ∧ Aside0 (Below w.heap.size w w'))
 case atStart => exact ⟨0, 1, [0], rfl, rfl, H', ⟨Nat.le_refl _⟩, HO1, HB1⟩
 case round =>
  clear H' HO1 HB1
  obtain ⟨i, met, list, rfl, rfl, HA, HK, HO, HB⟩ := hrel
  cases gk with
  | zero => exact absurd HA.out (by simp [small_connected.l0])
  | succ k1 =>
   have H := HA.out
   clear HA
   simp only [small_connected.l0] at H
   obtain ⟨A4, c4, e4⟩ := Kd.R_slice HO.out
   subst e4
   have HZr : Aside0 (SmB wr Z n d rs) := ⟨⟨blk_below HZ.out.1 HB.out, HZ.out.2⟩⟩
   have hcn := HZr.out.n
   have hcd := HZr.out.d
   by_cases d1 : i < (list.length : Int)
   ·rw [if_pos d1] at H
    have H' := Aside0.mk H
    clear H
    have d1b := decide_eq_true d1
    have HI := Aside0.mk d1
    have q1 := eq_true d1
    clear d1
    go_wp2_with fail
    go_loopg [3, 4, 19] k1 (fun kq v3 v4 v19 w' => ∃ (x met : Int) (list : List Int), v3 = .int .u16 met ∧ v19 = .int .i64 x ∧ Aside0 (small_connected.l1 kq n d rs list met i x = some r) ∧ Aside0 (kq ≤ k1) ∧ Aside0 (Kd.R (Kd.int .u8) 5 w' w.heap.size (fun _ => True) v4 list) ∧ Aside0 (Below w.heap.size w w'))
    case atStart => exact ⟨0, met, list, rfl, rfl, H', ⟨Nat.le_refl _⟩, HO, HB⟩
    case round =>
     clear H' HO HB HZr hcn hcd q1 d1b HI
     obtain ⟨x, met2, list2, rfl, rfl, HA, HK2, HO, HB⟩ := hrel
     cases gk with
     | zero => exact absurd HA.out (by simp [small_connected.l1])
     | succ k2 =>
      have H := HA.out
      clear HA
      simp only [small_connected.l1] at H
      have HZr : Aside0 (SmB wr Z n d rs) := ⟨⟨blk_below HZ.out.1 HB.out, HZ.out.2⟩⟩
      have hcn := HZr.out.n
      have hcd := HZr.out.d
      by_cases d2 : x < d
      ·rw [if_pos d2] at H
       by_cases d3 : 0 ≤ i
       ·rw [if_pos d3] at H
        by_cases d4 : i < (list2.length : Int)
        ·rw [if_pos d4] at H
         obtain ⟨idx, hidx⟩ : ∃ z, portU (rd list2 i) d x = z := ⟨_, rfl⟩
         rw [hidx] at H
         unfold portU at hidx
         by_cases d5 : 0 ≤ idx
         ·rw [if_pos d5] at H
          by_cases d6 : idx < 12
          ·rw [if_pos d6] at H
           obtain ⟨ad, c, e4, hx⟩ : ∃ ad c, u4 = Value.slice (some ad) list2.length c ∧ wr.cell? (ad.add i.toNat) = some (.int .u8 (rd list2 i)) := by
            obtain ⟨A, c, e, _, hC⟩ := Kd.R_reads HO.out
            obtain ⟨ad, cs, e2, _, hK, hc0⟩ := Kd.C_get hC 0 i d3 d4
            subst e2
            have hK2 : cs = [.int .u8 (rd list2 i)] := hK
            subst hK2
            exact ⟨ad, c, e, by have h9 := hc0 0 _ rfl; rw [show (Kd.int .u8).sz = 1 from rfl] at h9; simpa using h9⟩
           subst e4
           have hci := HZr.out.at_ idx d5 d6
           obtain ⟨tt, hto⟩ : ∃ z, rd rs idx = z := ⟨_, rfl⟩
           rw [hto] at hci H
           by_cases d7 : 0 ≤ tt
           ·rw [if_pos d7] at H
            have D2 := Aside0.mk d2
            have D3 := Aside0.mk d3
            have D4 := Aside0.mk d4
            have q2 := eq_true d2
            have q3 := eq_true d3
            have q4 := eq_true d4
            have q5 := eq_true d5
            have q6 := eq_true d6
            have q7 := eq_true d7
            have d2b := decide_eq_true d2
            have HTO := Aside0.mk hto
            clear d2 d3 d4 d5 d6 d7 hto
            by_cases d8 : hasU met2 tt = true
            ·rw [if_pos d8] at H
             by_cases d9 : list2.length < 140737488355327
             ·rw [if_pos d9] at H
              have H' := Aside0.mk H
              have D9 := Aside0.mk d9
              have d8b : (Go.bits .and .u16 (met2 / 2 ^ min tt.toNat 16) 1 == 0) = true := d8
              clear H d8 d9
              go_wp2_with fail
              go_quiet (fail)
              have HOq := Aside0.mk (Kd.R_drewN HO.out nq)
              have HBq := Aside0.mk (pw_below_drewN HB.out nq)
              go_wp2_with ((with_reducible refine gate_builtin (b := .append) (xs := #[.tmp 48, .tmp 50]) rfl ?_); at_builtin; refine Kd.R_append (Kd.int .u8) (w0 := w) w.heap.size rfl (.tmp 48) (.tmp 50) 89 5 (.int .u8 0) 1 rfl Try.underlying89 info_u8 rfl (by decide) (by omega) (Value.slice (some ad) list2.length c) list2 tt [.int .u8 tt] (fun _ => True) (fun _ => False) rfl rfl ?aP (fun _ hk => hk.elim) ?aF ?aO ?aB ?aS ?aL ?_; (case aP => exact rfl); (case aB => exact HBq.out); (case aF => exact (fun _ _ => trivial)); (case aO => exact HOq.out); (case aS => exact HBq.out.size); (case aL => have := D9.out; omega); intro v8 w8 ho hb hg hat;  have HO8 := Aside0.mk ho; have HB8 := Aside0.mk hb; clear ho hb hg hat)
              go_roundg k2
              case measure => omega
              case rel => exact ⟨_, _, _, rfl, rfl, H', ⟨by have := HK2.out; omega⟩, HO8, HB8⟩
             ·rw [if_neg d9] at H; exact absurd H (by simp)
            ·rw [if_neg d8] at H
             have H' := Aside0.mk H
             have d8b : (Go.bits .and .u16 (met2 / 2 ^ min tt.toNat 16) 1 == 0) = false := by simpa [hasU] using d8
             clear H d8
             go_wp2_with fail
             go_quiet (fail)
             have HOq := Aside0.mk (Kd.R_drewN HO.out nq)
             have HBq := Aside0.mk (pw_below_drewN HB.out nq)
             go_wp2_with fail
             go_roundg k2
             case measure => omega
             case rel => exact ⟨_, _, _, rfl, rfl, H', ⟨by have := HK2.out; omega⟩, HOq, HBq⟩
           ·rw [if_neg d7] at H; exact absurd H (by simp)
          ·rw [if_neg d6] at H; exact absurd H (by simp)
         ·rw [if_neg d5] at H; exact absurd H (by simp)
        ·rw [if_neg d4] at H; exact absurd H (by simp)
       ·rw [if_neg d3] at H; exact absurd H (by simp)
      ·rw [if_neg d2] at H
       have H' := Aside0.mk H
       have d2b := decide_eq_false d2
       clear H d2
       go_wp2_with fail
       go_roundg k2
       case measure => have := HK2.out; omega
       case rel => exact ⟨_, _, _, rfl, rfl, H', ⟨by have := HK.out; have := HK2.out; omega⟩, HO, HB⟩
   ·rw [if_neg d1] at H
    have d1b := decide_eq_false d1
    by_cases d2 : 0 ≤ n
    ·rw [if_pos d2] at H
     obtain rfl := Option.some.inj H
     have D2 := Aside0.mk d2
     clear H d1 d2
     go_wp2_with (refine (full_calls wr Z n d rs HZr.out D2.out).mono ?_; rintro e w' ⟨rfl, rfl⟩)
     go_ret
     exact ⟨rfl, HB.out⟩
    ·rw [if_neg d2] at H; exact absurd H (by simp)
end Go.Proofs.Ytgbjbgdnldklpaa.Q
end
/-! Part QMazeAsks -/
section
-- Written by xprint.py, a program of this session's, over the kit's print. Lean checks it.
namespace Go.Proofs.Ytgbjbgdnldklpaa.Q
open Go.RowKit Go.Proofs.YtgbjbgdnldklpaaW.PrintWords Go.Proofs.YtgbjbgdnldklpaaW.PrintLast Go.Proofs.YtgbjbgdnldklpaaW.PrintMore
attribute [local go_sem] max2_int min2_int max_two min_two max_three min_three max_four min_four
set_option linter.unusedVariables false
set_option linter.unusedSimpArgs false

/-! ### maze_asks: function 37 -/
def maze_asks.f (a0 : Int) (a1 : Int) : Option (Int) := if a0 < 1 then (some 2) else (if a1 < 1 then (some 2) else (if a1 > 6 then (some 2) else (if a0 > 12 then (some 2) else (if (wrap64 (a0 * a1)) > 12 then (some 2) else (some 0)))))
set_option maxHeartbeats 8000000 in
set_option maxRecDepth 100000 in
theorem maze_asks.calls (a0 : Int) (a1 : Int) (r : Int) (w : World) (h : maze_asks.f a0 a1 = some r) :
  Calls Try.prog 37 #[.int .i64 a0, .int .i64 a1] w fun e w' => e = .returned (.int .i64 r) ∧ Drawn0 w w' := by
 have H : (if a0 < 1 then (some 2) else (if a1 < 1 then (some 2) else (if a1 > 6 then (some 2) else (if a0 > 12 then (some 2) else (if (wrap64 (a0 * a1)) > 12 then (some 2) else (some 0)))))) = some r := h
 clear h
 by_cases c3 : a0 < 1
 ·rw [if_pos c3] at H
  have c3b0 : decide (a0 < 1) = true := decide_eq_true c3
  clear c3
  obtain rfl := Option.some.inj H
  go_enter Try.func37, Try.ntmps37
  go_wp2
  go_ret
  exact ⟨by first | rfl | (simp; done) | (simp [*]; done), by repeat (first | exact Drawn0.refl _ | apply Drawn0.step)⟩
 ·rw [if_neg c3] at H
  have c3b0 : decide (a0 < 1) = false := decide_eq_false c3
  clear c3
  by_cases c4 : a1 < 1
  ·rw [if_pos c4] at H
   have c4b0 : decide (a1 < 1) = true := decide_eq_true c4
   clear c4
   obtain rfl := Option.some.inj H
   go_enter Try.func37, Try.ntmps37
   go_wp2
   go_ret
   exact ⟨by first | rfl | (simp; done) | (simp [*]; done), by repeat (first | exact Drawn0.refl _ | apply Drawn0.step)⟩
  ·rw [if_neg c4] at H
   have c4b0 : decide (a1 < 1) = false := decide_eq_false c4
   clear c4
   by_cases c5 : a1 > 6
   ·rw [if_pos c5] at H
    have c5b0 : decide (6 < a1) = true := decide_eq_true c5
    clear c5
    obtain rfl := Option.some.inj H
    go_enter Try.func37, Try.ntmps37
    go_wp2
    go_ret
    exact ⟨by first | rfl | (simp; done) | (simp [*]; done), by repeat (first | exact Drawn0.refl _ | apply Drawn0.step)⟩
   ·rw [if_neg c5] at H
    have c5b0 : decide (6 < a1) = false := decide_eq_false c5
    clear c5
    by_cases c6 : a0 > 12
    ·rw [if_pos c6] at H
     have c6b0 : decide (12 < a0) = true := decide_eq_true c6
     clear c6
     obtain rfl := Option.some.inj H
     go_enter Try.func37, Try.ntmps37
     go_wp2
     go_ret
     exact ⟨by first | rfl | (simp; done) | (simp [*]; done), by repeat (first | exact Drawn0.refl _ | apply Drawn0.step)⟩
    ·rw [if_neg c6] at H
     have c6b0 : decide (12 < a0) = false := decide_eq_false c6
     clear c6
     by_cases c7 : (wrap64 (a0 * a1)) > 12
     ·rw [if_pos c7] at H
      have c7b0 : decide (12 < (wrap64 (a0 * a1))) = true := decide_eq_true c7
      clear c7
      obtain rfl := Option.some.inj H
      go_enter Try.func37, Try.ntmps37
      go_wp2
      go_ret
      exact ⟨by first | rfl | (simp; done) | (simp [*]; done), by repeat (first | exact Drawn0.refl _ | apply Drawn0.step)⟩
     ·rw [if_neg c7] at H
      have c7b0 : decide (12 < (wrap64 (a0 * a1))) = false := decide_eq_false c7
      clear c7
      obtain rfl := Option.some.inj H
      go_enter Try.func37, Try.ntmps37
      go_wp2
      go_ret
      exact ⟨by first | rfl | (simp; done) | (simp [*]; done), by repeat (first | exact Drawn0.refl _ | apply Drawn0.step)⟩

end Go.Proofs.Ytgbjbgdnldklpaa.Q
end
/-! Part QRef10Word -/
section
-- Written by xprint.py, a program of this session's, over the kit's print. Lean checks it.
namespace Go.Proofs.Ytgbjbgdnldklpaa.Q
open Go.RowKit Go.Proofs.YtgbjbgdnldklpaaW.PrintWords Go.Proofs.YtgbjbgdnldklpaaW.PrintLast Go.Proofs.YtgbjbgdnldklpaaW.PrintMore
attribute [local go_sem] max2_int min2_int max_two min_two max_three min_three max_four min_four
set_option linter.unusedVariables false
set_option linter.unusedSimpArgs false

/-! ### mizmazeref10_Word: function 17 -/
def mizmazeref10_Word.l0 : Nat → Int → List Int → Int → Option (Bool)
 | 0, _, _, _ => none
 | k + 1, x0, x1, x5 => if x5 < (x1.length : Int) then (if 0 ≤ x5 then (if (rd x1 x5) < 0 then (some false) else (if (rd x1 x5) ≥ x0 then (some false) else (mizmazeref10_Word.l0 k x0 x1 (wrap64 (x5 + 1))))) else (none)) else (some true)
def mizmazeref10_Word.f (k : Nat) (a0 : Int) (l1 : List Int) : Option (Bool) := if (l1.length : Int) > 40000 then (some false) else (mizmazeref10_Word.l0 k a0 l1 0)
theorem mizmazeref10_Word.mono_l : ∀ k, (∀ y0 y1 y2, LeO (mizmazeref10_Word.l0 k y0 y1 y2) (mizmazeref10_Word.l0 (k + 1) y0 y1 y2))
 | 0 => fun _ _ _ r h => by simp [mizmazeref10_Word.l0] at h
 | k + 1 => by
  have ih0 := mizmazeref10_Word.mono_l k
  ·intro y0 y1 y2
   unfold mizmazeref10_Word.l0
   repeat' first
   | (with_reducible exact ih0 _ _ _)
   | (with_reducible exact LeO.refl _)
   | (with_reducible exact LeO.none _)
   | (with_reducible refine LeO.ite ?_ ?_)
   | (with_reducible refine LeO.bind ?_ (fun _ => ?_))
   | exact ih0 _ _ _
   | exact LeO.none _
   | refine LeO.ite ?_ ?_
   | refine LeO.bind ?_ (fun _ => ?_)
theorem mizmazeref10_Word.mono : ∀ a0 a1 k, LeO (mizmazeref10_Word.f k a0 a1) (mizmazeref10_Word.f (k + 1) a0 a1) := by
 intro a0 a1 k
 have ih0 := mizmazeref10_Word.mono_l k
 unfold mizmazeref10_Word.f
 repeat' first
   | (with_reducible exact ih0 _ _ _)
   | (with_reducible exact LeO.refl _)
   | (with_reducible exact LeO.none _)
   | (with_reducible refine LeO.ite ?_ ?_)
   | (with_reducible refine LeO.bind ?_ (fun _ => ?_))
   | exact ih0 _ _ _
   | exact LeO.none _
   | refine LeO.ite ?_ ?_
   | refine LeO.bind ?_ (fun _ => ?_)
set_option maxHeartbeats 8000000 in
set_option maxRecDepth 100000 in
theorem mizmazeref10_Word.calls (k : Nat) (a0 : Int) (A1 : Option Addr) (c1 : Nat) (l1 : List Int) (r : Bool) (w : World) (hr1 : Kd.C (Kd.int .i64) w A1 l1.length l1) (hc1 : l1.length ≤ c1) (h : mizmazeref10_Word.f k a0 l1 = some r) :
  Calls Try.prog 17 #[.int .i64 a0, .slice A1 l1.length c1] w fun e w' => e = .returned (.bool r) ∧ Drawn0 w w' := by
 have HR1 := Aside0.mk hr1
 have HC1 := Aside0.mk hc1
 clear hr1 hc1
 have H : (if (l1.length : Int) > 40000 then (some false) else (mizmazeref10_Word.l0 k a0 l1 0)) = some r := h
 clear h
 by_cases c3 : (l1.length : Int) > 40000
 ·rw [if_pos c3] at H
  have c3b0 : decide (40000 < (l1.length : Int)) = true := decide_eq_true c3
  have c3b1 : decide (40000 < l1.length) = true := decide_eq_true (by omega)
  clear c3
  obtain rfl := Option.some.inj H
  go_enter Try.func17, Try.ntmps17
  go_wp2
  go_ret
  exact ⟨by first | rfl | (simp; done) | (simp [*]; done), by repeat (first | exact Drawn0.refl _ | apply Drawn0.step)⟩
 ·rw [if_neg c3] at H
  have c3b0 : decide (40000 < (l1.length : Int)) = false := decide_eq_false c3
  have c3b1 : decide (40000 < l1.length) = false := decide_eq_false (by omega)
  clear c3
  have H' := Aside0.mk H
  clear H
  go_enter Try.func17, Try.ntmps17
  go_wp2
  go_loopg [5] k (fun kq v5 w' => ∃ (x5_1 : Int), v5 = .int .i64 x5_1 ∧ Aside0 (mizmazeref10_Word.l0 kq a0 l1 x5_1 = some r) ∧ Aside0 (kq ≤ k) ∧ Drawn0 w w')
  case atStart => exact ⟨(0), (by first | rfl | (simp; done) | (simp [*]; done)), H', ⟨Nat.le_refl _⟩, by repeat (first | exact Drawn0.refl _ | apply Drawn0.step)⟩
  case round =>
   clear H'
   try clear c1
   try clear p2
   try clear c3
   try clear c3b0
   try clear c3b1
   obtain ⟨x5_1, rfl, HA, HK1, ⟨m1, rfl⟩⟩ := hrel
   cases gk with
   | zero => exact absurd HA.out (by simp [mizmazeref10_Word.l0])
   | succ k1 =>
    have H := HA.out
    clear HA
    simp only [mizmazeref10_Word.l0] at H
    by_cases c4 : x5_1 < (l1.length : Int)
    ·rw [if_pos c4] at H
     have c4b0 : decide (x5_1 < (l1.length : Int)) = true := decide_eq_true c4
     clear c4
     by_cases c5 : 0 ≤ x5_1
     ·rw [if_pos c5] at H
      have c5b0 : decide (0 ≤ x5_1) = true := decide_eq_true c5
      clear c5
      by_cases c6 : (rd l1 x5_1) < 0
      ·rw [if_pos c6] at H
       have c6b0 : decide ((rd l1 x5_1) < 0) = true := decide_eq_true c6
       clear c6
       obtain rfl := Option.some.inj H
       have p152 : 0 ≤ (x5_1 : Int) := of_decide_eq_true (by first | (with_reducible assumption) | assumption)
       have q152 : x5_1 < (l1.length : Int) := of_decide_eq_true (by first | (with_reducible assumption) | assumption)
       obtain ⟨ad152, e152, hx152_0⟩ := Kd.at_int HR1.out x5_1 p152 q152
       cases e152
       replace p152 := eq_true p152
       replace q152 := eq_true q152
       go_wp2
       go_ret
       exact ⟨by first | rfl | (simp; done) | (simp [*]; done), by repeat (first | exact Drawn0.refl _ | apply Drawn0.step)⟩
      ·rw [if_neg c6] at H
       have c6b0 : decide ((rd l1 x5_1) < 0) = false := decide_eq_false c6
       clear c6
       by_cases c7 : (rd l1 x5_1) ≥ a0
       ·rw [if_pos c7] at H
        have c7b0 : decide (a0 ≤ (rd l1 x5_1)) = true := decide_eq_true c7
        clear c7
        obtain rfl := Option.some.inj H
        have p152 : 0 ≤ (x5_1 : Int) := of_decide_eq_true (by first | (with_reducible assumption) | assumption)
        have q152 : x5_1 < (l1.length : Int) := of_decide_eq_true (by first | (with_reducible assumption) | assumption)
        obtain ⟨ad152, e152, hx152_0⟩ := Kd.at_int HR1.out x5_1 p152 q152
        cases e152
        replace p152 := eq_true p152
        replace q152 := eq_true q152
        have p153 : 0 ≤ (x5_1 : Int) := of_decide_eq_true (by first | (with_reducible assumption) | assumption)
        have q153 : x5_1 < (l1.length : Int) := of_decide_eq_true (by first | (with_reducible assumption) | assumption)
        obtain ⟨ad153, e153, hx153_0⟩ := Kd.at_int HR1.out x5_1 p153 q153
        obtain rfl : ad152 = ad153 := (by injection e153)
        replace p153 := eq_true p153
        replace q153 := eq_true q153
        go_wp2
        go_ret
        exact ⟨by first | rfl | (simp; done) | (simp [*]; done), by repeat (first | exact Drawn0.refl _ | apply Drawn0.step)⟩
       ·rw [if_neg c7] at H
        have c7b0 : decide (a0 ≤ (rd l1 x5_1)) = false := decide_eq_false c7
        clear c7
        have H' := Aside0.mk H
        clear H
        have p152 : 0 ≤ (x5_1 : Int) := of_decide_eq_true (by first | (with_reducible assumption) | assumption)
        have q152 : x5_1 < (l1.length : Int) := of_decide_eq_true (by first | (with_reducible assumption) | assumption)
        obtain ⟨ad152, e152, hx152_0⟩ := Kd.at_int HR1.out x5_1 p152 q152
        cases e152
        replace p152 := eq_true p152
        replace q152 := eq_true q152
        have p153 : 0 ≤ (x5_1 : Int) := of_decide_eq_true (by first | (with_reducible assumption) | assumption)
        have q153 : x5_1 < (l1.length : Int) := of_decide_eq_true (by first | (with_reducible assumption) | assumption)
        obtain ⟨ad153, e153, hx153_0⟩ := Kd.at_int HR1.out x5_1 p153 q153
        obtain rfl : ad152 = ad153 := (by injection e153)
        replace p153 := eq_true p153
        replace q153 := eq_true q153
        go_wp2
        go_roundg k1
        case measure => have := HK1.out; omega
        case rel => exact ⟨(wrap64 (x5_1 + 1)), (by first | rfl | (simp; done) | (simp [*]; done)), H', ⟨by have := HK1.out; omega⟩, by repeat (first | exact Drawn0.refl _ | apply Drawn0.step)⟩
     ·rw [if_neg c5] at H
      exact absurd H (by simp)
    ·rw [if_neg c4] at H
     have c4b0 : decide (x5_1 < (l1.length : Int)) = false := decide_eq_false c4
     clear c4
     obtain rfl := Option.some.inj H
     go_wp2
     go_ret
     exact ⟨by first | rfl | (simp; done) | (simp [*]; done), by repeat (first | exact Drawn0.refl _ | apply Drawn0.step)⟩

end Go.Proofs.Ytgbjbgdnldklpaa.Q
end
/-! Part QLaw10Wide -/
section
-- Written by xprint.py, a program of this session's, over the kit's print. Lean checks it.
namespace Go.Proofs.Ytgbjbgdnldklpaa.Q
open Go.RowKit Go.Proofs.YtgbjbgdnldklpaaW.PrintWords Go.Proofs.YtgbjbgdnldklpaaW.PrintLast Go.Proofs.YtgbjbgdnldklpaaW.PrintMore
attribute [local go_sem] max2_int min2_int max_two min_two max_three min_three max_four min_four
set_option linter.unusedVariables false
set_option linter.unusedSimpArgs false

/-! ### mizmazelaw10_Wide: function 20 -/
mutual
def mizmazelaw10_Wide.l0 : Nat → Int → List (List (S44)) → Option (Bool)
 | 0, _, _ => none
 | k + 1, x3, x188000 => if x3 < (x188000.length : Int) then (mizmazelaw10_Wide.j1 k x3 (decide (x3 < 100)) x188000) else (mizmazelaw10_Wide.j1 k x3 false x188000)
def mizmazelaw10_Wide.j1 : Nat → Int → Bool → List (List (S44)) → Option (Bool)
 | 0, _, _, _ => none
 | k + 1, x3, x12, x188000 => if x12 = true then (if 0 ≤ x3 then (if x3 < (x188000.length : Int) then (if ((rd_L4 x188000 x3).length : Int) > 100 then (some true) else (mizmazelaw10_Wide.l0 k (wrap64 (x3 + 1)) x188000)) else (none)) else (none)) else (some (decide ((x188000.length : Int) > 100)))
end
def mizmazelaw10_Wide.f (k : Nat) (l0_0 : List (List (S44))) : Option (Bool) := mizmazelaw10_Wide.l0 k 0 l0_0
theorem mizmazelaw10_Wide.mono_l : ∀ k, (∀ y0 y1, LeO (mizmazelaw10_Wide.l0 k y0 y1) (mizmazelaw10_Wide.l0 (k + 1) y0 y1)) ∧ (∀ y0 y1 y2, LeO (mizmazelaw10_Wide.j1 k y0 y1 y2) (mizmazelaw10_Wide.j1 (k + 1) y0 y1 y2))
 | 0 => ⟨fun _ _ r h => by simp [mizmazelaw10_Wide.l0] at h, fun _ _ _ r h => by simp [mizmazelaw10_Wide.j1] at h⟩
 | k + 1 => by
  obtain ⟨ih0, ih1⟩ := mizmazelaw10_Wide.mono_l k
  refine ⟨?_, ?_⟩
  ·intro y0 y1
   unfold mizmazelaw10_Wide.l0
   repeat' first
   | (with_reducible exact ih0 _ _)
   | (with_reducible exact ih1 _ _ _)
   | (with_reducible exact LeO.refl _)
   | (with_reducible exact LeO.none _)
   | (with_reducible refine LeO.ite ?_ ?_)
   | (with_reducible refine LeO.bind ?_ (fun _ => ?_))
   | exact ih0 _ _
   | exact ih1 _ _ _
   | exact LeO.none _
   | refine LeO.ite ?_ ?_
   | refine LeO.bind ?_ (fun _ => ?_)
  ·intro y0 y1 y2
   unfold mizmazelaw10_Wide.j1
   repeat' first
   | (with_reducible exact ih0 _ _)
   | (with_reducible exact ih1 _ _ _)
   | (with_reducible exact LeO.refl _)
   | (with_reducible exact LeO.none _)
   | (with_reducible refine LeO.ite ?_ ?_)
   | (with_reducible refine LeO.bind ?_ (fun _ => ?_))
   | exact ih0 _ _
   | exact ih1 _ _ _
   | exact LeO.none _
   | refine LeO.ite ?_ ?_
   | refine LeO.bind ?_ (fun _ => ?_)
theorem mizmazelaw10_Wide.mono : ∀ a0 k, LeO (mizmazelaw10_Wide.f k a0) (mizmazelaw10_Wide.f (k + 1) a0) := by
 intro a0 k
 obtain ⟨ih0, ih1⟩ := mizmazelaw10_Wide.mono_l k
 unfold mizmazelaw10_Wide.f
 repeat' first
   | (with_reducible exact ih0 _ _)
   | (with_reducible exact ih1 _ _ _)
   | (with_reducible exact LeO.refl _)
   | (with_reducible exact LeO.none _)
   | (with_reducible refine LeO.ite ?_ ?_)
   | (with_reducible refine LeO.bind ?_ (fun _ => ?_))
   | exact ih0 _ _
   | exact ih1 _ _ _
   | exact LeO.none _
   | refine LeO.ite ?_ ?_
   | refine LeO.bind ?_ (fun _ => ?_)
set_option maxHeartbeats 8000000 in
set_option maxRecDepth 100000 in
theorem mizmazelaw10_Wide.calls (k : Nat) (A0_0 : Option Addr) (c0_0 : Nat) (l0_0 : List (List (S44))) (r : Bool) (w : World) (hr0_0 : Kd.C (Kd.slice 44 k44) w A0_0 l0_0.length l0_0) (hc0_0 : l0_0.length ≤ c0_0) (h : mizmazelaw10_Wide.f k l0_0 = some r) :
  Calls Try.prog 20 #[.agg #[.slice A0_0 l0_0.length c0_0]] w fun e w' => e = .returned (.bool r) ∧ Below w.heap.size w w' := by
 have hu38 := Try.underlying38
 have HR0_0 := Aside0.mk hr0_0
 have HC0_0 := Aside0.mk hc0_0
 clear hr0_0 hc0_0
 have HB := Aside0.mk (Below.refl w.heap.size w)
 have H : (mizmazelaw10_Wide.l0 k 0 l0_0) = some r := h
 clear h
 have H' := Aside0.mk H
 clear H
 go_enter Try.func20, Try.ntmps20
 go_wp2_with (first | ((with_reducible refine gate_dst (N := 1) rfl ?_); refine box_event ?hg (N := 1) ?hd (cs := #[.slice A0_0 l0_0.length c0_0]) (t := 38) ?hr ?_; (case hd => rfl); (case hg => rfl); (case hr => first | (go_simp; done) | (go_simp; rfl)); intro gb187 hg w2 hbox hb; have n0_ := Aside0.mk (below_step (by repeat (first | (with_reducible first | exact HB.out | apply below_alloc | apply pw_below_drewN | apply below_drew1) | exact HB.out)) hb); have n1_ := Aside0.mk (hbox); have n2_ := Aside0.mk ((by rw [hg]; exact (below_size (by repeat (first | (with_reducible first | exact HB.out | apply below_alloc | apply pw_below_drewN | apply below_drew1) | exact HB.out))) : w.heap.size ≤ gb187)); have n3_ := Aside0.mk ((by rw [hg]; exact (below_size (by repeat (first | (with_reducible first | exact HB.out | apply below_alloc | apply pw_below_drewN | apply below_drew1) | exact HB.out))) : w.heap.size ≤ gb187)); clear HB; have HB := n0_; have BK187 := n1_; have GW187 := n2_; have GE187 := n3_; clear n0_ n1_ n2_ n3_; clear hb hbox hg))
 go_loopg [3] k (fun kq v3 w' => ∃ (x3_1 : Int), v3 = .int .i64 x3_1 ∧ Aside0 (mizmazelaw10_Wide.l0 kq x3_1 l0_0 = some r) ∧ Aside0 (kq ≤ k) ∧ Aside0 (w'.heap[gb187]? = some (.cells #[(.slice A0_0 l0_0.length c0_0)] 38 (0, 0))) ∧ Aside0 (Below w.heap.size w w'))
 case atStart => exact ⟨(0), (by first | rfl | (simp; done) | (simp [*]; done)), H', ⟨Nat.le_refl _⟩, ⟨by (with_reducible repeat (first | refine blk_drewN ?_ _ | refine blk_drew ?_ | refine blk_alloc ?_ _)); exact BK187.out⟩, ⟨by repeat (first | (with_reducible first | exact HB.out | apply below_alloc | apply pw_below_drewN | apply below_drew1 | refine below_set ?_ GE187.out) | exact HB.out)⟩⟩
 case round =>
  clear H'
  try clear c2
  try clear p2
  obtain ⟨x3_1, rfl, HA, HK1, BK187, HB⟩ := hrel
  cases gk with
  | zero => exact absurd HA.out (by simp [mizmazelaw10_Wide.l0])
  | succ k1 =>
   have H := HA.out
   clear HA
   simp only [mizmazelaw10_Wide.l0] at H
   have HC3 := Aside0.mk H
   clear H
   go_upto_region 2 with (fail)
   go_cut [12] (fun v12 wc => ∃ (kq : Nat) (x12_2 : Bool), v12 = .bool x12_2 ∧ Aside0 (mizmazelaw10_Wide.j1 kq x3_1 x12_2 l0_0 = some r) ∧ Aside0 (kq ≤ k1) ∧ Aside0 (wc.heap[gb187]? = some (.cells #[(.slice A0_0 l0_0.length c0_0)] 38 (0, 0))) ∧ Aside0 (Below w.heap.size w wc))
   case first =>
    have H := HC3.out
    clear HC3
    by_cases c4 : x3_1 < (l0_0.length : Int)
    ·rw [if_pos c4] at H
     have c4b0 : decide (x3_1 < (l0_0.length : Int)) = true := decide_eq_true c4
     clear c4
     (first | rw [c4b0] | (simp only [i64_w, i32_w]; rw [c4b0]) | skip)
     have H' := Aside0.mk H
     clear H
     have hcz5_0 : wr.cell? ⟨gb187, 0, none⟩ = some (.slice A0_0 l0_0.length c0_0) := (blk_cell BK187.out 0).trans rfl
     have hfz5_0 := blk_frozen BK187.out 0
     go_wp2
     go_meet
     case rel => exact ⟨_, (decide (x3_1 < 100)), (by first | rfl | (simp; done) | (simp [*]; done)), H', ⟨by have := HK1.out; first | omega | exact Nat.le_refl _⟩, ⟨by (with_reducible repeat (first | refine blk_drewN ?_ _ | refine blk_drew ?_ | refine blk_alloc ?_ _)); exact BK187.out⟩, ⟨by repeat (first | (with_reducible first | exact HB.out | apply below_alloc | apply pw_below_drewN | apply below_drew1 | refine below_set ?_ GE187.out) | exact HB.out)⟩⟩
    ·rw [if_neg c4] at H
     have c4b0 : decide (x3_1 < (l0_0.length : Int)) = false := decide_eq_false c4
     clear c4
     (first | rw [c4b0] | (simp only [i64_w, i32_w]; rw [c4b0]) | skip)
     have H' := Aside0.mk H
     clear H
     have hcz6_0 : wr.cell? ⟨gb187, 0, none⟩ = some (.slice A0_0 l0_0.length c0_0) := (blk_cell BK187.out 0).trans rfl
     have hfz6_0 := blk_frozen BK187.out 0
     go_wp2
     go_meet
     case rel => exact ⟨_, (false), (by first | rfl | (simp; done) | (simp [*]; done)), H', ⟨by have := HK1.out; first | omega | exact Nat.le_refl _⟩, ⟨by (with_reducible repeat (first | refine blk_drewN ?_ _ | refine blk_drew ?_ | refine blk_alloc ?_ _)); exact BK187.out⟩, ⟨by repeat (first | (with_reducible first | exact HB.out | apply below_alloc | apply pw_below_drewN | apply below_drew1 | refine below_set ?_ GE187.out) | exact HB.out)⟩⟩
   case rest =>
    clear HC3
    try clear c2
    try clear p2
    try clear c4
    try clear c4b0
    try clear hcz5_0
    try clear hcz6_0
    try clear hfz5_0
    try clear hfz6_0
    try clear p2
    obtain ⟨kq, x12_2, rfl, HA, HJ2, BK187, HB⟩ := hcut
    cases kq with
    | zero => exact absurd HA.out (by simp [mizmazelaw10_Wide.j1])
    | succ kj2 =>
     have H := HA.out
     clear HA
     simp only [mizmazelaw10_Wide.j1] at H
     by_cases c7 : x12_2 = true
     ·subst c7
      have H1 : (if 0 ≤ x3_1 then (if x3_1 < (l0_0.length : Int) then (if ((rd_L4 l0_0 x3_1).length : Int) > 100 then (some true) else (mizmazelaw10_Wide.l0 kj2 (wrap64 (x3_1 + 1)) l0_0)) else (none)) else (none)) = some r := by rw [if_pos rfl] at H; exact H
      clear H
      have H := H1
      clear H1
      by_cases c8 : 0 ≤ x3_1
      ·rw [if_pos c8] at H
       have c8b0 : decide (0 ≤ x3_1) = true := decide_eq_true c8
       clear c8
       by_cases c9 : x3_1 < (l0_0.length : Int)
       ·rw [if_pos c9] at H
        have c9b0 : decide (x3_1 < (l0_0.length : Int)) = true := decide_eq_true c9
        clear c9
        by_cases c10 : ((rd_L4 l0_0 x3_1).length : Int) > 100
        ·rw [if_pos c10] at H
         have c10b0 : decide (100 < ((rd_L4 l0_0 x3_1).length : Int)) = true := decide_eq_true c10
         have c10b1 : decide (100 < (rd_L4 l0_0 x3_1).length) = true := decide_eq_true (by omega)
         clear c10
         obtain rfl := Option.some.inj H
         have hcz11_0 : wc.cell? ⟨gb187, 0, none⟩ = some (.slice A0_0 l0_0.length c0_0) := (blk_cell BK187.out 0).trans rfl
         have hfz11_0 := blk_frozen BK187.out 0
         have p188 : 0 ≤ (x3_1 : Int) := of_decide_eq_true (by first | (with_reducible assumption) | assumption)
         have q188 : x3_1 < (l0_0.length : Int) := of_decide_eq_true (by first | (with_reducible assumption) | assumption)
         obtain ⟨ad188, A188_0, c188_0, e188, hx188_0, hl188_0, hi188_0⟩ := at_L4 HR0_0.out x3_1 p188 q188
         cases e188
         replace hx188_0 := (HB.out.cell (World.block_lt_of_cell? w _ hx188_0)).trans hx188_0
         have HR188_0 := Aside0.mk hi188_0
         have HC188_0 := Aside0.mk hl188_0
         clear hi188_0 hl188_0
         replace p188 := eq_true p188
         replace q188 := eq_true q188
         go_wp2
         go_ret
         exact ⟨by first | rfl | (simp [errW_none, errW_some] <;> rfl) | (simp [*, errW_none, errW_some] <;> rfl), by repeat (first | (with_reducible first | exact HB.out | apply below_alloc | apply pw_below_drewN | apply below_drew1 | refine below_set ?_ GE187.out) | exact HB.out)⟩
        ·rw [if_neg c10] at H
         have c10b0 : decide (100 < ((rd_L4 l0_0 x3_1).length : Int)) = false := decide_eq_false c10
         have c10b1 : decide (100 < (rd_L4 l0_0 x3_1).length) = false := decide_eq_false (by omega)
         clear c10
         have H' := Aside0.mk H
         clear H
         have hcz12_0 : wc.cell? ⟨gb187, 0, none⟩ = some (.slice A0_0 l0_0.length c0_0) := (blk_cell BK187.out 0).trans rfl
         have hfz12_0 := blk_frozen BK187.out 0
         have p188 : 0 ≤ (x3_1 : Int) := of_decide_eq_true (by first | (with_reducible assumption) | assumption)
         have q188 : x3_1 < (l0_0.length : Int) := of_decide_eq_true (by first | (with_reducible assumption) | assumption)
         obtain ⟨ad188, A188_0, c188_0, e188, hx188_0, hl188_0, hi188_0⟩ := at_L4 HR0_0.out x3_1 p188 q188
         cases e188
         replace hx188_0 := (HB.out.cell (World.block_lt_of_cell? w _ hx188_0)).trans hx188_0
         have HR188_0 := Aside0.mk hi188_0
         have HC188_0 := Aside0.mk hl188_0
         clear hi188_0 hl188_0
         replace p188 := eq_true p188
         replace q188 := eq_true q188
         go_wp2
         go_roundg kj2
         case measure => have := HK1.out; have := HJ2.out; omega
         case rel => exact ⟨(wrap64 (x3_1 + 1)), (by first | rfl | (simp; done) | (simp [*]; done)), H', ⟨by have := HK1.out; have := HJ2.out; omega⟩, ⟨by (with_reducible repeat (first | refine blk_drewN ?_ _ | refine blk_drew ?_ | refine blk_alloc ?_ _)); exact BK187.out⟩, ⟨by repeat (first | (with_reducible first | exact HB.out | apply below_alloc | apply pw_below_drewN | apply below_drew1 | refine below_set ?_ GE187.out) | exact HB.out)⟩⟩
       ·rw [if_neg c9] at H
        exact absurd H (by simp)
      ·rw [if_neg c8] at H
       exact absurd H (by simp)
     ·replace c7 := Bool.eq_false_iff.mpr c7
      subst c7
      have H1 : (some (decide ((l0_0.length : Int) > 100))) = some r := by rw [if_neg (show ¬ (false = true) by decide)] at H; exact H
      clear H
      have H := H1
      clear H1
      obtain rfl := Option.some.inj H
      have hcz13_0 : wc.cell? ⟨gb187, 0, none⟩ = some (.slice A0_0 l0_0.length c0_0) := (blk_cell BK187.out 0).trans rfl
      have hfz13_0 := blk_frozen BK187.out 0
      go_wp2
      go_ret
      exact ⟨by first | rfl | (simp [errW_none, errW_some] <;> rfl) | (simp [*, errW_none, errW_some] <;> rfl), by repeat (first | (with_reducible first | exact HB.out | apply below_alloc | apply pw_below_drewN | apply below_drew1 | refine below_set ?_ GE187.out) | exact HB.out)⟩

end Go.Proofs.Ytgbjbgdnldklpaa.Q
end
/-! Part QEq0 -/
section
-- Written by xprint.py, a program of this session's, over the kit's print. Lean checks it.
namespace Go.Proofs.Ytgbjbgdnldklpaa.Q
open Go.RowKit Go.Proofs.YtgbjbgdnldklpaaW.PrintWords Go.Proofs.YtgbjbgdnldklpaaW.PrintLast Go.Proofs.YtgbjbgdnldklpaaW.PrintMore
attribute [local go_sem] max2_int min2_int max_two min_two max_three min_three max_four min_four
set_option linter.unusedVariables false
set_option linter.unusedSimpArgs false

theorem eqA44 (d : Nat) (w : World) (x0 y0 : Int) (x1 y1 : Int) :
  (Op.equalIn (d + 2) 44 (.agg #[.int .i64 x0, .int .i64 x1]) (.agg #[.int .i64 y0, .int .i64 y1])).run Try.prog w = .ok (x0 == y0 && (x1 == y1)) w := by
 refine eqA_of Try.underlying44 (by kernel_rfl) ?_
 refine eqf_cons (by rfl) (by go_simp; rfl) (by go_simp; rfl) (by go_simp) ?_
 exact eqf_last (by rfl) (by go_simp; rfl) (by go_simp; rfl) (by go_simp)
end Go.Proofs.Ytgbjbgdnldklpaa.Q
end
/-! Part QRef10Valid -/
section
-- Written by xprint.py, a program of this session's, over the kit's print. Lean checks it.
namespace Go.Proofs.Ytgbjbgdnldklpaa.Q
open Go.RowKit Go.Proofs.YtgbjbgdnldklpaaW.PrintWords Go.Proofs.YtgbjbgdnldklpaaW.PrintLast Go.Proofs.YtgbjbgdnldklpaaW.PrintMore
attribute [local go_sem] max2_int min2_int max_two min_two max_three min_three max_four min_four
set_option linter.unusedVariables false
set_option linter.unusedSimpArgs false

attribute [local go_sem high] eqA44
/-! ### mizmazeref10_Valid: function 21 -/
mutual
def mizmazeref10_Valid.j0 : Nat → Int → Bool → List (List (S44)) → Option (Bool)
 | 0, _, _, _ => none
 | k + 1, x3, x17, x190000 => if x17 = true then (some false) else (if 0 < (x190000.length : Int) then (if ((rd_L4 x190000 0).length : Int) < 1 then (mizmazeref10_Valid.j1 k x3 ((rd_L4 x190000 0).length : Int) true x190000) else (mizmazeref10_Valid.j1 k x3 ((rd_L4 x190000 0).length : Int) (decide (((rd_L4 x190000 0).length : Int) > 6)) x190000)) else (none))
def mizmazeref10_Valid.j1 : Nat → Int → Int → Bool → List (List (S44)) → Option (Bool)
 | 0, _, _, _, _ => none
 | k + 1, x3, x4, x28, x190000 => if x28 = true then (some false) else (mizmazeref10_Valid.l0 k x3 x4 0 x190000)
def mizmazeref10_Valid.l0 : Nat → Int → Int → Int → List (List (S44)) → Option (Bool)
 | 0, _, _, _, _ => none
 | k + 1, x3, x4, x5, x190000 => if x5 < x3 then (if 0 ≤ x5 then (if x5 < (x190000.length : Int) then (if ((rd_L4 x190000 x5).length : Int) = x4 then (mizmazeref10_Valid.l0 k x3 x4 (wrap64 (x5 + 1)) x190000) else (some false)) else (none)) else (none)) else (mizmazeref10_Valid.l1 k x3 x4 0 x190000)
def mizmazeref10_Valid.l1 : Nat → Int → Int → Int → List (List (S44)) → Option (Bool)
 | 0, _, _, _, _ => none
 | k + 1, x3, x4, x6, x190000 => if x6 < x3 then (mizmazeref10_Valid.l2 k x3 x4 x6 0 x190000) else (some true)
def mizmazeref10_Valid.l2 : Nat → Int → Int → Int → Int → List (List (S44)) → Option (Bool)
 | 0, _, _, _, _, _ => none
 | k + 1, x3, x4, x6, x7, x190000 => if x7 < x4 then (if 0 ≤ x6 then (if x6 < (x190000.length : Int) then (if 0 ≤ x7 then (if x7 < ((rd_L4 x190000 x6).length : Int) then (if ((rd_T44 (rd_L4 x190000 x6) x7).f0) < 0 then (some false) else (if ((rd_T44 (rd_L4 x190000 x6) x7).f0) ≥ x3 then (some false) else (if ((rd_T44 (rd_L4 x190000 x6) x7).f1) < 0 then (some false) else (if ((rd_T44 (rd_L4 x190000 x6) x7).f1) ≥ x4 then (some false) else (if 0 ≤ ((rd_T44 (rd_L4 x190000 x6) x7).f0) then (if ((rd_T44 (rd_L4 x190000 x6) x7).f0) < (x190000.length : Int) then (if 0 ≤ ((rd_T44 (rd_L4 x190000 x6) x7).f1) then (if ((rd_T44 (rd_L4 x190000 x6) x7).f1) < ((rd_L4 x190000 ((rd_T44 (rd_L4 x190000 x6) x7).f0)).length : Int) then (if (!(((rd_T44 (rd_L4 x190000 ((rd_T44 (rd_L4 x190000 x6) x7).f0)) ((rd_T44 (rd_L4 x190000 x6) x7).f1)).f0) == x6) || (!(((rd_T44 (rd_L4 x190000 ((rd_T44 (rd_L4 x190000 x6) x7).f0)) ((rd_T44 (rd_L4 x190000 x6) x7).f1)).f1) == x7))) = true then (some false) else (mizmazeref10_Valid.l2 k x3 x4 x6 (wrap64 (x7 + 1)) x190000)) else (none)) else (none)) else (none)) else (none)))))) else (none)) else (none)) else (none)) else (none)) else (mizmazeref10_Valid.l1 k x3 x4 (wrap64 (x6 + 1)) x190000)
end
def mizmazeref10_Valid.f (k : Nat) (l0_0 : List (List (S44))) : Option (Bool) := if (l0_0.length : Int) < 1 then (mizmazeref10_Valid.j0 k (l0_0.length : Int) true l0_0) else (mizmazeref10_Valid.j0 k (l0_0.length : Int) (decide ((l0_0.length : Int) > 60)) l0_0)
theorem mizmazeref10_Valid.mono_l : ∀ k, (∀ y0 y1 y2, LeO (mizmazeref10_Valid.j0 k y0 y1 y2) (mizmazeref10_Valid.j0 (k + 1) y0 y1 y2)) ∧ (∀ y0 y1 y2 y3, LeO (mizmazeref10_Valid.j1 k y0 y1 y2 y3) (mizmazeref10_Valid.j1 (k + 1) y0 y1 y2 y3)) ∧ (∀ y0 y1 y2 y3, LeO (mizmazeref10_Valid.l0 k y0 y1 y2 y3) (mizmazeref10_Valid.l0 (k + 1) y0 y1 y2 y3)) ∧ (∀ y0 y1 y2 y3, LeO (mizmazeref10_Valid.l1 k y0 y1 y2 y3) (mizmazeref10_Valid.l1 (k + 1) y0 y1 y2 y3)) ∧ (∀ y0 y1 y2 y3 y4, LeO (mizmazeref10_Valid.l2 k y0 y1 y2 y3 y4) (mizmazeref10_Valid.l2 (k + 1) y0 y1 y2 y3 y4))
 | 0 => ⟨fun _ _ _ r h => by simp [mizmazeref10_Valid.j0] at h, fun _ _ _ _ r h => by simp [mizmazeref10_Valid.j1] at h, fun _ _ _ _ r h => by simp [mizmazeref10_Valid.l0] at h, fun _ _ _ _ r h => by simp [mizmazeref10_Valid.l1] at h, fun _ _ _ _ _ r h => by simp [mizmazeref10_Valid.l2] at h⟩
 | k + 1 => by
  obtain ⟨ih0, ih1, ih2, ih3, ih4⟩ := mizmazeref10_Valid.mono_l k
  refine ⟨?_, ?_, ?_, ?_, ?_⟩
  ·intro y0 y1 y2
   unfold mizmazeref10_Valid.j0
   repeat' first
   | (with_reducible exact ih0 _ _ _)
   | (with_reducible exact ih1 _ _ _ _)
   | (with_reducible exact ih2 _ _ _ _)
   | (with_reducible exact ih3 _ _ _ _)
   | (with_reducible exact ih4 _ _ _ _ _)
   | (with_reducible exact LeO.refl _)
   | (with_reducible exact LeO.none _)
   | (with_reducible refine LeO.ite ?_ ?_)
   | (with_reducible refine LeO.bind ?_ (fun _ => ?_))
   | exact ih0 _ _ _
   | exact ih1 _ _ _ _
   | exact ih2 _ _ _ _
   | exact ih3 _ _ _ _
   | exact ih4 _ _ _ _ _
   | exact LeO.none _
   | refine LeO.ite ?_ ?_
   | refine LeO.bind ?_ (fun _ => ?_)
  ·intro y0 y1 y2 y3
   unfold mizmazeref10_Valid.j1
   repeat' first
   | (with_reducible exact ih0 _ _ _)
   | (with_reducible exact ih1 _ _ _ _)
   | (with_reducible exact ih2 _ _ _ _)
   | (with_reducible exact ih3 _ _ _ _)
   | (with_reducible exact ih4 _ _ _ _ _)
   | (with_reducible exact LeO.refl _)
   | (with_reducible exact LeO.none _)
   | (with_reducible refine LeO.ite ?_ ?_)
   | (with_reducible refine LeO.bind ?_ (fun _ => ?_))
   | exact ih0 _ _ _
   | exact ih1 _ _ _ _
   | exact ih2 _ _ _ _
   | exact ih3 _ _ _ _
   | exact ih4 _ _ _ _ _
   | exact LeO.none _
   | refine LeO.ite ?_ ?_
   | refine LeO.bind ?_ (fun _ => ?_)
  ·intro y0 y1 y2 y3
   unfold mizmazeref10_Valid.l0
   repeat' first
   | (with_reducible exact ih0 _ _ _)
   | (with_reducible exact ih1 _ _ _ _)
   | (with_reducible exact ih2 _ _ _ _)
   | (with_reducible exact ih3 _ _ _ _)
   | (with_reducible exact ih4 _ _ _ _ _)
   | (with_reducible exact LeO.refl _)
   | (with_reducible exact LeO.none _)
   | (with_reducible refine LeO.ite ?_ ?_)
   | (with_reducible refine LeO.bind ?_ (fun _ => ?_))
   | exact ih0 _ _ _
   | exact ih1 _ _ _ _
   | exact ih2 _ _ _ _
   | exact ih3 _ _ _ _
   | exact ih4 _ _ _ _ _
   | exact LeO.none _
   | refine LeO.ite ?_ ?_
   | refine LeO.bind ?_ (fun _ => ?_)
  ·intro y0 y1 y2 y3
   unfold mizmazeref10_Valid.l1
   repeat' first
   | (with_reducible exact ih0 _ _ _)
   | (with_reducible exact ih1 _ _ _ _)
   | (with_reducible exact ih2 _ _ _ _)
   | (with_reducible exact ih3 _ _ _ _)
   | (with_reducible exact ih4 _ _ _ _ _)
   | (with_reducible exact LeO.refl _)
   | (with_reducible exact LeO.none _)
   | (with_reducible refine LeO.ite ?_ ?_)
   | (with_reducible refine LeO.bind ?_ (fun _ => ?_))
   | exact ih0 _ _ _
   | exact ih1 _ _ _ _
   | exact ih2 _ _ _ _
   | exact ih3 _ _ _ _
   | exact ih4 _ _ _ _ _
   | exact LeO.none _
   | refine LeO.ite ?_ ?_
   | refine LeO.bind ?_ (fun _ => ?_)
  ·intro y0 y1 y2 y3 y4
   unfold mizmazeref10_Valid.l2
   repeat' first
   | (with_reducible exact ih0 _ _ _)
   | (with_reducible exact ih1 _ _ _ _)
   | (with_reducible exact ih2 _ _ _ _)
   | (with_reducible exact ih3 _ _ _ _)
   | (with_reducible exact ih4 _ _ _ _ _)
   | (with_reducible exact LeO.refl _)
   | (with_reducible exact LeO.none _)
   | (with_reducible refine LeO.ite ?_ ?_)
   | (with_reducible refine LeO.bind ?_ (fun _ => ?_))
   | exact ih0 _ _ _
   | exact ih1 _ _ _ _
   | exact ih2 _ _ _ _
   | exact ih3 _ _ _ _
   | exact ih4 _ _ _ _ _
   | exact LeO.none _
   | refine LeO.ite ?_ ?_
   | refine LeO.bind ?_ (fun _ => ?_)
theorem mizmazeref10_Valid.mono : ∀ a0 k, LeO (mizmazeref10_Valid.f k a0) (mizmazeref10_Valid.f (k + 1) a0) := by
 intro a0 k
 obtain ⟨ih0, ih1, ih2, ih3, ih4⟩ := mizmazeref10_Valid.mono_l k
 unfold mizmazeref10_Valid.f
 repeat' first
   | (with_reducible exact ih0 _ _ _)
   | (with_reducible exact ih1 _ _ _ _)
   | (with_reducible exact ih2 _ _ _ _)
   | (with_reducible exact ih3 _ _ _ _)
   | (with_reducible exact ih4 _ _ _ _ _)
   | (with_reducible exact LeO.refl _)
   | (with_reducible exact LeO.none _)
   | (with_reducible refine LeO.ite ?_ ?_)
   | (with_reducible refine LeO.bind ?_ (fun _ => ?_))
   | exact ih0 _ _ _
   | exact ih1 _ _ _ _
   | exact ih2 _ _ _ _
   | exact ih3 _ _ _ _
   | exact ih4 _ _ _ _ _
   | exact LeO.none _
   | refine LeO.ite ?_ ?_
   | refine LeO.bind ?_ (fun _ => ?_)
set_option maxHeartbeats 8000000 in
set_option maxRecDepth 100000 in
theorem mizmazeref10_Valid.calls (k : Nat) (A0_0 : Option Addr) (c0_0 : Nat) (l0_0 : List (List (S44))) (r : Bool) (w : World) (hr0_0 : Kd.C (Kd.slice 44 k44) w A0_0 l0_0.length l0_0) (hc0_0 : l0_0.length ≤ c0_0) (h : mizmazeref10_Valid.f k l0_0 = some r) :
  Calls Try.prog 21 #[.agg #[.slice A0_0 l0_0.length c0_0]] w fun e w' => e = .returned (.bool r) ∧ Below w.heap.size w w' := by
 have hu38 := Try.underlying38
 have hu44 := Try.underlying44
 have HR0_0 := Aside0.mk hr0_0
 have HC0_0 := Aside0.mk hc0_0
 clear hr0_0 hc0_0
 have HB := Aside0.mk (Below.refl w.heap.size w)
 have H : (if (l0_0.length : Int) < 1 then (mizmazeref10_Valid.j0 k (l0_0.length : Int) true l0_0) else (mizmazeref10_Valid.j0 k (l0_0.length : Int) (decide ((l0_0.length : Int) > 60)) l0_0)) = some r := h
 clear h
 have HC2 := Aside0.mk H
 clear H
 go_enter Try.func21, Try.ntmps21
 go_upto_region 2 with (first | ((with_reducible refine gate_dst (N := 1) rfl ?_); refine box_event ?hg (N := 1) ?hd (cs := #[.slice A0_0 l0_0.length c0_0]) (t := 38) ?hr ?_; (case hd => rfl); (case hg => rfl); (case hr => first | (go_simp; done) | (go_simp; rfl)); intro gb189 hg w3 hbox hb; have n0_ := Aside0.mk (below_step (by repeat (first | (with_reducible first | exact HB.out | apply below_alloc | apply pw_below_drewN | apply below_drew1) | exact HB.out)) hb); have n1_ := Aside0.mk (hbox); have n2_ := Aside0.mk ((by rw [hg]; exact (below_size (by repeat (first | (with_reducible first | exact HB.out | apply below_alloc | apply pw_below_drewN | apply below_drew1) | exact HB.out))) : w.heap.size ≤ gb189)); have n3_ := Aside0.mk ((by rw [hg]; exact (below_size (by repeat (first | (with_reducible first | exact HB.out | apply below_alloc | apply pw_below_drewN | apply below_drew1) | exact HB.out))) : w.heap.size ≤ gb189)); clear HB; have HB := n0_; have BK189 := n1_; have GW189 := n2_; have GE189 := n3_; clear n0_ n1_ n2_ n3_; clear hb hbox hg; have hcz4_0 : w3.cell? ⟨gb189, 0, none⟩ = some (.slice A0_0 l0_0.length c0_0) := (blk_cell BK189.out 0).trans rfl; have hfz4_0 := blk_frozen BK189.out 0))
 repeat (go_quiet (first | ((with_reducible refine gate_dst (N := 1) rfl ?_); refine box_event ?hg (N := 1) ?hd (cs := #[.slice A0_0 l0_0.length c0_0]) (t := 38) ?hr ?_; (case hd => rfl); (case hg => rfl); (case hr => first | (go_simp; done) | (go_simp; rfl)); intro gb189 hg w3 hbox hb; have n0_ := Aside0.mk (below_step (by repeat (first | (with_reducible first | exact HB.out | apply below_alloc | apply pw_below_drewN | apply below_drew1) | exact HB.out)) hb); have n1_ := Aside0.mk (hbox); have n2_ := Aside0.mk ((by rw [hg]; exact (below_size (by repeat (first | (with_reducible first | exact HB.out | apply below_alloc | apply pw_below_drewN | apply below_drew1) | exact HB.out))) : w.heap.size ≤ gb189)); have n3_ := Aside0.mk ((by rw [hg]; exact (below_size (by repeat (first | (with_reducible first | exact HB.out | apply below_alloc | apply pw_below_drewN | apply below_drew1) | exact HB.out))) : w.heap.size ≤ gb189)); clear HB; have HB := n0_; have BK189 := n1_; have GW189 := n2_; have GE189 := n3_; clear n0_ n1_ n2_ n3_; clear hb hbox hg; have hcz4_0 : w3.cell? ⟨gb189, 0, none⟩ = some (.slice A0_0 l0_0.length c0_0) := (blk_cell BK189.out 0).trans rfl; have hfz4_0 := blk_frozen BK189.out 0)); go_upto_region 2 with (first | ((with_reducible refine gate_dst (N := 1) rfl ?_); refine box_event ?hg (N := 1) ?hd (cs := #[.slice A0_0 l0_0.length c0_0]) (t := 38) ?hr ?_; (case hd => rfl); (case hg => rfl); (case hr => first | (go_simp; done) | (go_simp; rfl)); intro gb189 hg w3 hbox hb; have n0_ := Aside0.mk (below_step (by repeat (first | (with_reducible first | exact HB.out | apply below_alloc | apply pw_below_drewN | apply below_drew1) | exact HB.out)) hb); have n1_ := Aside0.mk (hbox); have n2_ := Aside0.mk ((by rw [hg]; exact (below_size (by repeat (first | (with_reducible first | exact HB.out | apply below_alloc | apply pw_below_drewN | apply below_drew1) | exact HB.out))) : w.heap.size ≤ gb189)); have n3_ := Aside0.mk ((by rw [hg]; exact (below_size (by repeat (first | (with_reducible first | exact HB.out | apply below_alloc | apply pw_below_drewN | apply below_drew1) | exact HB.out))) : w.heap.size ≤ gb189)); clear HB; have HB := n0_; have BK189 := n1_; have GW189 := n2_; have GE189 := n3_; clear n0_ n1_ n2_ n3_; clear hb hbox hg; have hcz4_0 : w3.cell? ⟨gb189, 0, none⟩ = some (.slice A0_0 l0_0.length c0_0) := (blk_cell BK189.out 0).trans rfl; have hfz4_0 := blk_frozen BK189.out 0)))
 (try simp only [Act.put, List.setIfInBounds_toArray, List.set_cons_zero, List.set_cons_succ])
 go_cut [17] (fun v17 wc => ∃ (kq : Nat) (x17_1 : Bool), v17 = .bool x17_1 ∧ Aside0 (mizmazeref10_Valid.j0 kq (l0_0.length : Int) x17_1 l0_0 = some r) ∧ Aside0 (kq ≤ k) ∧ Aside0 (wc.heap[gb189]? = some (.cells #[(.slice A0_0 l0_0.length c0_0)] 38 (0, 0))) ∧ Aside0 (Below w.heap.size w wc))
 case first =>
  have H := HC2.out
  clear HC2
  by_cases c5 : (l0_0.length : Int) < 1
  ·rw [if_pos c5] at H
   have c5b0 : decide ((l0_0.length : Int) < 1) = true := decide_eq_true c5
   have c5b1 : decide (l0_0.length < 1) = true := decide_eq_true (by omega)
   clear c5
   (first | rw [c5b0] | (simp only [i64_w, i32_w]; rw [c5b0]) | skip)
   have H' := Aside0.mk H
   clear H
   go_wp2
   repeat (go_quiet (fail); try go_wp2)
   go_meet
   case rel => exact ⟨_, (true), (by first | rfl | (simp; done) | (simp [*]; done)), H', ⟨by first | omega | exact Nat.le_refl _⟩, ⟨by (with_reducible repeat (first | refine blk_drewN ?_ _ | refine blk_drew ?_ | refine blk_alloc ?_ _)); exact BK189.out⟩, ⟨by repeat (first | (with_reducible first | exact HB.out | apply below_alloc | apply pw_below_drewN | apply below_drew1 | refine below_set ?_ GE189.out) | exact HB.out)⟩⟩
  ·rw [if_neg c5] at H
   have c5b0 : decide ((l0_0.length : Int) < 1) = false := decide_eq_false c5
   have c5b1 : decide (l0_0.length < 1) = false := decide_eq_false (by omega)
   clear c5
   (first | rw [c5b0] | (simp only [i64_w, i32_w]; rw [c5b0]) | skip)
   have H' := Aside0.mk H
   clear H
   go_wp2
   repeat (go_quiet (fail); try go_wp2)
   go_meet
   case rel => exact ⟨_, (decide ((l0_0.length : Int) > 60)), (by first | rfl | (simp; done) | (simp [*]; done)), H', ⟨by first | omega | exact Nat.le_refl _⟩, ⟨by (with_reducible repeat (first | refine blk_drewN ?_ _ | refine blk_drew ?_ | refine blk_alloc ?_ _)); exact BK189.out⟩, ⟨by repeat (first | (with_reducible first | exact HB.out | apply below_alloc | apply pw_below_drewN | apply below_drew1 | refine below_set ?_ GE189.out) | exact HB.out)⟩⟩
 case rest =>
  clear HC2
  try clear c2
  try clear p2
  try clear c5
  try clear c5b0
  try clear c5b1
  try clear hcz4_0
  try clear hfz4_0
  obtain ⟨kq, x17_1, rfl, HA, HJ1, BK189, HB⟩ := hcut
  cases kq with
  | zero => exact absurd HA.out (by simp [mizmazeref10_Valid.j0])
  | succ kj1 =>
   have H := HA.out
   clear HA
   simp only [mizmazeref10_Valid.j0] at H
   by_cases c6 : x17_1 = true
   ·subst c6
    have H1 : (some false) = some r := by rw [if_pos rfl] at H; exact H
    clear H
    have H := H1
    clear H1
    obtain rfl := Option.some.inj H
    go_wp2
    repeat (go_quiet (fail); try go_wp2)
    go_ret
    exact ⟨by first | rfl | (simp [errW_none, errW_some] <;> rfl) | (simp [*, errW_none, errW_some] <;> rfl), by repeat (first | (with_reducible first | exact HB.out | apply below_alloc | apply pw_below_drewN | apply below_drew1 | refine below_set ?_ GE189.out) | exact HB.out)⟩
   ·replace c6 := Bool.eq_false_iff.mpr c6
    subst c6
    have H1 : (if 0 < (l0_0.length : Int) then (if ((rd_L4 l0_0 0).length : Int) < 1 then (mizmazeref10_Valid.j1 kj1 (l0_0.length : Int) ((rd_L4 l0_0 0).length : Int) true l0_0) else (mizmazeref10_Valid.j1 kj1 (l0_0.length : Int) ((rd_L4 l0_0 0).length : Int) (decide (((rd_L4 l0_0 0).length : Int) > 6)) l0_0)) else (none)) = some r := by rw [if_neg (show ¬ (false = true) by decide)] at H; exact H
    clear H
    have H := H1
    clear H1
    by_cases c7 : 0 < (l0_0.length : Int)
    ·rw [if_pos c7] at H
     have c7b0 : decide (0 < (l0_0.length : Int)) = true := decide_eq_true c7
     have c7b1 : decide (0 < l0_0.length) = true := decide_eq_true (by omega)
     clear c7
     have HC8 := Aside0.mk H
     clear H
     have hcz9_0 : wc.cell? ⟨gb189, 0, none⟩ = some (.slice A0_0 l0_0.length c0_0) := (blk_cell BK189.out 0).trans rfl
     have hfz9_0 := blk_frozen BK189.out 0
     have p190 : 0 ≤ (0 : Int) := (by omega)
     have q190 : 0 < (l0_0.length : Int) := of_decide_eq_true (by first | (with_reducible assumption) | assumption)
     obtain ⟨ad190, A190_0, c190_0, e190, hx190_0, hl190_0, hi190_0⟩ := at_L4 HR0_0.out 0 p190 q190
     cases e190
     have qi190 : (0 < l0_0.length) = True := eq_true (by omega)
     (try rw [show ((0 : Int)).toNat = 0 from rfl] at hx190_0)
     (try rw [Addr.add_zero'] at hx190_0)
     replace hx190_0 := (HB.out.cell (World.block_lt_of_cell? w _ hx190_0)).trans hx190_0
     have HR190_0 := Aside0.mk hi190_0
     have HC190_0 := Aside0.mk hl190_0
     clear hi190_0 hl190_0
     replace p190 := eq_true p190
     replace q190 := eq_true q190
     go_upto_region 5 with (fail)
     repeat (go_quiet (fail); go_upto_region 5 with (fail))
     go_cut [28] (fun v28 wc => ∃ (kq : Nat) (x28_7 : Bool), v28 = .bool x28_7 ∧ Aside0 (mizmazeref10_Valid.j1 kq (l0_0.length : Int) ((rd_L4 l0_0 0).length : Int) x28_7 l0_0 = some r) ∧ Aside0 (kq ≤ kj1) ∧ Aside0 (wc.heap[gb189]? = some (.cells #[(.slice (some ad190) l0_0.length c0_0)] 38 (0, 0))) ∧ Aside0 (Below w.heap.size w wc))
     case first =>
      have H := HC8.out
      clear HC8
      by_cases c10 : ((rd_L4 l0_0 0).length : Int) < 1
      ·rw [if_pos c10] at H
       have c10b0 : decide (((rd_L4 l0_0 0).length : Int) < 1) = true := decide_eq_true c10
       have c10b1 : decide ((rd_L4 l0_0 0).length < 1) = true := decide_eq_true (by omega)
       clear c10
       (first | rw [c10b0] | (simp only [i64_w, i32_w]; rw [c10b0]) | skip)
       have H' := Aside0.mk H
       clear H
       go_wp2
       repeat (go_quiet (fail); try go_wp2)
       go_meet
       case rel => exact ⟨_, (true), (by first | rfl | (simp; done) | (simp [*]; done)), H', ⟨by have := HJ1.out; first | omega | exact Nat.le_refl _⟩, ⟨by (with_reducible repeat (first | refine blk_drewN ?_ _ | refine blk_drew ?_ | refine blk_alloc ?_ _)); exact BK189.out⟩, ⟨by repeat (first | (with_reducible first | exact HB.out | apply below_alloc | apply pw_below_drewN | apply below_drew1 | refine below_set ?_ GE189.out) | exact HB.out)⟩⟩
      ·rw [if_neg c10] at H
       have c10b0 : decide (((rd_L4 l0_0 0).length : Int) < 1) = false := decide_eq_false c10
       have c10b1 : decide ((rd_L4 l0_0 0).length < 1) = false := decide_eq_false (by omega)
       clear c10
       (first | rw [c10b0] | (simp only [i64_w, i32_w]; rw [c10b0]) | skip)
       have H' := Aside0.mk H
       clear H
       go_wp2
       repeat (go_quiet (fail); try go_wp2)
       go_meet
       case rel => exact ⟨_, (decide (((rd_L4 l0_0 0).length : Int) > 6)), (by first | rfl | (simp; done) | (simp [*]; done)), H', ⟨by have := HJ1.out; first | omega | exact Nat.le_refl _⟩, ⟨by (with_reducible repeat (first | refine blk_drewN ?_ _ | refine blk_drew ?_ | refine blk_alloc ?_ _)); exact BK189.out⟩, ⟨by repeat (first | (with_reducible first | exact HB.out | apply below_alloc | apply pw_below_drewN | apply below_drew1 | refine below_set ?_ GE189.out) | exact HB.out)⟩⟩
     case rest =>
      clear HC8
      try clear c1
      try clear p1
      try clear q1
      try clear hx1
      try clear qi1
      try clear c2
      try clear p2
      try clear c5
      try clear c5b0
      try clear c5b1
      try clear c6
      try clear c7
      try clear c7b0
      try clear c7b1
      try clear c10
      try clear c10b0
      try clear c10b1
      try clear hcz4_0
      try clear hcz9_0
      try clear hfz4_0
      try clear hfz9_0
      try clear hx190_0
      try clear p190
      try clear p2
      try clear q190
      obtain ⟨kq, x28_7, rfl, HA, HJ7, BK189, HB⟩ := hcut
      cases kq with
      | zero => exact absurd HA.out (by simp [mizmazeref10_Valid.j1])
      | succ kj7 =>
       have H := HA.out
       clear HA
       simp only [mizmazeref10_Valid.j1] at H
       by_cases c11 : x28_7 = true
       ·subst c11
        have H1 : (some false) = some r := by rw [if_pos rfl] at H; exact H
        clear H
        have H := H1
        clear H1
        obtain rfl := Option.some.inj H
        go_wp2
        repeat (go_quiet (fail); try go_wp2)
        go_ret
        exact ⟨by first | rfl | (simp [errW_none, errW_some] <;> rfl) | (simp [*, errW_none, errW_some] <;> rfl), by repeat (first | (with_reducible first | exact HB.out | apply below_alloc | apply pw_below_drewN | apply below_drew1 | refine below_set ?_ GE189.out) | exact HB.out)⟩
       ·replace c11 := Bool.eq_false_iff.mpr c11
        subst c11
        have H1 : (mizmazeref10_Valid.l0 kj7 (l0_0.length : Int) ((rd_L4 l0_0 0).length : Int) 0 l0_0) = some r := by rw [if_neg (show ¬ (false = true) by decide)] at H; exact H
        clear H
        have H := H1
        clear H1
        have H' := Aside0.mk H
        clear H
        go_wp2
        repeat (go_quiet (fail); try go_wp2)
        go_loopg [5] kj7 (fun kq v5 w' => ∃ (x5_3 : Int), v5 = .int .i64 x5_3 ∧ Aside0 (mizmazeref10_Valid.l0 kq (l0_0.length : Int) ((rd_L4 l0_0 0).length : Int) x5_3 l0_0 = some r) ∧ Aside0 (kq ≤ kj7) ∧ Aside0 (w'.heap[gb189]? = some (.cells #[(.slice (some ad190) l0_0.length c0_0)] 38 (0, 0))) ∧ Aside0 (Below w.heap.size w w'))
        case atStart => exact ⟨(0), (by first | rfl | (simp; done) | (simp [*]; done)), H', ⟨Nat.le_refl _⟩, ⟨by (with_reducible repeat (first | refine blk_drewN ?_ _ | refine blk_drew ?_ | refine blk_alloc ?_ _)); exact BK189.out⟩, ⟨by repeat (first | (with_reducible first | exact HB.out | apply below_alloc | apply pw_below_drewN | apply below_drew1 | refine below_set ?_ GE189.out) | exact HB.out)⟩⟩
        case round =>
         clear H'
         try clear c1
         try clear p1
         try clear q1
         try clear hx1
         try clear qi1
         try clear c2
         try clear p2
         try clear c5
         try clear c5b0
         try clear c5b1
         try clear c6
         try clear c7
         try clear c7b0
         try clear c7b1
         try clear c10
         try clear c10b0
         try clear c10b1
         try clear c11
         try clear hcz4_0
         try clear hcz9_0
         try clear hfz4_0
         try clear hfz9_0
         try clear hx190_0
         try clear p1
         try clear p190
         try clear p2
         try clear q1
         try clear q190
         obtain ⟨x5_3, rfl, HA, HK3, BK189, HB⟩ := hrel
         cases gk with
         | zero => exact absurd HA.out (by simp [mizmazeref10_Valid.l0])
         | succ k3 =>
          have H := HA.out
          clear HA
          simp only [mizmazeref10_Valid.l0] at H
          by_cases c12 : x5_3 < (l0_0.length : Int)
          ·rw [if_pos c12] at H
           have c12b0 : decide (x5_3 < (l0_0.length : Int)) = true := decide_eq_true c12
           clear c12
           by_cases c13 : 0 ≤ x5_3
           ·rw [if_pos c13] at H
            have c13b0 : decide (0 ≤ x5_3) = true := decide_eq_true c13
            clear c13
            by_cases c14 : x5_3 < (l0_0.length : Int)
            ·rw [if_pos c14] at H
             have c14b0 : decide (x5_3 < (l0_0.length : Int)) = true := decide_eq_true c14
             clear c14
             by_cases c15 : ((rd_L4 l0_0 x5_3).length : Int) = ((rd_L4 l0_0 0).length : Int)
             ·rw [if_pos c15] at H
              have c15b0 : (((rd_L4 l0_0 x5_3).length : Int) == ((rd_L4 l0_0 0).length : Int)) = true := beq_iff_eq.mpr c15
              have c15b1 : (((rd_L4 l0_0 x5_3).length : Int) != ((rd_L4 l0_0 0).length : Int)) = false := bne_eq_false_iff_eq.mpr c15
              have c15b2 : ((rd_L4 l0_0 x5_3).length == (rd_L4 l0_0 0).length) = true := by first | simpa using c15 | (simp at c15 ⊢; omega)
              clear c15
              have H' := Aside0.mk H
              clear H
              have hcz16_0 : wr.cell? ⟨gb189, 0, none⟩ = some (.slice (some ad190) l0_0.length c0_0) := (blk_cell BK189.out 0).trans rfl
              have hfz16_0 := blk_frozen BK189.out 0
              have p191 : 0 ≤ (x5_3 : Int) := of_decide_eq_true (by first | (with_reducible assumption) | assumption)
              have q191 : x5_3 < (l0_0.length : Int) := of_decide_eq_true (by first | (with_reducible assumption) | assumption)
              obtain ⟨ad191, A191_0, c191_0, e191, hx191_0, hl191_0, hi191_0⟩ := at_L4 HR0_0.out x5_3 p191 q191
              obtain rfl : ad190 = ad191 := (by injection e191)
              replace hx191_0 := (HB.out.cell (World.block_lt_of_cell? w _ hx191_0)).trans hx191_0
              have HR191_0 := Aside0.mk hi191_0
              have HC191_0 := Aside0.mk hl191_0
              clear hi191_0 hl191_0
              replace p191 := eq_true p191
              replace q191 := eq_true q191
              go_wp2
              repeat (go_quiet (fail); try go_wp2)
              go_roundg k3
              case measure => have := HJ1.out; have := HJ7.out; have := HK3.out; omega
              case rel => exact ⟨(wrap64 (x5_3 + 1)), (by first | rfl | (simp; done) | (simp [*]; done)), H', ⟨by have := HJ1.out; have := HJ7.out; have := HK3.out; omega⟩, ⟨by (with_reducible repeat (first | refine blk_drewN ?_ _ | refine blk_drew ?_ | refine blk_alloc ?_ _)); exact BK189.out⟩, ⟨by repeat (first | (with_reducible first | exact HB.out | apply below_alloc | apply pw_below_drewN | apply below_drew1 | refine below_set ?_ GE189.out) | exact HB.out)⟩⟩
             ·rw [if_neg c15] at H
              have c15b0 : (((rd_L4 l0_0 x5_3).length : Int) == ((rd_L4 l0_0 0).length : Int)) = false := beq_eq_false_iff_ne.mpr c15
              have c15b1 : (((rd_L4 l0_0 x5_3).length : Int) != ((rd_L4 l0_0 0).length : Int)) = true := bne_iff_ne.mpr c15
              have c15b2 : ((rd_L4 l0_0 x5_3).length == (rd_L4 l0_0 0).length) = false := by first | simpa using c15 | (simp at c15 ⊢; omega)
              obtain rfl := Option.some.inj H
              have hcz17_0 : wr.cell? ⟨gb189, 0, none⟩ = some (.slice (some ad190) l0_0.length c0_0) := (blk_cell BK189.out 0).trans rfl
              have hfz17_0 := blk_frozen BK189.out 0
              have p191 : 0 ≤ (x5_3 : Int) := of_decide_eq_true (by first | (with_reducible assumption) | assumption)
              have q191 : x5_3 < (l0_0.length : Int) := of_decide_eq_true (by first | (with_reducible assumption) | assumption)
              obtain ⟨ad191, A191_0, c191_0, e191, hx191_0, hl191_0, hi191_0⟩ := at_L4 HR0_0.out x5_3 p191 q191
              obtain rfl : ad190 = ad191 := (by injection e191)
              replace hx191_0 := (HB.out.cell (World.block_lt_of_cell? w _ hx191_0)).trans hx191_0
              have HR191_0 := Aside0.mk hi191_0
              have HC191_0 := Aside0.mk hl191_0
              clear hi191_0 hl191_0
              replace p191 := eq_true p191
              replace q191 := eq_true q191
              go_wp2
              repeat (go_quiet (fail); try go_wp2)
              go_ret
              exact ⟨by first | rfl | (simp [errW_none, errW_some] <;> rfl) | (simp [*, errW_none, errW_some] <;> rfl), by repeat (first | (with_reducible first | exact HB.out | apply below_alloc | apply pw_below_drewN | apply below_drew1 | refine below_set ?_ GE189.out) | exact HB.out)⟩
            ·rw [if_neg c14] at H
             exact absurd H (by simp)
           ·rw [if_neg c13] at H
            exact absurd H (by simp)
          ·rw [if_neg c12] at H
           have c12b0 : decide (x5_3 < (l0_0.length : Int)) = false := decide_eq_false c12
           clear c12
           have H' := Aside0.mk H
           clear H
           go_wp2
           repeat (go_quiet (fail); try go_wp2)
           go_loopg [6] k3 (fun kq v6 w' => ∃ (x6_4 : Int), v6 = .int .i64 x6_4 ∧ Aside0 (mizmazeref10_Valid.l1 kq (l0_0.length : Int) ((rd_L4 l0_0 0).length : Int) x6_4 l0_0 = some r) ∧ Aside0 (kq ≤ k3) ∧ Aside0 (w'.heap[gb189]? = some (.cells #[(.slice (some ad190) l0_0.length c0_0)] 38 (0, 0))) ∧ Aside0 (Below w.heap.size w w'))
           case atStart => exact ⟨(0), (by first | rfl | (simp; done) | (simp [*]; done)), H', ⟨Nat.le_refl _⟩, ⟨by (with_reducible repeat (first | refine blk_drewN ?_ _ | refine blk_drew ?_ | refine blk_alloc ?_ _)); exact BK189.out⟩, ⟨by repeat (first | (with_reducible first | exact HB.out | apply below_alloc | apply pw_below_drewN | apply below_drew1 | refine below_set ?_ GE189.out) | exact HB.out)⟩⟩
           case round =>
            clear H'
            try clear c1
            try clear p1
            try clear q1
            try clear hx1
            try clear qi1
            try clear c2
            try clear p2
            try clear c5
            try clear c5b0
            try clear c5b1
            try clear c6
            try clear p6
            try clear c7
            try clear c7b0
            try clear c7b1
            try clear c10
            try clear c10b0
            try clear c10b1
            try clear c11
            try clear c12
            try clear c12b0
            try clear c13
            try clear c13b0
            try clear c14
            try clear c14b0
            try clear c15
            try clear c15b0
            try clear c15b1
            try clear c15b2
            try clear hcz16_0
            try clear hcz17_0
            try clear hcz4_0
            try clear hcz9_0
            try clear hfz16_0
            try clear hfz17_0
            try clear hfz4_0
            try clear hfz9_0
            try clear hx190_0
            try clear hx191_0
            try clear p1
            try clear p190
            try clear p191
            try clear p2
            try clear q1
            try clear q190
            try clear q191
            obtain ⟨x6_4, rfl, HA, HK4, BK189, HB⟩ := hrel
            cases gk with
            | zero => exact absurd HA.out (by simp [mizmazeref10_Valid.l1])
            | succ k4 =>
             have H := HA.out
             clear HA
             simp only [mizmazeref10_Valid.l1] at H
             by_cases c18 : x6_4 < (l0_0.length : Int)
             ·rw [if_pos c18] at H
              have c18b0 : decide (x6_4 < (l0_0.length : Int)) = true := decide_eq_true c18
              clear c18
              have H' := Aside0.mk H
              clear H
              go_wp2
              repeat (go_quiet (fail); try go_wp2)
              go_loopg [7] k4 (fun kq v7 w' => ∃ (x7_5 : Int), v7 = .int .i64 x7_5 ∧ Aside0 (mizmazeref10_Valid.l2 kq (l0_0.length : Int) ((rd_L4 l0_0 0).length : Int) x6_4 x7_5 l0_0 = some r) ∧ Aside0 (kq ≤ k4) ∧ Aside0 (w'.heap[gb189]? = some (.cells #[(.slice (some ad190) l0_0.length c0_0)] 38 (0, 0))) ∧ Aside0 (Below w.heap.size w w'))
              case atStart => exact ⟨(0), (by first | rfl | (simp; done) | (simp [*]; done)), H', ⟨Nat.le_refl _⟩, ⟨by (with_reducible repeat (first | refine blk_drewN ?_ _ | refine blk_drew ?_ | refine blk_alloc ?_ _)); exact BK189.out⟩, ⟨by repeat (first | (with_reducible first | exact HB.out | apply below_alloc | apply pw_below_drewN | apply below_drew1 | refine below_set ?_ GE189.out) | exact HB.out)⟩⟩
              case round =>
               clear H'
               try clear c1
               try clear p1
               try clear q1
               try clear hx1
               try clear qi1
               try clear c2
               try clear p2
               try clear c5
               try clear c5b0
               try clear c5b1
               try clear c6
               try clear p6
               try clear c7
               try clear c7b0
               try clear c7b1
               try clear c10
               try clear c10b0
               try clear c10b1
               try clear c11
               try clear c12
               try clear c12b0
               try clear c13
               try clear c13b0
               try clear c14
               try clear c14b0
               try clear c15
               try clear c15b0
               try clear c15b1
               try clear c15b2
               try clear c18
               try clear c18b0
               try clear hcz16_0
               try clear hcz17_0
               try clear hcz4_0
               try clear hcz9_0
               try clear hfz16_0
               try clear hfz17_0
               try clear hfz4_0
               try clear hfz9_0
               try clear hx190_0
               try clear hx191_0
               try clear p1
               try clear p190
               try clear p191
               try clear p2
               try clear p6
               try clear q1
               try clear q190
               try clear q191
               obtain ⟨x7_5, rfl, HA, HK5, BK189, HB⟩ := hrel
               cases gk with
               | zero => exact absurd HA.out (by simp [mizmazeref10_Valid.l2])
               | succ k5 =>
                have H := HA.out
                clear HA
                simp only [mizmazeref10_Valid.l2] at H
                by_cases c19 : x7_5 < ((rd_L4 l0_0 0).length : Int)
                ·rw [if_pos c19] at H
                 have c19b0 : decide (x7_5 < ((rd_L4 l0_0 0).length : Int)) = true := decide_eq_true c19
                 clear c19
                 by_cases c20 : 0 ≤ x6_4
                 ·rw [if_pos c20] at H
                  have c20b0 : decide (0 ≤ x6_4) = true := decide_eq_true c20
                  clear c20
                  by_cases c21 : x6_4 < (l0_0.length : Int)
                  ·rw [if_pos c21] at H
                   have c21b0 : decide (x6_4 < (l0_0.length : Int)) = true := decide_eq_true c21
                   clear c21
                   by_cases c22 : 0 ≤ x7_5
                   ·rw [if_pos c22] at H
                    have c22b0 : decide (0 ≤ x7_5) = true := decide_eq_true c22
                    clear c22
                    by_cases c23 : x7_5 < ((rd_L4 l0_0 x6_4).length : Int)
                    ·rw [if_pos c23] at H
                     have c23b0 : decide (x7_5 < ((rd_L4 l0_0 x6_4).length : Int)) = true := decide_eq_true c23
                     clear c23
                     by_cases c24 : ((rd_T44 (rd_L4 l0_0 x6_4) x7_5).f0) < 0
                     ·rw [if_pos c24] at H
                      have c24b0 : decide (((rd_T44 (rd_L4 l0_0 x6_4) x7_5).f0) < 0) = true := decide_eq_true c24
                      clear c24
                      obtain rfl := Option.some.inj H
                      have hcz25_0 : wr.cell? ⟨gb189, 0, none⟩ = some (.slice (some ad190) l0_0.length c0_0) := (blk_cell BK189.out 0).trans rfl
                      have hfz25_0 := blk_frozen BK189.out 0
                      have p192 : 0 ≤ (x6_4 : Int) := of_decide_eq_true (by first | (with_reducible assumption) | assumption)
                      have q192 : x6_4 < (l0_0.length : Int) := of_decide_eq_true (by first | (with_reducible assumption) | assumption)
                      obtain ⟨ad192, A192_0, c192_0, e192, hx192_0, hl192_0, hi192_0⟩ := at_L4 HR0_0.out x6_4 p192 q192
                      obtain rfl : ad190 = ad192 := (by injection e192)
                      replace hx192_0 := (HB.out.cell (World.block_lt_of_cell? w _ hx192_0)).trans hx192_0
                      have HR192_0 := Aside0.mk hi192_0
                      have HC192_0 := Aside0.mk hl192_0
                      clear hi192_0 hl192_0
                      replace p192 := eq_true p192
                      replace q192 := eq_true q192
                      have p193 : 0 ≤ (x7_5 : Int) := of_decide_eq_true (by first | (with_reducible assumption) | assumption)
                      have q193 : x7_5 < ((rd_L4 l0_0 x6_4).length : Int) := of_decide_eq_true (by first | (with_reducible assumption) | assumption)
                      obtain ⟨ad193, e193, hx193_0, hx193_1⟩ := at_T44 HR192_0.out x7_5 p193 q193
                      cases e193
                      replace hx193_0 := (HB.out.cell (World.block_lt_of_cell? w _ hx193_0)).trans hx193_0
                      replace hx193_1 := (HB.out.cell (World.block_lt_of_cell? w _ hx193_1)).trans hx193_1
                      replace p193 := eq_true p193
                      replace q193 := eq_true q193
                      go_wp2_with (first | ((with_reducible refine gate_dst (N := 8) rfl ?_); refine box_event ?hg (N := 8) ?hd (cs := #[.int .i64 0, .int .i64 0]) (t := 44) ?hr ?_; (case hd => rfl); (case hg => rfl); (case hr => first | (go_simp; done) | (go_simp; rfl)); intro gb194 hg w26 hbox hb; have n0_ := Aside0.mk (blk_below (g := gb189) (o := .cells #[.slice (some ad190) l0_0.length c0_0] 38 (0, 0)) (by (with_reducible repeat (first | refine blk_drewN ?_ _ | refine blk_drew ?_ | refine blk_alloc ?_ _)); exact BK189.out) hb); have n1_ := Aside0.mk (below_step (by repeat (first | (with_reducible first | exact HB.out | apply below_alloc | apply pw_below_drewN | apply below_drew1 | refine below_set ?_ GE189.out) | exact HB.out)) hb); have n2_ := Aside0.mk (hbox); have n3_ := Aside0.mk ((by rw [hg]; exact (below_size (by repeat (first | (with_reducible first | exact HB.out | apply below_alloc | apply pw_below_drewN | apply below_drew1 | refine below_set ?_ GE189.out) | exact HB.out))) : w.heap.size ≤ gb194)); have n4_ := Aside0.mk ((by rw [hg]; exact (below_size (by repeat (first | (with_reducible first | exact HB.out | apply below_alloc | apply pw_below_drewN | apply below_drew1 | refine below_set ?_ GE189.out) | exact HB.out))) : w.heap.size ≤ gb194)); have n5_ := Aside0.mk ((by rw [hg]; exact Nat.ne_of_lt (blk_lt (g := gb189) (o := .cells #[.slice (some ad190) l0_0.length c0_0] 38 (0, 0)) (by (with_reducible repeat (first | refine blk_drewN ?_ _ | refine blk_drew ?_ | refine blk_alloc ?_ _)); exact BK189.out)) : gb189 ≠ gb194)); have n6_ := Aside0.mk ((by rw [hg]; exact Nat.ne_of_gt (blk_lt (g := gb189) (o := .cells #[.slice (some ad190) l0_0.length c0_0] 38 (0, 0)) (by (with_reducible repeat (first | refine blk_drewN ?_ _ | refine blk_drew ?_ | refine blk_alloc ?_ _)); exact BK189.out)) : gb194 ≠ gb189)); clear BK189; clear HB; have BK189 := n0_; have HB := n1_; have BK194 := n2_; have GW194 := n3_; have GE194 := n4_; have NB189_194 := n5_; have NB194_189 := n6_; clear n0_ n1_ n2_ n3_ n4_ n5_ n6_; clear hb hbox hg; have hnb27 := NB194_189.out; have hnc27 := NB189_194.out; have hcz28_0 : w26.cell? ⟨gb194, 0, none⟩ = some (.int .i64 0) := (blk_cell BK194.out 0).trans rfl; have hcz28_1 : w26.cell? ⟨gb194, 1, none⟩ = some (.int .i64 0) := (blk_cell BK194.out 1).trans rfl; have hfz28_0 := blk_frozen BK194.out 0; have hfz28_1 := blk_frozen BK194.out 1))
                      repeat (go_quiet (first | ((with_reducible refine gate_dst (N := 8) rfl ?_); refine box_event ?hg (N := 8) ?hd (cs := #[.int .i64 0, .int .i64 0]) (t := 44) ?hr ?_; (case hd => rfl); (case hg => rfl); (case hr => first | (go_simp; done) | (go_simp; rfl)); intro gb194 hg w26 hbox hb; have n0_ := Aside0.mk (blk_below (g := gb189) (o := .cells #[.slice (some ad190) l0_0.length c0_0] 38 (0, 0)) (by (with_reducible repeat (first | refine blk_drewN ?_ _ | refine blk_drew ?_ | refine blk_alloc ?_ _)); exact BK189.out) hb); have n1_ := Aside0.mk (below_step (by repeat (first | (with_reducible first | exact HB.out | apply below_alloc | apply pw_below_drewN | apply below_drew1 | refine below_set ?_ GE189.out) | exact HB.out)) hb); have n2_ := Aside0.mk (hbox); have n3_ := Aside0.mk ((by rw [hg]; exact (below_size (by repeat (first | (with_reducible first | exact HB.out | apply below_alloc | apply pw_below_drewN | apply below_drew1 | refine below_set ?_ GE189.out) | exact HB.out))) : w.heap.size ≤ gb194)); have n4_ := Aside0.mk ((by rw [hg]; exact (below_size (by repeat (first | (with_reducible first | exact HB.out | apply below_alloc | apply pw_below_drewN | apply below_drew1 | refine below_set ?_ GE189.out) | exact HB.out))) : w.heap.size ≤ gb194)); have n5_ := Aside0.mk ((by rw [hg]; exact Nat.ne_of_lt (blk_lt (g := gb189) (o := .cells #[.slice (some ad190) l0_0.length c0_0] 38 (0, 0)) (by (with_reducible repeat (first | refine blk_drewN ?_ _ | refine blk_drew ?_ | refine blk_alloc ?_ _)); exact BK189.out)) : gb189 ≠ gb194)); have n6_ := Aside0.mk ((by rw [hg]; exact Nat.ne_of_gt (blk_lt (g := gb189) (o := .cells #[.slice (some ad190) l0_0.length c0_0] 38 (0, 0)) (by (with_reducible repeat (first | refine blk_drewN ?_ _ | refine blk_drew ?_ | refine blk_alloc ?_ _)); exact BK189.out)) : gb194 ≠ gb189)); clear BK189; clear HB; have BK189 := n0_; have HB := n1_; have BK194 := n2_; have GW194 := n3_; have GE194 := n4_; have NB189_194 := n5_; have NB194_189 := n6_; clear n0_ n1_ n2_ n3_ n4_ n5_ n6_; clear hb hbox hg; have hnb27 := NB194_189.out; have hnc27 := NB189_194.out; have hcz28_0 : w26.cell? ⟨gb194, 0, none⟩ = some (.int .i64 0) := (blk_cell BK194.out 0).trans rfl; have hcz28_1 : w26.cell? ⟨gb194, 1, none⟩ = some (.int .i64 0) := (blk_cell BK194.out 1).trans rfl; have hfz28_0 := blk_frozen BK194.out 0; have hfz28_1 := blk_frozen BK194.out 1)); try go_wp2_with (first | ((with_reducible refine gate_dst (N := 8) rfl ?_); refine box_event ?hg (N := 8) ?hd (cs := #[.int .i64 0, .int .i64 0]) (t := 44) ?hr ?_; (case hd => rfl); (case hg => rfl); (case hr => first | (go_simp; done) | (go_simp; rfl)); intro gb194 hg w26 hbox hb; have n0_ := Aside0.mk (blk_below (g := gb189) (o := .cells #[.slice (some ad190) l0_0.length c0_0] 38 (0, 0)) (by (with_reducible repeat (first | refine blk_drewN ?_ _ | refine blk_drew ?_ | refine blk_alloc ?_ _)); exact BK189.out) hb); have n1_ := Aside0.mk (below_step (by repeat (first | (with_reducible first | exact HB.out | apply below_alloc | apply pw_below_drewN | apply below_drew1 | refine below_set ?_ GE189.out) | exact HB.out)) hb); have n2_ := Aside0.mk (hbox); have n3_ := Aside0.mk ((by rw [hg]; exact (below_size (by repeat (first | (with_reducible first | exact HB.out | apply below_alloc | apply pw_below_drewN | apply below_drew1 | refine below_set ?_ GE189.out) | exact HB.out))) : w.heap.size ≤ gb194)); have n4_ := Aside0.mk ((by rw [hg]; exact (below_size (by repeat (first | (with_reducible first | exact HB.out | apply below_alloc | apply pw_below_drewN | apply below_drew1 | refine below_set ?_ GE189.out) | exact HB.out))) : w.heap.size ≤ gb194)); have n5_ := Aside0.mk ((by rw [hg]; exact Nat.ne_of_lt (blk_lt (g := gb189) (o := .cells #[.slice (some ad190) l0_0.length c0_0] 38 (0, 0)) (by (with_reducible repeat (first | refine blk_drewN ?_ _ | refine blk_drew ?_ | refine blk_alloc ?_ _)); exact BK189.out)) : gb189 ≠ gb194)); have n6_ := Aside0.mk ((by rw [hg]; exact Nat.ne_of_gt (blk_lt (g := gb189) (o := .cells #[.slice (some ad190) l0_0.length c0_0] 38 (0, 0)) (by (with_reducible repeat (first | refine blk_drewN ?_ _ | refine blk_drew ?_ | refine blk_alloc ?_ _)); exact BK189.out)) : gb194 ≠ gb189)); clear BK189; clear HB; have BK189 := n0_; have HB := n1_; have BK194 := n2_; have GW194 := n3_; have GE194 := n4_; have NB189_194 := n5_; have NB194_189 := n6_; clear n0_ n1_ n2_ n3_ n4_ n5_ n6_; clear hb hbox hg; have hnb27 := NB194_189.out; have hnc27 := NB189_194.out; have hcz28_0 : w26.cell? ⟨gb194, 0, none⟩ = some (.int .i64 0) := (blk_cell BK194.out 0).trans rfl; have hcz28_1 : w26.cell? ⟨gb194, 1, none⟩ = some (.int .i64 0) := (blk_cell BK194.out 1).trans rfl; have hfz28_0 := blk_frozen BK194.out 0; have hfz28_1 := blk_frozen BK194.out 1)))
                      go_ret
                      exact ⟨by first | rfl | (simp [errW_none, errW_some] <;> rfl) | (simp [*, errW_none, errW_some] <;> rfl), by repeat (first | (with_reducible first | exact HB.out | apply below_alloc | apply pw_below_drewN | apply below_drew1 | refine below_set ?_ GE189.out | refine below_set ?_ GE194.out) | exact HB.out)⟩
                     ·rw [if_neg c24] at H
                      have c24b0 : decide (((rd_T44 (rd_L4 l0_0 x6_4) x7_5).f0) < 0) = false := decide_eq_false c24
                      clear c24
                      by_cases c29 : ((rd_T44 (rd_L4 l0_0 x6_4) x7_5).f0) ≥ (l0_0.length : Int)
                      ·rw [if_pos c29] at H
                       have c29b0 : decide ((l0_0.length : Int) ≤ ((rd_T44 (rd_L4 l0_0 x6_4) x7_5).f0)) = true := decide_eq_true c29
                       clear c29
                       obtain rfl := Option.some.inj H
                       have hcz30_0 : wr.cell? ⟨gb189, 0, none⟩ = some (.slice (some ad190) l0_0.length c0_0) := (blk_cell BK189.out 0).trans rfl
                       have hfz30_0 := blk_frozen BK189.out 0
                       have p192 : 0 ≤ (x6_4 : Int) := of_decide_eq_true (by first | (with_reducible assumption) | assumption)
                       have q192 : x6_4 < (l0_0.length : Int) := of_decide_eq_true (by first | (with_reducible assumption) | assumption)
                       obtain ⟨ad192, A192_0, c192_0, e192, hx192_0, hl192_0, hi192_0⟩ := at_L4 HR0_0.out x6_4 p192 q192
                       obtain rfl : ad190 = ad192 := (by injection e192)
                       replace hx192_0 := (HB.out.cell (World.block_lt_of_cell? w _ hx192_0)).trans hx192_0
                       have HR192_0 := Aside0.mk hi192_0
                       have HC192_0 := Aside0.mk hl192_0
                       clear hi192_0 hl192_0
                       replace p192 := eq_true p192
                       replace q192 := eq_true q192
                       have p193 : 0 ≤ (x7_5 : Int) := of_decide_eq_true (by first | (with_reducible assumption) | assumption)
                       have q193 : x7_5 < ((rd_L4 l0_0 x6_4).length : Int) := of_decide_eq_true (by first | (with_reducible assumption) | assumption)
                       obtain ⟨ad193, e193, hx193_0, hx193_1⟩ := at_T44 HR192_0.out x7_5 p193 q193
                       cases e193
                       replace hx193_0 := (HB.out.cell (World.block_lt_of_cell? w _ hx193_0)).trans hx193_0
                       replace hx193_1 := (HB.out.cell (World.block_lt_of_cell? w _ hx193_1)).trans hx193_1
                       replace p193 := eq_true p193
                       replace q193 := eq_true q193
                       go_wp2_with (first | ((with_reducible refine gate_dst (N := 8) rfl ?_); refine box_event ?hg (N := 8) ?hd (cs := #[.int .i64 0, .int .i64 0]) (t := 44) ?hr ?_; (case hd => rfl); (case hg => rfl); (case hr => first | (go_simp; done) | (go_simp; rfl)); intro gb194 hg w31 hbox hb; have n0_ := Aside0.mk (blk_below (g := gb189) (o := .cells #[.slice (some ad190) l0_0.length c0_0] 38 (0, 0)) (by (with_reducible repeat (first | refine blk_drewN ?_ _ | refine blk_drew ?_ | refine blk_alloc ?_ _)); exact BK189.out) hb); have n1_ := Aside0.mk (below_step (by repeat (first | (with_reducible first | exact HB.out | apply below_alloc | apply pw_below_drewN | apply below_drew1 | refine below_set ?_ GE189.out) | exact HB.out)) hb); have n2_ := Aside0.mk (hbox); have n3_ := Aside0.mk ((by rw [hg]; exact (below_size (by repeat (first | (with_reducible first | exact HB.out | apply below_alloc | apply pw_below_drewN | apply below_drew1 | refine below_set ?_ GE189.out) | exact HB.out))) : w.heap.size ≤ gb194)); have n4_ := Aside0.mk ((by rw [hg]; exact (below_size (by repeat (first | (with_reducible first | exact HB.out | apply below_alloc | apply pw_below_drewN | apply below_drew1 | refine below_set ?_ GE189.out) | exact HB.out))) : w.heap.size ≤ gb194)); have n5_ := Aside0.mk ((by rw [hg]; exact Nat.ne_of_lt (blk_lt (g := gb189) (o := .cells #[.slice (some ad190) l0_0.length c0_0] 38 (0, 0)) (by (with_reducible repeat (first | refine blk_drewN ?_ _ | refine blk_drew ?_ | refine blk_alloc ?_ _)); exact BK189.out)) : gb189 ≠ gb194)); have n6_ := Aside0.mk ((by rw [hg]; exact Nat.ne_of_gt (blk_lt (g := gb189) (o := .cells #[.slice (some ad190) l0_0.length c0_0] 38 (0, 0)) (by (with_reducible repeat (first | refine blk_drewN ?_ _ | refine blk_drew ?_ | refine blk_alloc ?_ _)); exact BK189.out)) : gb194 ≠ gb189)); clear BK189; clear HB; have BK189 := n0_; have HB := n1_; have BK194 := n2_; have GW194 := n3_; have GE194 := n4_; have NB189_194 := n5_; have NB194_189 := n6_; clear n0_ n1_ n2_ n3_ n4_ n5_ n6_; clear hb hbox hg; have hnb32 := NB194_189.out; have hnc32 := NB189_194.out; have hcz33_0 : w31.cell? ⟨gb194, 0, none⟩ = some (.int .i64 0) := (blk_cell BK194.out 0).trans rfl; have hcz33_1 : w31.cell? ⟨gb194, 1, none⟩ = some (.int .i64 0) := (blk_cell BK194.out 1).trans rfl; have hfz33_0 := blk_frozen BK194.out 0; have hfz33_1 := blk_frozen BK194.out 1))
                       repeat (go_quiet (first | ((with_reducible refine gate_dst (N := 8) rfl ?_); refine box_event ?hg (N := 8) ?hd (cs := #[.int .i64 0, .int .i64 0]) (t := 44) ?hr ?_; (case hd => rfl); (case hg => rfl); (case hr => first | (go_simp; done) | (go_simp; rfl)); intro gb194 hg w31 hbox hb; have n0_ := Aside0.mk (blk_below (g := gb189) (o := .cells #[.slice (some ad190) l0_0.length c0_0] 38 (0, 0)) (by (with_reducible repeat (first | refine blk_drewN ?_ _ | refine blk_drew ?_ | refine blk_alloc ?_ _)); exact BK189.out) hb); have n1_ := Aside0.mk (below_step (by repeat (first | (with_reducible first | exact HB.out | apply below_alloc | apply pw_below_drewN | apply below_drew1 | refine below_set ?_ GE189.out) | exact HB.out)) hb); have n2_ := Aside0.mk (hbox); have n3_ := Aside0.mk ((by rw [hg]; exact (below_size (by repeat (first | (with_reducible first | exact HB.out | apply below_alloc | apply pw_below_drewN | apply below_drew1 | refine below_set ?_ GE189.out) | exact HB.out))) : w.heap.size ≤ gb194)); have n4_ := Aside0.mk ((by rw [hg]; exact (below_size (by repeat (first | (with_reducible first | exact HB.out | apply below_alloc | apply pw_below_drewN | apply below_drew1 | refine below_set ?_ GE189.out) | exact HB.out))) : w.heap.size ≤ gb194)); have n5_ := Aside0.mk ((by rw [hg]; exact Nat.ne_of_lt (blk_lt (g := gb189) (o := .cells #[.slice (some ad190) l0_0.length c0_0] 38 (0, 0)) (by (with_reducible repeat (first | refine blk_drewN ?_ _ | refine blk_drew ?_ | refine blk_alloc ?_ _)); exact BK189.out)) : gb189 ≠ gb194)); have n6_ := Aside0.mk ((by rw [hg]; exact Nat.ne_of_gt (blk_lt (g := gb189) (o := .cells #[.slice (some ad190) l0_0.length c0_0] 38 (0, 0)) (by (with_reducible repeat (first | refine blk_drewN ?_ _ | refine blk_drew ?_ | refine blk_alloc ?_ _)); exact BK189.out)) : gb194 ≠ gb189)); clear BK189; clear HB; have BK189 := n0_; have HB := n1_; have BK194 := n2_; have GW194 := n3_; have GE194 := n4_; have NB189_194 := n5_; have NB194_189 := n6_; clear n0_ n1_ n2_ n3_ n4_ n5_ n6_; clear hb hbox hg; have hnb32 := NB194_189.out; have hnc32 := NB189_194.out; have hcz33_0 : w31.cell? ⟨gb194, 0, none⟩ = some (.int .i64 0) := (blk_cell BK194.out 0).trans rfl; have hcz33_1 : w31.cell? ⟨gb194, 1, none⟩ = some (.int .i64 0) := (blk_cell BK194.out 1).trans rfl; have hfz33_0 := blk_frozen BK194.out 0; have hfz33_1 := blk_frozen BK194.out 1)); try go_wp2_with (first | ((with_reducible refine gate_dst (N := 8) rfl ?_); refine box_event ?hg (N := 8) ?hd (cs := #[.int .i64 0, .int .i64 0]) (t := 44) ?hr ?_; (case hd => rfl); (case hg => rfl); (case hr => first | (go_simp; done) | (go_simp; rfl)); intro gb194 hg w31 hbox hb; have n0_ := Aside0.mk (blk_below (g := gb189) (o := .cells #[.slice (some ad190) l0_0.length c0_0] 38 (0, 0)) (by (with_reducible repeat (first | refine blk_drewN ?_ _ | refine blk_drew ?_ | refine blk_alloc ?_ _)); exact BK189.out) hb); have n1_ := Aside0.mk (below_step (by repeat (first | (with_reducible first | exact HB.out | apply below_alloc | apply pw_below_drewN | apply below_drew1 | refine below_set ?_ GE189.out) | exact HB.out)) hb); have n2_ := Aside0.mk (hbox); have n3_ := Aside0.mk ((by rw [hg]; exact (below_size (by repeat (first | (with_reducible first | exact HB.out | apply below_alloc | apply pw_below_drewN | apply below_drew1 | refine below_set ?_ GE189.out) | exact HB.out))) : w.heap.size ≤ gb194)); have n4_ := Aside0.mk ((by rw [hg]; exact (below_size (by repeat (first | (with_reducible first | exact HB.out | apply below_alloc | apply pw_below_drewN | apply below_drew1 | refine below_set ?_ GE189.out) | exact HB.out))) : w.heap.size ≤ gb194)); have n5_ := Aside0.mk ((by rw [hg]; exact Nat.ne_of_lt (blk_lt (g := gb189) (o := .cells #[.slice (some ad190) l0_0.length c0_0] 38 (0, 0)) (by (with_reducible repeat (first | refine blk_drewN ?_ _ | refine blk_drew ?_ | refine blk_alloc ?_ _)); exact BK189.out)) : gb189 ≠ gb194)); have n6_ := Aside0.mk ((by rw [hg]; exact Nat.ne_of_gt (blk_lt (g := gb189) (o := .cells #[.slice (some ad190) l0_0.length c0_0] 38 (0, 0)) (by (with_reducible repeat (first | refine blk_drewN ?_ _ | refine blk_drew ?_ | refine blk_alloc ?_ _)); exact BK189.out)) : gb194 ≠ gb189)); clear BK189; clear HB; have BK189 := n0_; have HB := n1_; have BK194 := n2_; have GW194 := n3_; have GE194 := n4_; have NB189_194 := n5_; have NB194_189 := n6_; clear n0_ n1_ n2_ n3_ n4_ n5_ n6_; clear hb hbox hg; have hnb32 := NB194_189.out; have hnc32 := NB189_194.out; have hcz33_0 : w31.cell? ⟨gb194, 0, none⟩ = some (.int .i64 0) := (blk_cell BK194.out 0).trans rfl; have hcz33_1 : w31.cell? ⟨gb194, 1, none⟩ = some (.int .i64 0) := (blk_cell BK194.out 1).trans rfl; have hfz33_0 := blk_frozen BK194.out 0; have hfz33_1 := blk_frozen BK194.out 1)))
                       go_ret
                       exact ⟨by first | rfl | (simp [errW_none, errW_some] <;> rfl) | (simp [*, errW_none, errW_some] <;> rfl), by repeat (first | (with_reducible first | exact HB.out | apply below_alloc | apply pw_below_drewN | apply below_drew1 | refine below_set ?_ GE189.out | refine below_set ?_ GE194.out) | exact HB.out)⟩
                      ·rw [if_neg c29] at H
                       have c29b0 : decide ((l0_0.length : Int) ≤ ((rd_T44 (rd_L4 l0_0 x6_4) x7_5).f0)) = false := decide_eq_false c29
                       clear c29
                       by_cases c34 : ((rd_T44 (rd_L4 l0_0 x6_4) x7_5).f1) < 0
                       ·rw [if_pos c34] at H
                        have c34b0 : decide (((rd_T44 (rd_L4 l0_0 x6_4) x7_5).f1) < 0) = true := decide_eq_true c34
                        clear c34
                        obtain rfl := Option.some.inj H
                        have hcz35_0 : wr.cell? ⟨gb189, 0, none⟩ = some (.slice (some ad190) l0_0.length c0_0) := (blk_cell BK189.out 0).trans rfl
                        have hfz35_0 := blk_frozen BK189.out 0
                        have p192 : 0 ≤ (x6_4 : Int) := of_decide_eq_true (by first | (with_reducible assumption) | assumption)
                        have q192 : x6_4 < (l0_0.length : Int) := of_decide_eq_true (by first | (with_reducible assumption) | assumption)
                        obtain ⟨ad192, A192_0, c192_0, e192, hx192_0, hl192_0, hi192_0⟩ := at_L4 HR0_0.out x6_4 p192 q192
                        obtain rfl : ad190 = ad192 := (by injection e192)
                        replace hx192_0 := (HB.out.cell (World.block_lt_of_cell? w _ hx192_0)).trans hx192_0
                        have HR192_0 := Aside0.mk hi192_0
                        have HC192_0 := Aside0.mk hl192_0
                        clear hi192_0 hl192_0
                        replace p192 := eq_true p192
                        replace q192 := eq_true q192
                        have p193 : 0 ≤ (x7_5 : Int) := of_decide_eq_true (by first | (with_reducible assumption) | assumption)
                        have q193 : x7_5 < ((rd_L4 l0_0 x6_4).length : Int) := of_decide_eq_true (by first | (with_reducible assumption) | assumption)
                        obtain ⟨ad193, e193, hx193_0, hx193_1⟩ := at_T44 HR192_0.out x7_5 p193 q193
                        cases e193
                        replace hx193_0 := (HB.out.cell (World.block_lt_of_cell? w _ hx193_0)).trans hx193_0
                        replace hx193_1 := (HB.out.cell (World.block_lt_of_cell? w _ hx193_1)).trans hx193_1
                        replace p193 := eq_true p193
                        replace q193 := eq_true q193
                        go_wp2_with (first | ((with_reducible refine gate_dst (N := 8) rfl ?_); refine box_event ?hg (N := 8) ?hd (cs := #[.int .i64 0, .int .i64 0]) (t := 44) ?hr ?_; (case hd => rfl); (case hg => rfl); (case hr => first | (go_simp; done) | (go_simp; rfl)); intro gb194 hg w36 hbox hb; have n0_ := Aside0.mk (blk_below (g := gb189) (o := .cells #[.slice (some ad190) l0_0.length c0_0] 38 (0, 0)) (by (with_reducible repeat (first | refine blk_drewN ?_ _ | refine blk_drew ?_ | refine blk_alloc ?_ _)); exact BK189.out) hb); have n1_ := Aside0.mk (below_step (by repeat (first | (with_reducible first | exact HB.out | apply below_alloc | apply pw_below_drewN | apply below_drew1 | refine below_set ?_ GE189.out) | exact HB.out)) hb); have n2_ := Aside0.mk (hbox); have n3_ := Aside0.mk ((by rw [hg]; exact (below_size (by repeat (first | (with_reducible first | exact HB.out | apply below_alloc | apply pw_below_drewN | apply below_drew1 | refine below_set ?_ GE189.out) | exact HB.out))) : w.heap.size ≤ gb194)); have n4_ := Aside0.mk ((by rw [hg]; exact (below_size (by repeat (first | (with_reducible first | exact HB.out | apply below_alloc | apply pw_below_drewN | apply below_drew1 | refine below_set ?_ GE189.out) | exact HB.out))) : w.heap.size ≤ gb194)); have n5_ := Aside0.mk ((by rw [hg]; exact Nat.ne_of_lt (blk_lt (g := gb189) (o := .cells #[.slice (some ad190) l0_0.length c0_0] 38 (0, 0)) (by (with_reducible repeat (first | refine blk_drewN ?_ _ | refine blk_drew ?_ | refine blk_alloc ?_ _)); exact BK189.out)) : gb189 ≠ gb194)); have n6_ := Aside0.mk ((by rw [hg]; exact Nat.ne_of_gt (blk_lt (g := gb189) (o := .cells #[.slice (some ad190) l0_0.length c0_0] 38 (0, 0)) (by (with_reducible repeat (first | refine blk_drewN ?_ _ | refine blk_drew ?_ | refine blk_alloc ?_ _)); exact BK189.out)) : gb194 ≠ gb189)); clear BK189; clear HB; have BK189 := n0_; have HB := n1_; have BK194 := n2_; have GW194 := n3_; have GE194 := n4_; have NB189_194 := n5_; have NB194_189 := n6_; clear n0_ n1_ n2_ n3_ n4_ n5_ n6_; clear hb hbox hg; have hnb37 := NB194_189.out; have hnc37 := NB189_194.out; have hcz38_0 : w36.cell? ⟨gb194, 0, none⟩ = some (.int .i64 0) := (blk_cell BK194.out 0).trans rfl; have hcz38_1 : w36.cell? ⟨gb194, 1, none⟩ = some (.int .i64 0) := (blk_cell BK194.out 1).trans rfl; have hfz38_0 := blk_frozen BK194.out 0; have hfz38_1 := blk_frozen BK194.out 1))
                        repeat (go_quiet (first | ((with_reducible refine gate_dst (N := 8) rfl ?_); refine box_event ?hg (N := 8) ?hd (cs := #[.int .i64 0, .int .i64 0]) (t := 44) ?hr ?_; (case hd => rfl); (case hg => rfl); (case hr => first | (go_simp; done) | (go_simp; rfl)); intro gb194 hg w36 hbox hb; have n0_ := Aside0.mk (blk_below (g := gb189) (o := .cells #[.slice (some ad190) l0_0.length c0_0] 38 (0, 0)) (by (with_reducible repeat (first | refine blk_drewN ?_ _ | refine blk_drew ?_ | refine blk_alloc ?_ _)); exact BK189.out) hb); have n1_ := Aside0.mk (below_step (by repeat (first | (with_reducible first | exact HB.out | apply below_alloc | apply pw_below_drewN | apply below_drew1 | refine below_set ?_ GE189.out) | exact HB.out)) hb); have n2_ := Aside0.mk (hbox); have n3_ := Aside0.mk ((by rw [hg]; exact (below_size (by repeat (first | (with_reducible first | exact HB.out | apply below_alloc | apply pw_below_drewN | apply below_drew1 | refine below_set ?_ GE189.out) | exact HB.out))) : w.heap.size ≤ gb194)); have n4_ := Aside0.mk ((by rw [hg]; exact (below_size (by repeat (first | (with_reducible first | exact HB.out | apply below_alloc | apply pw_below_drewN | apply below_drew1 | refine below_set ?_ GE189.out) | exact HB.out))) : w.heap.size ≤ gb194)); have n5_ := Aside0.mk ((by rw [hg]; exact Nat.ne_of_lt (blk_lt (g := gb189) (o := .cells #[.slice (some ad190) l0_0.length c0_0] 38 (0, 0)) (by (with_reducible repeat (first | refine blk_drewN ?_ _ | refine blk_drew ?_ | refine blk_alloc ?_ _)); exact BK189.out)) : gb189 ≠ gb194)); have n6_ := Aside0.mk ((by rw [hg]; exact Nat.ne_of_gt (blk_lt (g := gb189) (o := .cells #[.slice (some ad190) l0_0.length c0_0] 38 (0, 0)) (by (with_reducible repeat (first | refine blk_drewN ?_ _ | refine blk_drew ?_ | refine blk_alloc ?_ _)); exact BK189.out)) : gb194 ≠ gb189)); clear BK189; clear HB; have BK189 := n0_; have HB := n1_; have BK194 := n2_; have GW194 := n3_; have GE194 := n4_; have NB189_194 := n5_; have NB194_189 := n6_; clear n0_ n1_ n2_ n3_ n4_ n5_ n6_; clear hb hbox hg; have hnb37 := NB194_189.out; have hnc37 := NB189_194.out; have hcz38_0 : w36.cell? ⟨gb194, 0, none⟩ = some (.int .i64 0) := (blk_cell BK194.out 0).trans rfl; have hcz38_1 : w36.cell? ⟨gb194, 1, none⟩ = some (.int .i64 0) := (blk_cell BK194.out 1).trans rfl; have hfz38_0 := blk_frozen BK194.out 0; have hfz38_1 := blk_frozen BK194.out 1)); try go_wp2_with (first | ((with_reducible refine gate_dst (N := 8) rfl ?_); refine box_event ?hg (N := 8) ?hd (cs := #[.int .i64 0, .int .i64 0]) (t := 44) ?hr ?_; (case hd => rfl); (case hg => rfl); (case hr => first | (go_simp; done) | (go_simp; rfl)); intro gb194 hg w36 hbox hb; have n0_ := Aside0.mk (blk_below (g := gb189) (o := .cells #[.slice (some ad190) l0_0.length c0_0] 38 (0, 0)) (by (with_reducible repeat (first | refine blk_drewN ?_ _ | refine blk_drew ?_ | refine blk_alloc ?_ _)); exact BK189.out) hb); have n1_ := Aside0.mk (below_step (by repeat (first | (with_reducible first | exact HB.out | apply below_alloc | apply pw_below_drewN | apply below_drew1 | refine below_set ?_ GE189.out) | exact HB.out)) hb); have n2_ := Aside0.mk (hbox); have n3_ := Aside0.mk ((by rw [hg]; exact (below_size (by repeat (first | (with_reducible first | exact HB.out | apply below_alloc | apply pw_below_drewN | apply below_drew1 | refine below_set ?_ GE189.out) | exact HB.out))) : w.heap.size ≤ gb194)); have n4_ := Aside0.mk ((by rw [hg]; exact (below_size (by repeat (first | (with_reducible first | exact HB.out | apply below_alloc | apply pw_below_drewN | apply below_drew1 | refine below_set ?_ GE189.out) | exact HB.out))) : w.heap.size ≤ gb194)); have n5_ := Aside0.mk ((by rw [hg]; exact Nat.ne_of_lt (blk_lt (g := gb189) (o := .cells #[.slice (some ad190) l0_0.length c0_0] 38 (0, 0)) (by (with_reducible repeat (first | refine blk_drewN ?_ _ | refine blk_drew ?_ | refine blk_alloc ?_ _)); exact BK189.out)) : gb189 ≠ gb194)); have n6_ := Aside0.mk ((by rw [hg]; exact Nat.ne_of_gt (blk_lt (g := gb189) (o := .cells #[.slice (some ad190) l0_0.length c0_0] 38 (0, 0)) (by (with_reducible repeat (first | refine blk_drewN ?_ _ | refine blk_drew ?_ | refine blk_alloc ?_ _)); exact BK189.out)) : gb194 ≠ gb189)); clear BK189; clear HB; have BK189 := n0_; have HB := n1_; have BK194 := n2_; have GW194 := n3_; have GE194 := n4_; have NB189_194 := n5_; have NB194_189 := n6_; clear n0_ n1_ n2_ n3_ n4_ n5_ n6_; clear hb hbox hg; have hnb37 := NB194_189.out; have hnc37 := NB189_194.out; have hcz38_0 : w36.cell? ⟨gb194, 0, none⟩ = some (.int .i64 0) := (blk_cell BK194.out 0).trans rfl; have hcz38_1 : w36.cell? ⟨gb194, 1, none⟩ = some (.int .i64 0) := (blk_cell BK194.out 1).trans rfl; have hfz38_0 := blk_frozen BK194.out 0; have hfz38_1 := blk_frozen BK194.out 1)))
                        go_ret
                        exact ⟨by first | rfl | (simp [errW_none, errW_some] <;> rfl) | (simp [*, errW_none, errW_some] <;> rfl), by repeat (first | (with_reducible first | exact HB.out | apply below_alloc | apply pw_below_drewN | apply below_drew1 | refine below_set ?_ GE189.out | refine below_set ?_ GE194.out) | exact HB.out)⟩
                       ·rw [if_neg c34] at H
                        have c34b0 : decide (((rd_T44 (rd_L4 l0_0 x6_4) x7_5).f1) < 0) = false := decide_eq_false c34
                        clear c34
                        by_cases c39 : ((rd_T44 (rd_L4 l0_0 x6_4) x7_5).f1) ≥ ((rd_L4 l0_0 0).length : Int)
                        ·rw [if_pos c39] at H
                         have c39b0 : decide (((rd_L4 l0_0 0).length : Int) ≤ ((rd_T44 (rd_L4 l0_0 x6_4) x7_5).f1)) = true := decide_eq_true c39
                         clear c39
                         obtain rfl := Option.some.inj H
                         have hcz40_0 : wr.cell? ⟨gb189, 0, none⟩ = some (.slice (some ad190) l0_0.length c0_0) := (blk_cell BK189.out 0).trans rfl
                         have hfz40_0 := blk_frozen BK189.out 0
                         have p192 : 0 ≤ (x6_4 : Int) := of_decide_eq_true (by first | (with_reducible assumption) | assumption)
                         have q192 : x6_4 < (l0_0.length : Int) := of_decide_eq_true (by first | (with_reducible assumption) | assumption)
                         obtain ⟨ad192, A192_0, c192_0, e192, hx192_0, hl192_0, hi192_0⟩ := at_L4 HR0_0.out x6_4 p192 q192
                         obtain rfl : ad190 = ad192 := (by injection e192)
                         replace hx192_0 := (HB.out.cell (World.block_lt_of_cell? w _ hx192_0)).trans hx192_0
                         have HR192_0 := Aside0.mk hi192_0
                         have HC192_0 := Aside0.mk hl192_0
                         clear hi192_0 hl192_0
                         replace p192 := eq_true p192
                         replace q192 := eq_true q192
                         have p193 : 0 ≤ (x7_5 : Int) := of_decide_eq_true (by first | (with_reducible assumption) | assumption)
                         have q193 : x7_5 < ((rd_L4 l0_0 x6_4).length : Int) := of_decide_eq_true (by first | (with_reducible assumption) | assumption)
                         obtain ⟨ad193, e193, hx193_0, hx193_1⟩ := at_T44 HR192_0.out x7_5 p193 q193
                         cases e193
                         replace hx193_0 := (HB.out.cell (World.block_lt_of_cell? w _ hx193_0)).trans hx193_0
                         replace hx193_1 := (HB.out.cell (World.block_lt_of_cell? w _ hx193_1)).trans hx193_1
                         replace p193 := eq_true p193
                         replace q193 := eq_true q193
                         go_wp2_with (first | ((with_reducible refine gate_dst (N := 8) rfl ?_); refine box_event ?hg (N := 8) ?hd (cs := #[.int .i64 0, .int .i64 0]) (t := 44) ?hr ?_; (case hd => rfl); (case hg => rfl); (case hr => first | (go_simp; done) | (go_simp; rfl)); intro gb194 hg w41 hbox hb; have n0_ := Aside0.mk (blk_below (g := gb189) (o := .cells #[.slice (some ad190) l0_0.length c0_0] 38 (0, 0)) (by (with_reducible repeat (first | refine blk_drewN ?_ _ | refine blk_drew ?_ | refine blk_alloc ?_ _)); exact BK189.out) hb); have n1_ := Aside0.mk (below_step (by repeat (first | (with_reducible first | exact HB.out | apply below_alloc | apply pw_below_drewN | apply below_drew1 | refine below_set ?_ GE189.out) | exact HB.out)) hb); have n2_ := Aside0.mk (hbox); have n3_ := Aside0.mk ((by rw [hg]; exact (below_size (by repeat (first | (with_reducible first | exact HB.out | apply below_alloc | apply pw_below_drewN | apply below_drew1 | refine below_set ?_ GE189.out) | exact HB.out))) : w.heap.size ≤ gb194)); have n4_ := Aside0.mk ((by rw [hg]; exact (below_size (by repeat (first | (with_reducible first | exact HB.out | apply below_alloc | apply pw_below_drewN | apply below_drew1 | refine below_set ?_ GE189.out) | exact HB.out))) : w.heap.size ≤ gb194)); have n5_ := Aside0.mk ((by rw [hg]; exact Nat.ne_of_lt (blk_lt (g := gb189) (o := .cells #[.slice (some ad190) l0_0.length c0_0] 38 (0, 0)) (by (with_reducible repeat (first | refine blk_drewN ?_ _ | refine blk_drew ?_ | refine blk_alloc ?_ _)); exact BK189.out)) : gb189 ≠ gb194)); have n6_ := Aside0.mk ((by rw [hg]; exact Nat.ne_of_gt (blk_lt (g := gb189) (o := .cells #[.slice (some ad190) l0_0.length c0_0] 38 (0, 0)) (by (with_reducible repeat (first | refine blk_drewN ?_ _ | refine blk_drew ?_ | refine blk_alloc ?_ _)); exact BK189.out)) : gb194 ≠ gb189)); clear BK189; clear HB; have BK189 := n0_; have HB := n1_; have BK194 := n2_; have GW194 := n3_; have GE194 := n4_; have NB189_194 := n5_; have NB194_189 := n6_; clear n0_ n1_ n2_ n3_ n4_ n5_ n6_; clear hb hbox hg; have hnb42 := NB194_189.out; have hnc42 := NB189_194.out; have hcz43_0 : w41.cell? ⟨gb194, 0, none⟩ = some (.int .i64 0) := (blk_cell BK194.out 0).trans rfl; have hcz43_1 : w41.cell? ⟨gb194, 1, none⟩ = some (.int .i64 0) := (blk_cell BK194.out 1).trans rfl; have hfz43_0 := blk_frozen BK194.out 0; have hfz43_1 := blk_frozen BK194.out 1))
                         repeat (go_quiet (first | ((with_reducible refine gate_dst (N := 8) rfl ?_); refine box_event ?hg (N := 8) ?hd (cs := #[.int .i64 0, .int .i64 0]) (t := 44) ?hr ?_; (case hd => rfl); (case hg => rfl); (case hr => first | (go_simp; done) | (go_simp; rfl)); intro gb194 hg w41 hbox hb; have n0_ := Aside0.mk (blk_below (g := gb189) (o := .cells #[.slice (some ad190) l0_0.length c0_0] 38 (0, 0)) (by (with_reducible repeat (first | refine blk_drewN ?_ _ | refine blk_drew ?_ | refine blk_alloc ?_ _)); exact BK189.out) hb); have n1_ := Aside0.mk (below_step (by repeat (first | (with_reducible first | exact HB.out | apply below_alloc | apply pw_below_drewN | apply below_drew1 | refine below_set ?_ GE189.out) | exact HB.out)) hb); have n2_ := Aside0.mk (hbox); have n3_ := Aside0.mk ((by rw [hg]; exact (below_size (by repeat (first | (with_reducible first | exact HB.out | apply below_alloc | apply pw_below_drewN | apply below_drew1 | refine below_set ?_ GE189.out) | exact HB.out))) : w.heap.size ≤ gb194)); have n4_ := Aside0.mk ((by rw [hg]; exact (below_size (by repeat (first | (with_reducible first | exact HB.out | apply below_alloc | apply pw_below_drewN | apply below_drew1 | refine below_set ?_ GE189.out) | exact HB.out))) : w.heap.size ≤ gb194)); have n5_ := Aside0.mk ((by rw [hg]; exact Nat.ne_of_lt (blk_lt (g := gb189) (o := .cells #[.slice (some ad190) l0_0.length c0_0] 38 (0, 0)) (by (with_reducible repeat (first | refine blk_drewN ?_ _ | refine blk_drew ?_ | refine blk_alloc ?_ _)); exact BK189.out)) : gb189 ≠ gb194)); have n6_ := Aside0.mk ((by rw [hg]; exact Nat.ne_of_gt (blk_lt (g := gb189) (o := .cells #[.slice (some ad190) l0_0.length c0_0] 38 (0, 0)) (by (with_reducible repeat (first | refine blk_drewN ?_ _ | refine blk_drew ?_ | refine blk_alloc ?_ _)); exact BK189.out)) : gb194 ≠ gb189)); clear BK189; clear HB; have BK189 := n0_; have HB := n1_; have BK194 := n2_; have GW194 := n3_; have GE194 := n4_; have NB189_194 := n5_; have NB194_189 := n6_; clear n0_ n1_ n2_ n3_ n4_ n5_ n6_; clear hb hbox hg; have hnb42 := NB194_189.out; have hnc42 := NB189_194.out; have hcz43_0 : w41.cell? ⟨gb194, 0, none⟩ = some (.int .i64 0) := (blk_cell BK194.out 0).trans rfl; have hcz43_1 : w41.cell? ⟨gb194, 1, none⟩ = some (.int .i64 0) := (blk_cell BK194.out 1).trans rfl; have hfz43_0 := blk_frozen BK194.out 0; have hfz43_1 := blk_frozen BK194.out 1)); try go_wp2_with (first | ((with_reducible refine gate_dst (N := 8) rfl ?_); refine box_event ?hg (N := 8) ?hd (cs := #[.int .i64 0, .int .i64 0]) (t := 44) ?hr ?_; (case hd => rfl); (case hg => rfl); (case hr => first | (go_simp; done) | (go_simp; rfl)); intro gb194 hg w41 hbox hb; have n0_ := Aside0.mk (blk_below (g := gb189) (o := .cells #[.slice (some ad190) l0_0.length c0_0] 38 (0, 0)) (by (with_reducible repeat (first | refine blk_drewN ?_ _ | refine blk_drew ?_ | refine blk_alloc ?_ _)); exact BK189.out) hb); have n1_ := Aside0.mk (below_step (by repeat (first | (with_reducible first | exact HB.out | apply below_alloc | apply pw_below_drewN | apply below_drew1 | refine below_set ?_ GE189.out) | exact HB.out)) hb); have n2_ := Aside0.mk (hbox); have n3_ := Aside0.mk ((by rw [hg]; exact (below_size (by repeat (first | (with_reducible first | exact HB.out | apply below_alloc | apply pw_below_drewN | apply below_drew1 | refine below_set ?_ GE189.out) | exact HB.out))) : w.heap.size ≤ gb194)); have n4_ := Aside0.mk ((by rw [hg]; exact (below_size (by repeat (first | (with_reducible first | exact HB.out | apply below_alloc | apply pw_below_drewN | apply below_drew1 | refine below_set ?_ GE189.out) | exact HB.out))) : w.heap.size ≤ gb194)); have n5_ := Aside0.mk ((by rw [hg]; exact Nat.ne_of_lt (blk_lt (g := gb189) (o := .cells #[.slice (some ad190) l0_0.length c0_0] 38 (0, 0)) (by (with_reducible repeat (first | refine blk_drewN ?_ _ | refine blk_drew ?_ | refine blk_alloc ?_ _)); exact BK189.out)) : gb189 ≠ gb194)); have n6_ := Aside0.mk ((by rw [hg]; exact Nat.ne_of_gt (blk_lt (g := gb189) (o := .cells #[.slice (some ad190) l0_0.length c0_0] 38 (0, 0)) (by (with_reducible repeat (first | refine blk_drewN ?_ _ | refine blk_drew ?_ | refine blk_alloc ?_ _)); exact BK189.out)) : gb194 ≠ gb189)); clear BK189; clear HB; have BK189 := n0_; have HB := n1_; have BK194 := n2_; have GW194 := n3_; have GE194 := n4_; have NB189_194 := n5_; have NB194_189 := n6_; clear n0_ n1_ n2_ n3_ n4_ n5_ n6_; clear hb hbox hg; have hnb42 := NB194_189.out; have hnc42 := NB189_194.out; have hcz43_0 : w41.cell? ⟨gb194, 0, none⟩ = some (.int .i64 0) := (blk_cell BK194.out 0).trans rfl; have hcz43_1 : w41.cell? ⟨gb194, 1, none⟩ = some (.int .i64 0) := (blk_cell BK194.out 1).trans rfl; have hfz43_0 := blk_frozen BK194.out 0; have hfz43_1 := blk_frozen BK194.out 1)))
                         go_ret
                         exact ⟨by first | rfl | (simp [errW_none, errW_some] <;> rfl) | (simp [*, errW_none, errW_some] <;> rfl), by repeat (first | (with_reducible first | exact HB.out | apply below_alloc | apply pw_below_drewN | apply below_drew1 | refine below_set ?_ GE189.out | refine below_set ?_ GE194.out) | exact HB.out)⟩
                        ·rw [if_neg c39] at H
                         have c39b0 : decide (((rd_L4 l0_0 0).length : Int) ≤ ((rd_T44 (rd_L4 l0_0 x6_4) x7_5).f1)) = false := decide_eq_false c39
                         clear c39
                         by_cases c44 : 0 ≤ ((rd_T44 (rd_L4 l0_0 x6_4) x7_5).f0)
                         ·rw [if_pos c44] at H
                          have c44b0 : decide (0 ≤ ((rd_T44 (rd_L4 l0_0 x6_4) x7_5).f0)) = true := decide_eq_true c44
                          clear c44
                          by_cases c45 : ((rd_T44 (rd_L4 l0_0 x6_4) x7_5).f0) < (l0_0.length : Int)
                          ·rw [if_pos c45] at H
                           have c45b0 : decide (((rd_T44 (rd_L4 l0_0 x6_4) x7_5).f0) < (l0_0.length : Int)) = true := decide_eq_true c45
                           clear c45
                           by_cases c46 : 0 ≤ ((rd_T44 (rd_L4 l0_0 x6_4) x7_5).f1)
                           ·rw [if_pos c46] at H
                            have c46b0 : decide (0 ≤ ((rd_T44 (rd_L4 l0_0 x6_4) x7_5).f1)) = true := decide_eq_true c46
                            clear c46
                            by_cases c47 : ((rd_T44 (rd_L4 l0_0 x6_4) x7_5).f1) < ((rd_L4 l0_0 ((rd_T44 (rd_L4 l0_0 x6_4) x7_5).f0)).length : Int)
                            ·rw [if_pos c47] at H
                             have c47b0 : decide (((rd_T44 (rd_L4 l0_0 x6_4) x7_5).f1) < ((rd_L4 l0_0 ((rd_T44 (rd_L4 l0_0 x6_4) x7_5).f0)).length : Int)) = true := decide_eq_true c47
                             clear c47
                             by_cases c48 : (!(((rd_T44 (rd_L4 l0_0 ((rd_T44 (rd_L4 l0_0 x6_4) x7_5).f0)) ((rd_T44 (rd_L4 l0_0 x6_4) x7_5).f1)).f0) == x6_4) || (!(((rd_T44 (rd_L4 l0_0 ((rd_T44 (rd_L4 l0_0 x6_4) x7_5).f0)) ((rd_T44 (rd_L4 l0_0 x6_4) x7_5).f1)).f1) == x7_5))) = true
                             ·rw [if_pos c48] at H
                              have c48b0 : (!(((rd_T44 (rd_L4 l0_0 ((rd_T44 (rd_L4 l0_0 x6_4) x7_5).f0)) ((rd_T44 (rd_L4 l0_0 x6_4) x7_5).f1)).f0) == x6_4) || (!(((rd_T44 (rd_L4 l0_0 ((rd_T44 (rd_L4 l0_0 x6_4) x7_5).f0)) ((rd_T44 (rd_L4 l0_0 x6_4) x7_5).f1)).f1) == x7_5))) = true := c48
                              clear c48
                              obtain rfl := Option.some.inj H
                              have hcz49_0 : wr.cell? ⟨gb189, 0, none⟩ = some (.slice (some ad190) l0_0.length c0_0) := (blk_cell BK189.out 0).trans rfl
                              have hfz49_0 := blk_frozen BK189.out 0
                              have p192 : 0 ≤ (x6_4 : Int) := of_decide_eq_true (by first | (with_reducible assumption) | assumption)
                              have q192 : x6_4 < (l0_0.length : Int) := of_decide_eq_true (by first | (with_reducible assumption) | assumption)
                              obtain ⟨ad192, A192_0, c192_0, e192, hx192_0, hl192_0, hi192_0⟩ := at_L4 HR0_0.out x6_4 p192 q192
                              obtain rfl : ad190 = ad192 := (by injection e192)
                              replace hx192_0 := (HB.out.cell (World.block_lt_of_cell? w _ hx192_0)).trans hx192_0
                              have HR192_0 := Aside0.mk hi192_0
                              have HC192_0 := Aside0.mk hl192_0
                              clear hi192_0 hl192_0
                              replace p192 := eq_true p192
                              replace q192 := eq_true q192
                              have p193 : 0 ≤ (x7_5 : Int) := of_decide_eq_true (by first | (with_reducible assumption) | assumption)
                              have q193 : x7_5 < ((rd_L4 l0_0 x6_4).length : Int) := of_decide_eq_true (by first | (with_reducible assumption) | assumption)
                              obtain ⟨ad193, e193, hx193_0, hx193_1⟩ := at_T44 HR192_0.out x7_5 p193 q193
                              cases e193
                              replace hx193_0 := (HB.out.cell (World.block_lt_of_cell? w _ hx193_0)).trans hx193_0
                              replace hx193_1 := (HB.out.cell (World.block_lt_of_cell? w _ hx193_1)).trans hx193_1
                              replace p193 := eq_true p193
                              replace q193 := eq_true q193
                              go_wp2_with (first | ((with_reducible refine gate_dst (N := 8) rfl ?_); refine box_event ?hg (N := 8) ?hd (cs := #[.int .i64 0, .int .i64 0]) (t := 44) ?hr ?_; (case hd => rfl); (case hg => rfl); (case hr => first | (go_simp; done) | (go_simp; rfl)); intro gb194 hg w50 hbox hb; have n0_ := Aside0.mk (blk_below (g := gb189) (o := .cells #[.slice (some ad190) l0_0.length c0_0] 38 (0, 0)) (by (with_reducible repeat (first | refine blk_drewN ?_ _ | refine blk_drew ?_ | refine blk_alloc ?_ _)); exact BK189.out) hb); have n1_ := Aside0.mk (below_step (by repeat (first | (with_reducible first | exact HB.out | apply below_alloc | apply pw_below_drewN | apply below_drew1 | refine below_set ?_ GE189.out) | exact HB.out)) hb); have n2_ := Aside0.mk (hbox); have n3_ := Aside0.mk ((by rw [hg]; exact (below_size (by repeat (first | (with_reducible first | exact HB.out | apply below_alloc | apply pw_below_drewN | apply below_drew1 | refine below_set ?_ GE189.out) | exact HB.out))) : w.heap.size ≤ gb194)); have n4_ := Aside0.mk ((by rw [hg]; exact (below_size (by repeat (first | (with_reducible first | exact HB.out | apply below_alloc | apply pw_below_drewN | apply below_drew1 | refine below_set ?_ GE189.out) | exact HB.out))) : w.heap.size ≤ gb194)); have n5_ := Aside0.mk ((by rw [hg]; exact Nat.ne_of_lt (blk_lt (g := gb189) (o := .cells #[.slice (some ad190) l0_0.length c0_0] 38 (0, 0)) (by (with_reducible repeat (first | refine blk_drewN ?_ _ | refine blk_drew ?_ | refine blk_alloc ?_ _)); exact BK189.out)) : gb189 ≠ gb194)); have n6_ := Aside0.mk ((by rw [hg]; exact Nat.ne_of_gt (blk_lt (g := gb189) (o := .cells #[.slice (some ad190) l0_0.length c0_0] 38 (0, 0)) (by (with_reducible repeat (first | refine blk_drewN ?_ _ | refine blk_drew ?_ | refine blk_alloc ?_ _)); exact BK189.out)) : gb194 ≠ gb189)); clear BK189; clear HB; have BK189 := n0_; have HB := n1_; have BK194 := n2_; have GW194 := n3_; have GE194 := n4_; have NB189_194 := n5_; have NB194_189 := n6_; clear n0_ n1_ n2_ n3_ n4_ n5_ n6_; clear hb hbox hg; have hnb51 := NB194_189.out; have hnc51 := NB189_194.out; have hcz52_0 : w50.cell? ⟨gb194, 0, none⟩ = some (.int .i64 0) := (blk_cell BK194.out 0).trans rfl; have hcz52_1 : w50.cell? ⟨gb194, 1, none⟩ = some (.int .i64 0) := (blk_cell BK194.out 1).trans rfl; have hfz52_0 := blk_frozen BK194.out 0; have hfz52_1 := blk_frozen BK194.out 1; have hcz53_0 : w50.cell? ⟨gb189, 0, none⟩ = some (.slice (some ad190) l0_0.length c0_0) := (blk_cell BK189.out 0).trans rfl; have hfz53_0 := blk_frozen BK189.out 0; have p195 : 0 ≤ (((rd_T44 (rd_L4 l0_0 x6_4) x7_5).f0) : Int) := of_decide_eq_true (by first | (with_reducible assumption) | assumption); have q195 : ((rd_T44 (rd_L4 l0_0 x6_4) x7_5).f0) < (l0_0.length : Int) := of_decide_eq_true (by first | (with_reducible assumption) | assumption); obtain ⟨ad195, A195_0, c195_0, e195, hx195_0, hl195_0, hi195_0⟩ := at_L4 HR0_0.out ((rd_T44 (rd_L4 l0_0 x6_4) x7_5).f0) p195 q195; obtain rfl : ad190 = ad195 := (by injection e195); have hn195_0 : ad190.block ≠ gb194 := Nat.ne_of_lt (Nat.lt_of_lt_of_le (by have := World.block_lt_of_cell? _ _ hx195_0; first | rwa [add_block] at this | exact this) GW194.out); have hn195_1 : ad190.block ≠ gb194 := Nat.ne_of_lt (Nat.lt_of_lt_of_le (by have := World.block_lt_of_cell? _ _ hx195_0; first | rwa [add_block] at this | exact this) GW194.out); replace hx195_0 := (HB.out.cell (World.block_lt_of_cell? w _ hx195_0)).trans hx195_0; have HR195_0 := Aside0.mk hi195_0; have HC195_0 := Aside0.mk hl195_0; clear hi195_0 hl195_0; replace hx195_0 := (cell_far (p := ⟨gb194, 0, none⟩) (by first | (rw [add_block]; exact hn195_0) | (show (Addr.add _ _).block ≠ _; rw [add_block]; exact hn195_0) | exact hn195_0) (.int .i64 ((rd_T44 (rd_L4 l0_0 x6_4) x7_5).f0))).trans hx195_0; replace hx195_0 := (cell_far (p := ⟨gb194, 1, none⟩) (by first | (rw [add_block]; exact hn195_1) | (show (Addr.add _ _).block ≠ _; rw [add_block]; exact hn195_1) | exact hn195_1) (.int .i64 ((rd_T44 (rd_L4 l0_0 x6_4) x7_5).f1))).trans hx195_0; (try have hy195_0 := fun (n_ : Nat) => (show ((((w50.drewN n_).setCell ⟨gb194, 0, none⟩ (.int .i64 ((rd_T44 (rd_L4 l0_0 x6_4) x7_5).f0))).setCell ⟨gb194, 1, none⟩ (.int .i64 ((rd_T44 (rd_L4 l0_0 x6_4) x7_5).f1)))).cell? _ = some _ from hx195_0)); clear hn195_0; clear hn195_1; replace p195 := eq_true p195; replace q195 := eq_true q195; have p196 : 0 ≤ (((rd_T44 (rd_L4 l0_0 x6_4) x7_5).f1) : Int) := of_decide_eq_true (by first | (with_reducible assumption) | assumption); have q196 : ((rd_T44 (rd_L4 l0_0 x6_4) x7_5).f1) < ((rd_L4 l0_0 ((rd_T44 (rd_L4 l0_0 x6_4) x7_5).f0)).length : Int) := of_decide_eq_true (by first | (with_reducible assumption) | assumption); obtain ⟨ad196, e196, hx196_0, hx196_1⟩ := at_T44 HR195_0.out ((rd_T44 (rd_L4 l0_0 x6_4) x7_5).f1) p196 q196; cases e196; have hn196_0 : ad196.block ≠ gb194 := Nat.ne_of_lt (Nat.lt_of_lt_of_le (by have := World.block_lt_of_cell? _ _ hx196_0; first | rwa [add_block] at this | exact this) GW194.out); have hn196_1 : ad196.block ≠ gb194 := Nat.ne_of_lt (Nat.lt_of_lt_of_le (by have := World.block_lt_of_cell? _ _ hx196_0; first | rwa [add_block] at this | exact this) GW194.out); replace hx196_0 := (HB.out.cell (World.block_lt_of_cell? w _ hx196_0)).trans hx196_0; replace hx196_1 := (HB.out.cell (World.block_lt_of_cell? w _ hx196_1)).trans hx196_1; replace hx196_0 := (cell_far (p := ⟨gb194, 0, none⟩) (by first | (rw [add_block]; exact hn196_0) | (show (Addr.add _ _).block ≠ _; rw [add_block]; exact hn196_0) | exact hn196_0) (.int .i64 ((rd_T44 (rd_L4 l0_0 x6_4) x7_5).f0))).trans hx196_0; replace hx196_1 := (cell_far (p := ⟨gb194, 0, none⟩) (by first | (rw [add_block]; exact hn196_0) | (show (Addr.add _ _).block ≠ _; rw [add_block]; exact hn196_0) | exact hn196_0) (.int .i64 ((rd_T44 (rd_L4 l0_0 x6_4) x7_5).f0))).trans hx196_1; replace hx196_0 := (cell_far (p := ⟨gb194, 1, none⟩) (by first | (rw [add_block]; exact hn196_1) | (show (Addr.add _ _).block ≠ _; rw [add_block]; exact hn196_1) | exact hn196_1) (.int .i64 ((rd_T44 (rd_L4 l0_0 x6_4) x7_5).f1))).trans hx196_0; replace hx196_1 := (cell_far (p := ⟨gb194, 1, none⟩) (by first | (rw [add_block]; exact hn196_1) | (show (Addr.add _ _).block ≠ _; rw [add_block]; exact hn196_1) | exact hn196_1) (.int .i64 ((rd_T44 (rd_L4 l0_0 x6_4) x7_5).f1))).trans hx196_1; (try have hy196_0 := fun (n_ : Nat) => (show ((((w50.drewN n_).setCell ⟨gb194, 0, none⟩ (.int .i64 ((rd_T44 (rd_L4 l0_0 x6_4) x7_5).f0))).setCell ⟨gb194, 1, none⟩ (.int .i64 ((rd_T44 (rd_L4 l0_0 x6_4) x7_5).f1)))).cell? _ = some _ from hx196_0)); (try have hy196_1 := fun (n_ : Nat) => (show ((((w50.drewN n_).setCell ⟨gb194, 0, none⟩ (.int .i64 ((rd_T44 (rd_L4 l0_0 x6_4) x7_5).f0))).setCell ⟨gb194, 1, none⟩ (.int .i64 ((rd_T44 (rd_L4 l0_0 x6_4) x7_5).f1)))).cell? _ = some _ from hx196_1)); clear hn196_0; clear hn196_1; replace p196 := eq_true p196; replace q196 := eq_true q196))
                              repeat (go_quiet (first | ((with_reducible refine gate_dst (N := 8) rfl ?_); refine box_event ?hg (N := 8) ?hd (cs := #[.int .i64 0, .int .i64 0]) (t := 44) ?hr ?_; (case hd => rfl); (case hg => rfl); (case hr => first | (go_simp; done) | (go_simp; rfl)); intro gb194 hg w50 hbox hb; have n0_ := Aside0.mk (blk_below (g := gb189) (o := .cells #[.slice (some ad190) l0_0.length c0_0] 38 (0, 0)) (by (with_reducible repeat (first | refine blk_drewN ?_ _ | refine blk_drew ?_ | refine blk_alloc ?_ _)); exact BK189.out) hb); have n1_ := Aside0.mk (below_step (by repeat (first | (with_reducible first | exact HB.out | apply below_alloc | apply pw_below_drewN | apply below_drew1 | refine below_set ?_ GE189.out) | exact HB.out)) hb); have n2_ := Aside0.mk (hbox); have n3_ := Aside0.mk ((by rw [hg]; exact (below_size (by repeat (first | (with_reducible first | exact HB.out | apply below_alloc | apply pw_below_drewN | apply below_drew1 | refine below_set ?_ GE189.out) | exact HB.out))) : w.heap.size ≤ gb194)); have n4_ := Aside0.mk ((by rw [hg]; exact (below_size (by repeat (first | (with_reducible first | exact HB.out | apply below_alloc | apply pw_below_drewN | apply below_drew1 | refine below_set ?_ GE189.out) | exact HB.out))) : w.heap.size ≤ gb194)); have n5_ := Aside0.mk ((by rw [hg]; exact Nat.ne_of_lt (blk_lt (g := gb189) (o := .cells #[.slice (some ad190) l0_0.length c0_0] 38 (0, 0)) (by (with_reducible repeat (first | refine blk_drewN ?_ _ | refine blk_drew ?_ | refine blk_alloc ?_ _)); exact BK189.out)) : gb189 ≠ gb194)); have n6_ := Aside0.mk ((by rw [hg]; exact Nat.ne_of_gt (blk_lt (g := gb189) (o := .cells #[.slice (some ad190) l0_0.length c0_0] 38 (0, 0)) (by (with_reducible repeat (first | refine blk_drewN ?_ _ | refine blk_drew ?_ | refine blk_alloc ?_ _)); exact BK189.out)) : gb194 ≠ gb189)); clear BK189; clear HB; have BK189 := n0_; have HB := n1_; have BK194 := n2_; have GW194 := n3_; have GE194 := n4_; have NB189_194 := n5_; have NB194_189 := n6_; clear n0_ n1_ n2_ n3_ n4_ n5_ n6_; clear hb hbox hg; have hnb51 := NB194_189.out; have hnc51 := NB189_194.out; have hcz52_0 : w50.cell? ⟨gb194, 0, none⟩ = some (.int .i64 0) := (blk_cell BK194.out 0).trans rfl; have hcz52_1 : w50.cell? ⟨gb194, 1, none⟩ = some (.int .i64 0) := (blk_cell BK194.out 1).trans rfl; have hfz52_0 := blk_frozen BK194.out 0; have hfz52_1 := blk_frozen BK194.out 1; have hcz53_0 : w50.cell? ⟨gb189, 0, none⟩ = some (.slice (some ad190) l0_0.length c0_0) := (blk_cell BK189.out 0).trans rfl; have hfz53_0 := blk_frozen BK189.out 0; have p195 : 0 ≤ (((rd_T44 (rd_L4 l0_0 x6_4) x7_5).f0) : Int) := of_decide_eq_true (by first | (with_reducible assumption) | assumption); have q195 : ((rd_T44 (rd_L4 l0_0 x6_4) x7_5).f0) < (l0_0.length : Int) := of_decide_eq_true (by first | (with_reducible assumption) | assumption); obtain ⟨ad195, A195_0, c195_0, e195, hx195_0, hl195_0, hi195_0⟩ := at_L4 HR0_0.out ((rd_T44 (rd_L4 l0_0 x6_4) x7_5).f0) p195 q195; obtain rfl : ad190 = ad195 := (by injection e195); have hn195_0 : ad190.block ≠ gb194 := Nat.ne_of_lt (Nat.lt_of_lt_of_le (by have := World.block_lt_of_cell? _ _ hx195_0; first | rwa [add_block] at this | exact this) GW194.out); have hn195_1 : ad190.block ≠ gb194 := Nat.ne_of_lt (Nat.lt_of_lt_of_le (by have := World.block_lt_of_cell? _ _ hx195_0; first | rwa [add_block] at this | exact this) GW194.out); replace hx195_0 := (HB.out.cell (World.block_lt_of_cell? w _ hx195_0)).trans hx195_0; have HR195_0 := Aside0.mk hi195_0; have HC195_0 := Aside0.mk hl195_0; clear hi195_0 hl195_0; replace hx195_0 := (cell_far (p := ⟨gb194, 0, none⟩) (by first | (rw [add_block]; exact hn195_0) | (show (Addr.add _ _).block ≠ _; rw [add_block]; exact hn195_0) | exact hn195_0) (.int .i64 ((rd_T44 (rd_L4 l0_0 x6_4) x7_5).f0))).trans hx195_0; replace hx195_0 := (cell_far (p := ⟨gb194, 1, none⟩) (by first | (rw [add_block]; exact hn195_1) | (show (Addr.add _ _).block ≠ _; rw [add_block]; exact hn195_1) | exact hn195_1) (.int .i64 ((rd_T44 (rd_L4 l0_0 x6_4) x7_5).f1))).trans hx195_0; (try have hy195_0 := fun (n_ : Nat) => (show ((((w50.drewN n_).setCell ⟨gb194, 0, none⟩ (.int .i64 ((rd_T44 (rd_L4 l0_0 x6_4) x7_5).f0))).setCell ⟨gb194, 1, none⟩ (.int .i64 ((rd_T44 (rd_L4 l0_0 x6_4) x7_5).f1)))).cell? _ = some _ from hx195_0)); clear hn195_0; clear hn195_1; replace p195 := eq_true p195; replace q195 := eq_true q195; have p196 : 0 ≤ (((rd_T44 (rd_L4 l0_0 x6_4) x7_5).f1) : Int) := of_decide_eq_true (by first | (with_reducible assumption) | assumption); have q196 : ((rd_T44 (rd_L4 l0_0 x6_4) x7_5).f1) < ((rd_L4 l0_0 ((rd_T44 (rd_L4 l0_0 x6_4) x7_5).f0)).length : Int) := of_decide_eq_true (by first | (with_reducible assumption) | assumption); obtain ⟨ad196, e196, hx196_0, hx196_1⟩ := at_T44 HR195_0.out ((rd_T44 (rd_L4 l0_0 x6_4) x7_5).f1) p196 q196; cases e196; have hn196_0 : ad196.block ≠ gb194 := Nat.ne_of_lt (Nat.lt_of_lt_of_le (by have := World.block_lt_of_cell? _ _ hx196_0; first | rwa [add_block] at this | exact this) GW194.out); have hn196_1 : ad196.block ≠ gb194 := Nat.ne_of_lt (Nat.lt_of_lt_of_le (by have := World.block_lt_of_cell? _ _ hx196_0; first | rwa [add_block] at this | exact this) GW194.out); replace hx196_0 := (HB.out.cell (World.block_lt_of_cell? w _ hx196_0)).trans hx196_0; replace hx196_1 := (HB.out.cell (World.block_lt_of_cell? w _ hx196_1)).trans hx196_1; replace hx196_0 := (cell_far (p := ⟨gb194, 0, none⟩) (by first | (rw [add_block]; exact hn196_0) | (show (Addr.add _ _).block ≠ _; rw [add_block]; exact hn196_0) | exact hn196_0) (.int .i64 ((rd_T44 (rd_L4 l0_0 x6_4) x7_5).f0))).trans hx196_0; replace hx196_1 := (cell_far (p := ⟨gb194, 0, none⟩) (by first | (rw [add_block]; exact hn196_0) | (show (Addr.add _ _).block ≠ _; rw [add_block]; exact hn196_0) | exact hn196_0) (.int .i64 ((rd_T44 (rd_L4 l0_0 x6_4) x7_5).f0))).trans hx196_1; replace hx196_0 := (cell_far (p := ⟨gb194, 1, none⟩) (by first | (rw [add_block]; exact hn196_1) | (show (Addr.add _ _).block ≠ _; rw [add_block]; exact hn196_1) | exact hn196_1) (.int .i64 ((rd_T44 (rd_L4 l0_0 x6_4) x7_5).f1))).trans hx196_0; replace hx196_1 := (cell_far (p := ⟨gb194, 1, none⟩) (by first | (rw [add_block]; exact hn196_1) | (show (Addr.add _ _).block ≠ _; rw [add_block]; exact hn196_1) | exact hn196_1) (.int .i64 ((rd_T44 (rd_L4 l0_0 x6_4) x7_5).f1))).trans hx196_1; (try have hy196_0 := fun (n_ : Nat) => (show ((((w50.drewN n_).setCell ⟨gb194, 0, none⟩ (.int .i64 ((rd_T44 (rd_L4 l0_0 x6_4) x7_5).f0))).setCell ⟨gb194, 1, none⟩ (.int .i64 ((rd_T44 (rd_L4 l0_0 x6_4) x7_5).f1)))).cell? _ = some _ from hx196_0)); (try have hy196_1 := fun (n_ : Nat) => (show ((((w50.drewN n_).setCell ⟨gb194, 0, none⟩ (.int .i64 ((rd_T44 (rd_L4 l0_0 x6_4) x7_5).f0))).setCell ⟨gb194, 1, none⟩ (.int .i64 ((rd_T44 (rd_L4 l0_0 x6_4) x7_5).f1)))).cell? _ = some _ from hx196_1)); clear hn196_0; clear hn196_1; replace p196 := eq_true p196; replace q196 := eq_true q196)); try go_wp2_with (first | ((with_reducible refine gate_dst (N := 8) rfl ?_); refine box_event ?hg (N := 8) ?hd (cs := #[.int .i64 0, .int .i64 0]) (t := 44) ?hr ?_; (case hd => rfl); (case hg => rfl); (case hr => first | (go_simp; done) | (go_simp; rfl)); intro gb194 hg w50 hbox hb; have n0_ := Aside0.mk (blk_below (g := gb189) (o := .cells #[.slice (some ad190) l0_0.length c0_0] 38 (0, 0)) (by (with_reducible repeat (first | refine blk_drewN ?_ _ | refine blk_drew ?_ | refine blk_alloc ?_ _)); exact BK189.out) hb); have n1_ := Aside0.mk (below_step (by repeat (first | (with_reducible first | exact HB.out | apply below_alloc | apply pw_below_drewN | apply below_drew1 | refine below_set ?_ GE189.out) | exact HB.out)) hb); have n2_ := Aside0.mk (hbox); have n3_ := Aside0.mk ((by rw [hg]; exact (below_size (by repeat (first | (with_reducible first | exact HB.out | apply below_alloc | apply pw_below_drewN | apply below_drew1 | refine below_set ?_ GE189.out) | exact HB.out))) : w.heap.size ≤ gb194)); have n4_ := Aside0.mk ((by rw [hg]; exact (below_size (by repeat (first | (with_reducible first | exact HB.out | apply below_alloc | apply pw_below_drewN | apply below_drew1 | refine below_set ?_ GE189.out) | exact HB.out))) : w.heap.size ≤ gb194)); have n5_ := Aside0.mk ((by rw [hg]; exact Nat.ne_of_lt (blk_lt (g := gb189) (o := .cells #[.slice (some ad190) l0_0.length c0_0] 38 (0, 0)) (by (with_reducible repeat (first | refine blk_drewN ?_ _ | refine blk_drew ?_ | refine blk_alloc ?_ _)); exact BK189.out)) : gb189 ≠ gb194)); have n6_ := Aside0.mk ((by rw [hg]; exact Nat.ne_of_gt (blk_lt (g := gb189) (o := .cells #[.slice (some ad190) l0_0.length c0_0] 38 (0, 0)) (by (with_reducible repeat (first | refine blk_drewN ?_ _ | refine blk_drew ?_ | refine blk_alloc ?_ _)); exact BK189.out)) : gb194 ≠ gb189)); clear BK189; clear HB; have BK189 := n0_; have HB := n1_; have BK194 := n2_; have GW194 := n3_; have GE194 := n4_; have NB189_194 := n5_; have NB194_189 := n6_; clear n0_ n1_ n2_ n3_ n4_ n5_ n6_; clear hb hbox hg; have hnb51 := NB194_189.out; have hnc51 := NB189_194.out; have hcz52_0 : w50.cell? ⟨gb194, 0, none⟩ = some (.int .i64 0) := (blk_cell BK194.out 0).trans rfl; have hcz52_1 : w50.cell? ⟨gb194, 1, none⟩ = some (.int .i64 0) := (blk_cell BK194.out 1).trans rfl; have hfz52_0 := blk_frozen BK194.out 0; have hfz52_1 := blk_frozen BK194.out 1; have hcz53_0 : w50.cell? ⟨gb189, 0, none⟩ = some (.slice (some ad190) l0_0.length c0_0) := (blk_cell BK189.out 0).trans rfl; have hfz53_0 := blk_frozen BK189.out 0; have p195 : 0 ≤ (((rd_T44 (rd_L4 l0_0 x6_4) x7_5).f0) : Int) := of_decide_eq_true (by first | (with_reducible assumption) | assumption); have q195 : ((rd_T44 (rd_L4 l0_0 x6_4) x7_5).f0) < (l0_0.length : Int) := of_decide_eq_true (by first | (with_reducible assumption) | assumption); obtain ⟨ad195, A195_0, c195_0, e195, hx195_0, hl195_0, hi195_0⟩ := at_L4 HR0_0.out ((rd_T44 (rd_L4 l0_0 x6_4) x7_5).f0) p195 q195; obtain rfl : ad190 = ad195 := (by injection e195); have hn195_0 : ad190.block ≠ gb194 := Nat.ne_of_lt (Nat.lt_of_lt_of_le (by have := World.block_lt_of_cell? _ _ hx195_0; first | rwa [add_block] at this | exact this) GW194.out); have hn195_1 : ad190.block ≠ gb194 := Nat.ne_of_lt (Nat.lt_of_lt_of_le (by have := World.block_lt_of_cell? _ _ hx195_0; first | rwa [add_block] at this | exact this) GW194.out); replace hx195_0 := (HB.out.cell (World.block_lt_of_cell? w _ hx195_0)).trans hx195_0; have HR195_0 := Aside0.mk hi195_0; have HC195_0 := Aside0.mk hl195_0; clear hi195_0 hl195_0; replace hx195_0 := (cell_far (p := ⟨gb194, 0, none⟩) (by first | (rw [add_block]; exact hn195_0) | (show (Addr.add _ _).block ≠ _; rw [add_block]; exact hn195_0) | exact hn195_0) (.int .i64 ((rd_T44 (rd_L4 l0_0 x6_4) x7_5).f0))).trans hx195_0; replace hx195_0 := (cell_far (p := ⟨gb194, 1, none⟩) (by first | (rw [add_block]; exact hn195_1) | (show (Addr.add _ _).block ≠ _; rw [add_block]; exact hn195_1) | exact hn195_1) (.int .i64 ((rd_T44 (rd_L4 l0_0 x6_4) x7_5).f1))).trans hx195_0; (try have hy195_0 := fun (n_ : Nat) => (show ((((w50.drewN n_).setCell ⟨gb194, 0, none⟩ (.int .i64 ((rd_T44 (rd_L4 l0_0 x6_4) x7_5).f0))).setCell ⟨gb194, 1, none⟩ (.int .i64 ((rd_T44 (rd_L4 l0_0 x6_4) x7_5).f1)))).cell? _ = some _ from hx195_0)); clear hn195_0; clear hn195_1; replace p195 := eq_true p195; replace q195 := eq_true q195; have p196 : 0 ≤ (((rd_T44 (rd_L4 l0_0 x6_4) x7_5).f1) : Int) := of_decide_eq_true (by first | (with_reducible assumption) | assumption); have q196 : ((rd_T44 (rd_L4 l0_0 x6_4) x7_5).f1) < ((rd_L4 l0_0 ((rd_T44 (rd_L4 l0_0 x6_4) x7_5).f0)).length : Int) := of_decide_eq_true (by first | (with_reducible assumption) | assumption); obtain ⟨ad196, e196, hx196_0, hx196_1⟩ := at_T44 HR195_0.out ((rd_T44 (rd_L4 l0_0 x6_4) x7_5).f1) p196 q196; cases e196; have hn196_0 : ad196.block ≠ gb194 := Nat.ne_of_lt (Nat.lt_of_lt_of_le (by have := World.block_lt_of_cell? _ _ hx196_0; first | rwa [add_block] at this | exact this) GW194.out); have hn196_1 : ad196.block ≠ gb194 := Nat.ne_of_lt (Nat.lt_of_lt_of_le (by have := World.block_lt_of_cell? _ _ hx196_0; first | rwa [add_block] at this | exact this) GW194.out); replace hx196_0 := (HB.out.cell (World.block_lt_of_cell? w _ hx196_0)).trans hx196_0; replace hx196_1 := (HB.out.cell (World.block_lt_of_cell? w _ hx196_1)).trans hx196_1; replace hx196_0 := (cell_far (p := ⟨gb194, 0, none⟩) (by first | (rw [add_block]; exact hn196_0) | (show (Addr.add _ _).block ≠ _; rw [add_block]; exact hn196_0) | exact hn196_0) (.int .i64 ((rd_T44 (rd_L4 l0_0 x6_4) x7_5).f0))).trans hx196_0; replace hx196_1 := (cell_far (p := ⟨gb194, 0, none⟩) (by first | (rw [add_block]; exact hn196_0) | (show (Addr.add _ _).block ≠ _; rw [add_block]; exact hn196_0) | exact hn196_0) (.int .i64 ((rd_T44 (rd_L4 l0_0 x6_4) x7_5).f0))).trans hx196_1; replace hx196_0 := (cell_far (p := ⟨gb194, 1, none⟩) (by first | (rw [add_block]; exact hn196_1) | (show (Addr.add _ _).block ≠ _; rw [add_block]; exact hn196_1) | exact hn196_1) (.int .i64 ((rd_T44 (rd_L4 l0_0 x6_4) x7_5).f1))).trans hx196_0; replace hx196_1 := (cell_far (p := ⟨gb194, 1, none⟩) (by first | (rw [add_block]; exact hn196_1) | (show (Addr.add _ _).block ≠ _; rw [add_block]; exact hn196_1) | exact hn196_1) (.int .i64 ((rd_T44 (rd_L4 l0_0 x6_4) x7_5).f1))).trans hx196_1; (try have hy196_0 := fun (n_ : Nat) => (show ((((w50.drewN n_).setCell ⟨gb194, 0, none⟩ (.int .i64 ((rd_T44 (rd_L4 l0_0 x6_4) x7_5).f0))).setCell ⟨gb194, 1, none⟩ (.int .i64 ((rd_T44 (rd_L4 l0_0 x6_4) x7_5).f1)))).cell? _ = some _ from hx196_0)); (try have hy196_1 := fun (n_ : Nat) => (show ((((w50.drewN n_).setCell ⟨gb194, 0, none⟩ (.int .i64 ((rd_T44 (rd_L4 l0_0 x6_4) x7_5).f0))).setCell ⟨gb194, 1, none⟩ (.int .i64 ((rd_T44 (rd_L4 l0_0 x6_4) x7_5).f1)))).cell? _ = some _ from hx196_1)); clear hn196_0; clear hn196_1; replace p196 := eq_true p196; replace q196 := eq_true q196)))
                              go_ret
                              exact ⟨by first | rfl | (simp [errW_none, errW_some] <;> rfl) | (simp [*, errW_none, errW_some] <;> rfl), by repeat (first | (with_reducible first | exact HB.out | apply below_alloc | apply pw_below_drewN | apply below_drew1 | refine below_set ?_ GE189.out | refine below_set ?_ GE194.out) | exact HB.out)⟩
                             ·rw [if_neg c48] at H
                              have c48b0 : (!(((rd_T44 (rd_L4 l0_0 ((rd_T44 (rd_L4 l0_0 x6_4) x7_5).f0)) ((rd_T44 (rd_L4 l0_0 x6_4) x7_5).f1)).f0) == x6_4) || (!(((rd_T44 (rd_L4 l0_0 ((rd_T44 (rd_L4 l0_0 x6_4) x7_5).f0)) ((rd_T44 (rd_L4 l0_0 x6_4) x7_5).f1)).f1) == x7_5))) = false := by simpa using c48
                              clear c48
                              have H' := Aside0.mk H
                              clear H
                              have hcz54_0 : wr.cell? ⟨gb189, 0, none⟩ = some (.slice (some ad190) l0_0.length c0_0) := (blk_cell BK189.out 0).trans rfl
                              have hfz54_0 := blk_frozen BK189.out 0
                              have p192 : 0 ≤ (x6_4 : Int) := of_decide_eq_true (by first | (with_reducible assumption) | assumption)
                              have q192 : x6_4 < (l0_0.length : Int) := of_decide_eq_true (by first | (with_reducible assumption) | assumption)
                              obtain ⟨ad192, A192_0, c192_0, e192, hx192_0, hl192_0, hi192_0⟩ := at_L4 HR0_0.out x6_4 p192 q192
                              obtain rfl : ad190 = ad192 := (by injection e192)
                              replace hx192_0 := (HB.out.cell (World.block_lt_of_cell? w _ hx192_0)).trans hx192_0
                              have HR192_0 := Aside0.mk hi192_0
                              have HC192_0 := Aside0.mk hl192_0
                              clear hi192_0 hl192_0
                              replace p192 := eq_true p192
                              replace q192 := eq_true q192
                              have p193 : 0 ≤ (x7_5 : Int) := of_decide_eq_true (by first | (with_reducible assumption) | assumption)
                              have q193 : x7_5 < ((rd_L4 l0_0 x6_4).length : Int) := of_decide_eq_true (by first | (with_reducible assumption) | assumption)
                              obtain ⟨ad193, e193, hx193_0, hx193_1⟩ := at_T44 HR192_0.out x7_5 p193 q193
                              cases e193
                              replace hx193_0 := (HB.out.cell (World.block_lt_of_cell? w _ hx193_0)).trans hx193_0
                              replace hx193_1 := (HB.out.cell (World.block_lt_of_cell? w _ hx193_1)).trans hx193_1
                              replace p193 := eq_true p193
                              replace q193 := eq_true q193
                              go_wp2_with (first | ((with_reducible refine gate_dst (N := 8) rfl ?_); refine box_event ?hg (N := 8) ?hd (cs := #[.int .i64 0, .int .i64 0]) (t := 44) ?hr ?_; (case hd => rfl); (case hg => rfl); (case hr => first | (go_simp; done) | (go_simp; rfl)); intro gb194 hg w55 hbox hb; have n0_ := Aside0.mk (blk_below (g := gb189) (o := .cells #[.slice (some ad190) l0_0.length c0_0] 38 (0, 0)) (by (with_reducible repeat (first | refine blk_drewN ?_ _ | refine blk_drew ?_ | refine blk_alloc ?_ _)); exact BK189.out) hb); have n1_ := Aside0.mk (below_step (by repeat (first | (with_reducible first | exact HB.out | apply below_alloc | apply pw_below_drewN | apply below_drew1 | refine below_set ?_ GE189.out) | exact HB.out)) hb); have n2_ := Aside0.mk (hbox); have n3_ := Aside0.mk ((by rw [hg]; exact (below_size (by repeat (first | (with_reducible first | exact HB.out | apply below_alloc | apply pw_below_drewN | apply below_drew1 | refine below_set ?_ GE189.out) | exact HB.out))) : w.heap.size ≤ gb194)); have n4_ := Aside0.mk ((by rw [hg]; exact (below_size (by repeat (first | (with_reducible first | exact HB.out | apply below_alloc | apply pw_below_drewN | apply below_drew1 | refine below_set ?_ GE189.out) | exact HB.out))) : w.heap.size ≤ gb194)); have n5_ := Aside0.mk ((by rw [hg]; exact Nat.ne_of_lt (blk_lt (g := gb189) (o := .cells #[.slice (some ad190) l0_0.length c0_0] 38 (0, 0)) (by (with_reducible repeat (first | refine blk_drewN ?_ _ | refine blk_drew ?_ | refine blk_alloc ?_ _)); exact BK189.out)) : gb189 ≠ gb194)); have n6_ := Aside0.mk ((by rw [hg]; exact Nat.ne_of_gt (blk_lt (g := gb189) (o := .cells #[.slice (some ad190) l0_0.length c0_0] 38 (0, 0)) (by (with_reducible repeat (first | refine blk_drewN ?_ _ | refine blk_drew ?_ | refine blk_alloc ?_ _)); exact BK189.out)) : gb194 ≠ gb189)); clear BK189; clear HB; have BK189 := n0_; have HB := n1_; have BK194 := n2_; have GW194 := n3_; have GE194 := n4_; have NB189_194 := n5_; have NB194_189 := n6_; clear n0_ n1_ n2_ n3_ n4_ n5_ n6_; clear hb hbox hg; have hnb56 := NB194_189.out; have hnc56 := NB189_194.out; have hcz57_0 : w55.cell? ⟨gb194, 0, none⟩ = some (.int .i64 0) := (blk_cell BK194.out 0).trans rfl; have hcz57_1 : w55.cell? ⟨gb194, 1, none⟩ = some (.int .i64 0) := (blk_cell BK194.out 1).trans rfl; have hfz57_0 := blk_frozen BK194.out 0; have hfz57_1 := blk_frozen BK194.out 1; have hcz58_0 : w55.cell? ⟨gb189, 0, none⟩ = some (.slice (some ad190) l0_0.length c0_0) := (blk_cell BK189.out 0).trans rfl; have hfz58_0 := blk_frozen BK189.out 0; have p195 : 0 ≤ (((rd_T44 (rd_L4 l0_0 x6_4) x7_5).f0) : Int) := of_decide_eq_true (by first | (with_reducible assumption) | assumption); have q195 : ((rd_T44 (rd_L4 l0_0 x6_4) x7_5).f0) < (l0_0.length : Int) := of_decide_eq_true (by first | (with_reducible assumption) | assumption); obtain ⟨ad195, A195_0, c195_0, e195, hx195_0, hl195_0, hi195_0⟩ := at_L4 HR0_0.out ((rd_T44 (rd_L4 l0_0 x6_4) x7_5).f0) p195 q195; obtain rfl : ad190 = ad195 := (by injection e195); have hn195_0 : ad190.block ≠ gb194 := Nat.ne_of_lt (Nat.lt_of_lt_of_le (by have := World.block_lt_of_cell? _ _ hx195_0; first | rwa [add_block] at this | exact this) GW194.out); have hn195_1 : ad190.block ≠ gb194 := Nat.ne_of_lt (Nat.lt_of_lt_of_le (by have := World.block_lt_of_cell? _ _ hx195_0; first | rwa [add_block] at this | exact this) GW194.out); replace hx195_0 := (HB.out.cell (World.block_lt_of_cell? w _ hx195_0)).trans hx195_0; have HR195_0 := Aside0.mk hi195_0; have HC195_0 := Aside0.mk hl195_0; clear hi195_0 hl195_0; replace hx195_0 := (cell_far (p := ⟨gb194, 0, none⟩) (by first | (rw [add_block]; exact hn195_0) | (show (Addr.add _ _).block ≠ _; rw [add_block]; exact hn195_0) | exact hn195_0) (.int .i64 ((rd_T44 (rd_L4 l0_0 x6_4) x7_5).f0))).trans hx195_0; replace hx195_0 := (cell_far (p := ⟨gb194, 1, none⟩) (by first | (rw [add_block]; exact hn195_1) | (show (Addr.add _ _).block ≠ _; rw [add_block]; exact hn195_1) | exact hn195_1) (.int .i64 ((rd_T44 (rd_L4 l0_0 x6_4) x7_5).f1))).trans hx195_0; (try have hy195_0 := fun (n_ : Nat) => (show ((((w55.drewN n_).setCell ⟨gb194, 0, none⟩ (.int .i64 ((rd_T44 (rd_L4 l0_0 x6_4) x7_5).f0))).setCell ⟨gb194, 1, none⟩ (.int .i64 ((rd_T44 (rd_L4 l0_0 x6_4) x7_5).f1)))).cell? _ = some _ from hx195_0)); clear hn195_0; clear hn195_1; replace p195 := eq_true p195; replace q195 := eq_true q195; have p196 : 0 ≤ (((rd_T44 (rd_L4 l0_0 x6_4) x7_5).f1) : Int) := of_decide_eq_true (by first | (with_reducible assumption) | assumption); have q196 : ((rd_T44 (rd_L4 l0_0 x6_4) x7_5).f1) < ((rd_L4 l0_0 ((rd_T44 (rd_L4 l0_0 x6_4) x7_5).f0)).length : Int) := of_decide_eq_true (by first | (with_reducible assumption) | assumption); obtain ⟨ad196, e196, hx196_0, hx196_1⟩ := at_T44 HR195_0.out ((rd_T44 (rd_L4 l0_0 x6_4) x7_5).f1) p196 q196; cases e196; have hn196_0 : ad196.block ≠ gb194 := Nat.ne_of_lt (Nat.lt_of_lt_of_le (by have := World.block_lt_of_cell? _ _ hx196_0; first | rwa [add_block] at this | exact this) GW194.out); have hn196_1 : ad196.block ≠ gb194 := Nat.ne_of_lt (Nat.lt_of_lt_of_le (by have := World.block_lt_of_cell? _ _ hx196_0; first | rwa [add_block] at this | exact this) GW194.out); replace hx196_0 := (HB.out.cell (World.block_lt_of_cell? w _ hx196_0)).trans hx196_0; replace hx196_1 := (HB.out.cell (World.block_lt_of_cell? w _ hx196_1)).trans hx196_1; replace hx196_0 := (cell_far (p := ⟨gb194, 0, none⟩) (by first | (rw [add_block]; exact hn196_0) | (show (Addr.add _ _).block ≠ _; rw [add_block]; exact hn196_0) | exact hn196_0) (.int .i64 ((rd_T44 (rd_L4 l0_0 x6_4) x7_5).f0))).trans hx196_0; replace hx196_1 := (cell_far (p := ⟨gb194, 0, none⟩) (by first | (rw [add_block]; exact hn196_0) | (show (Addr.add _ _).block ≠ _; rw [add_block]; exact hn196_0) | exact hn196_0) (.int .i64 ((rd_T44 (rd_L4 l0_0 x6_4) x7_5).f0))).trans hx196_1; replace hx196_0 := (cell_far (p := ⟨gb194, 1, none⟩) (by first | (rw [add_block]; exact hn196_1) | (show (Addr.add _ _).block ≠ _; rw [add_block]; exact hn196_1) | exact hn196_1) (.int .i64 ((rd_T44 (rd_L4 l0_0 x6_4) x7_5).f1))).trans hx196_0; replace hx196_1 := (cell_far (p := ⟨gb194, 1, none⟩) (by first | (rw [add_block]; exact hn196_1) | (show (Addr.add _ _).block ≠ _; rw [add_block]; exact hn196_1) | exact hn196_1) (.int .i64 ((rd_T44 (rd_L4 l0_0 x6_4) x7_5).f1))).trans hx196_1; (try have hy196_0 := fun (n_ : Nat) => (show ((((w55.drewN n_).setCell ⟨gb194, 0, none⟩ (.int .i64 ((rd_T44 (rd_L4 l0_0 x6_4) x7_5).f0))).setCell ⟨gb194, 1, none⟩ (.int .i64 ((rd_T44 (rd_L4 l0_0 x6_4) x7_5).f1)))).cell? _ = some _ from hx196_0)); (try have hy196_1 := fun (n_ : Nat) => (show ((((w55.drewN n_).setCell ⟨gb194, 0, none⟩ (.int .i64 ((rd_T44 (rd_L4 l0_0 x6_4) x7_5).f0))).setCell ⟨gb194, 1, none⟩ (.int .i64 ((rd_T44 (rd_L4 l0_0 x6_4) x7_5).f1)))).cell? _ = some _ from hx196_1)); clear hn196_0; clear hn196_1; replace p196 := eq_true p196; replace q196 := eq_true q196))
                              repeat (go_quiet (first | ((with_reducible refine gate_dst (N := 8) rfl ?_); refine box_event ?hg (N := 8) ?hd (cs := #[.int .i64 0, .int .i64 0]) (t := 44) ?hr ?_; (case hd => rfl); (case hg => rfl); (case hr => first | (go_simp; done) | (go_simp; rfl)); intro gb194 hg w55 hbox hb; have n0_ := Aside0.mk (blk_below (g := gb189) (o := .cells #[.slice (some ad190) l0_0.length c0_0] 38 (0, 0)) (by (with_reducible repeat (first | refine blk_drewN ?_ _ | refine blk_drew ?_ | refine blk_alloc ?_ _)); exact BK189.out) hb); have n1_ := Aside0.mk (below_step (by repeat (first | (with_reducible first | exact HB.out | apply below_alloc | apply pw_below_drewN | apply below_drew1 | refine below_set ?_ GE189.out) | exact HB.out)) hb); have n2_ := Aside0.mk (hbox); have n3_ := Aside0.mk ((by rw [hg]; exact (below_size (by repeat (first | (with_reducible first | exact HB.out | apply below_alloc | apply pw_below_drewN | apply below_drew1 | refine below_set ?_ GE189.out) | exact HB.out))) : w.heap.size ≤ gb194)); have n4_ := Aside0.mk ((by rw [hg]; exact (below_size (by repeat (first | (with_reducible first | exact HB.out | apply below_alloc | apply pw_below_drewN | apply below_drew1 | refine below_set ?_ GE189.out) | exact HB.out))) : w.heap.size ≤ gb194)); have n5_ := Aside0.mk ((by rw [hg]; exact Nat.ne_of_lt (blk_lt (g := gb189) (o := .cells #[.slice (some ad190) l0_0.length c0_0] 38 (0, 0)) (by (with_reducible repeat (first | refine blk_drewN ?_ _ | refine blk_drew ?_ | refine blk_alloc ?_ _)); exact BK189.out)) : gb189 ≠ gb194)); have n6_ := Aside0.mk ((by rw [hg]; exact Nat.ne_of_gt (blk_lt (g := gb189) (o := .cells #[.slice (some ad190) l0_0.length c0_0] 38 (0, 0)) (by (with_reducible repeat (first | refine blk_drewN ?_ _ | refine blk_drew ?_ | refine blk_alloc ?_ _)); exact BK189.out)) : gb194 ≠ gb189)); clear BK189; clear HB; have BK189 := n0_; have HB := n1_; have BK194 := n2_; have GW194 := n3_; have GE194 := n4_; have NB189_194 := n5_; have NB194_189 := n6_; clear n0_ n1_ n2_ n3_ n4_ n5_ n6_; clear hb hbox hg; have hnb56 := NB194_189.out; have hnc56 := NB189_194.out; have hcz57_0 : w55.cell? ⟨gb194, 0, none⟩ = some (.int .i64 0) := (blk_cell BK194.out 0).trans rfl; have hcz57_1 : w55.cell? ⟨gb194, 1, none⟩ = some (.int .i64 0) := (blk_cell BK194.out 1).trans rfl; have hfz57_0 := blk_frozen BK194.out 0; have hfz57_1 := blk_frozen BK194.out 1; have hcz58_0 : w55.cell? ⟨gb189, 0, none⟩ = some (.slice (some ad190) l0_0.length c0_0) := (blk_cell BK189.out 0).trans rfl; have hfz58_0 := blk_frozen BK189.out 0; have p195 : 0 ≤ (((rd_T44 (rd_L4 l0_0 x6_4) x7_5).f0) : Int) := of_decide_eq_true (by first | (with_reducible assumption) | assumption); have q195 : ((rd_T44 (rd_L4 l0_0 x6_4) x7_5).f0) < (l0_0.length : Int) := of_decide_eq_true (by first | (with_reducible assumption) | assumption); obtain ⟨ad195, A195_0, c195_0, e195, hx195_0, hl195_0, hi195_0⟩ := at_L4 HR0_0.out ((rd_T44 (rd_L4 l0_0 x6_4) x7_5).f0) p195 q195; obtain rfl : ad190 = ad195 := (by injection e195); have hn195_0 : ad190.block ≠ gb194 := Nat.ne_of_lt (Nat.lt_of_lt_of_le (by have := World.block_lt_of_cell? _ _ hx195_0; first | rwa [add_block] at this | exact this) GW194.out); have hn195_1 : ad190.block ≠ gb194 := Nat.ne_of_lt (Nat.lt_of_lt_of_le (by have := World.block_lt_of_cell? _ _ hx195_0; first | rwa [add_block] at this | exact this) GW194.out); replace hx195_0 := (HB.out.cell (World.block_lt_of_cell? w _ hx195_0)).trans hx195_0; have HR195_0 := Aside0.mk hi195_0; have HC195_0 := Aside0.mk hl195_0; clear hi195_0 hl195_0; replace hx195_0 := (cell_far (p := ⟨gb194, 0, none⟩) (by first | (rw [add_block]; exact hn195_0) | (show (Addr.add _ _).block ≠ _; rw [add_block]; exact hn195_0) | exact hn195_0) (.int .i64 ((rd_T44 (rd_L4 l0_0 x6_4) x7_5).f0))).trans hx195_0; replace hx195_0 := (cell_far (p := ⟨gb194, 1, none⟩) (by first | (rw [add_block]; exact hn195_1) | (show (Addr.add _ _).block ≠ _; rw [add_block]; exact hn195_1) | exact hn195_1) (.int .i64 ((rd_T44 (rd_L4 l0_0 x6_4) x7_5).f1))).trans hx195_0; (try have hy195_0 := fun (n_ : Nat) => (show ((((w55.drewN n_).setCell ⟨gb194, 0, none⟩ (.int .i64 ((rd_T44 (rd_L4 l0_0 x6_4) x7_5).f0))).setCell ⟨gb194, 1, none⟩ (.int .i64 ((rd_T44 (rd_L4 l0_0 x6_4) x7_5).f1)))).cell? _ = some _ from hx195_0)); clear hn195_0; clear hn195_1; replace p195 := eq_true p195; replace q195 := eq_true q195; have p196 : 0 ≤ (((rd_T44 (rd_L4 l0_0 x6_4) x7_5).f1) : Int) := of_decide_eq_true (by first | (with_reducible assumption) | assumption); have q196 : ((rd_T44 (rd_L4 l0_0 x6_4) x7_5).f1) < ((rd_L4 l0_0 ((rd_T44 (rd_L4 l0_0 x6_4) x7_5).f0)).length : Int) := of_decide_eq_true (by first | (with_reducible assumption) | assumption); obtain ⟨ad196, e196, hx196_0, hx196_1⟩ := at_T44 HR195_0.out ((rd_T44 (rd_L4 l0_0 x6_4) x7_5).f1) p196 q196; cases e196; have hn196_0 : ad196.block ≠ gb194 := Nat.ne_of_lt (Nat.lt_of_lt_of_le (by have := World.block_lt_of_cell? _ _ hx196_0; first | rwa [add_block] at this | exact this) GW194.out); have hn196_1 : ad196.block ≠ gb194 := Nat.ne_of_lt (Nat.lt_of_lt_of_le (by have := World.block_lt_of_cell? _ _ hx196_0; first | rwa [add_block] at this | exact this) GW194.out); replace hx196_0 := (HB.out.cell (World.block_lt_of_cell? w _ hx196_0)).trans hx196_0; replace hx196_1 := (HB.out.cell (World.block_lt_of_cell? w _ hx196_1)).trans hx196_1; replace hx196_0 := (cell_far (p := ⟨gb194, 0, none⟩) (by first | (rw [add_block]; exact hn196_0) | (show (Addr.add _ _).block ≠ _; rw [add_block]; exact hn196_0) | exact hn196_0) (.int .i64 ((rd_T44 (rd_L4 l0_0 x6_4) x7_5).f0))).trans hx196_0; replace hx196_1 := (cell_far (p := ⟨gb194, 0, none⟩) (by first | (rw [add_block]; exact hn196_0) | (show (Addr.add _ _).block ≠ _; rw [add_block]; exact hn196_0) | exact hn196_0) (.int .i64 ((rd_T44 (rd_L4 l0_0 x6_4) x7_5).f0))).trans hx196_1; replace hx196_0 := (cell_far (p := ⟨gb194, 1, none⟩) (by first | (rw [add_block]; exact hn196_1) | (show (Addr.add _ _).block ≠ _; rw [add_block]; exact hn196_1) | exact hn196_1) (.int .i64 ((rd_T44 (rd_L4 l0_0 x6_4) x7_5).f1))).trans hx196_0; replace hx196_1 := (cell_far (p := ⟨gb194, 1, none⟩) (by first | (rw [add_block]; exact hn196_1) | (show (Addr.add _ _).block ≠ _; rw [add_block]; exact hn196_1) | exact hn196_1) (.int .i64 ((rd_T44 (rd_L4 l0_0 x6_4) x7_5).f1))).trans hx196_1; (try have hy196_0 := fun (n_ : Nat) => (show ((((w55.drewN n_).setCell ⟨gb194, 0, none⟩ (.int .i64 ((rd_T44 (rd_L4 l0_0 x6_4) x7_5).f0))).setCell ⟨gb194, 1, none⟩ (.int .i64 ((rd_T44 (rd_L4 l0_0 x6_4) x7_5).f1)))).cell? _ = some _ from hx196_0)); (try have hy196_1 := fun (n_ : Nat) => (show ((((w55.drewN n_).setCell ⟨gb194, 0, none⟩ (.int .i64 ((rd_T44 (rd_L4 l0_0 x6_4) x7_5).f0))).setCell ⟨gb194, 1, none⟩ (.int .i64 ((rd_T44 (rd_L4 l0_0 x6_4) x7_5).f1)))).cell? _ = some _ from hx196_1)); clear hn196_0; clear hn196_1; replace p196 := eq_true p196; replace q196 := eq_true q196)); try go_wp2_with (first | ((with_reducible refine gate_dst (N := 8) rfl ?_); refine box_event ?hg (N := 8) ?hd (cs := #[.int .i64 0, .int .i64 0]) (t := 44) ?hr ?_; (case hd => rfl); (case hg => rfl); (case hr => first | (go_simp; done) | (go_simp; rfl)); intro gb194 hg w55 hbox hb; have n0_ := Aside0.mk (blk_below (g := gb189) (o := .cells #[.slice (some ad190) l0_0.length c0_0] 38 (0, 0)) (by (with_reducible repeat (first | refine blk_drewN ?_ _ | refine blk_drew ?_ | refine blk_alloc ?_ _)); exact BK189.out) hb); have n1_ := Aside0.mk (below_step (by repeat (first | (with_reducible first | exact HB.out | apply below_alloc | apply pw_below_drewN | apply below_drew1 | refine below_set ?_ GE189.out) | exact HB.out)) hb); have n2_ := Aside0.mk (hbox); have n3_ := Aside0.mk ((by rw [hg]; exact (below_size (by repeat (first | (with_reducible first | exact HB.out | apply below_alloc | apply pw_below_drewN | apply below_drew1 | refine below_set ?_ GE189.out) | exact HB.out))) : w.heap.size ≤ gb194)); have n4_ := Aside0.mk ((by rw [hg]; exact (below_size (by repeat (first | (with_reducible first | exact HB.out | apply below_alloc | apply pw_below_drewN | apply below_drew1 | refine below_set ?_ GE189.out) | exact HB.out))) : w.heap.size ≤ gb194)); have n5_ := Aside0.mk ((by rw [hg]; exact Nat.ne_of_lt (blk_lt (g := gb189) (o := .cells #[.slice (some ad190) l0_0.length c0_0] 38 (0, 0)) (by (with_reducible repeat (first | refine blk_drewN ?_ _ | refine blk_drew ?_ | refine blk_alloc ?_ _)); exact BK189.out)) : gb189 ≠ gb194)); have n6_ := Aside0.mk ((by rw [hg]; exact Nat.ne_of_gt (blk_lt (g := gb189) (o := .cells #[.slice (some ad190) l0_0.length c0_0] 38 (0, 0)) (by (with_reducible repeat (first | refine blk_drewN ?_ _ | refine blk_drew ?_ | refine blk_alloc ?_ _)); exact BK189.out)) : gb194 ≠ gb189)); clear BK189; clear HB; have BK189 := n0_; have HB := n1_; have BK194 := n2_; have GW194 := n3_; have GE194 := n4_; have NB189_194 := n5_; have NB194_189 := n6_; clear n0_ n1_ n2_ n3_ n4_ n5_ n6_; clear hb hbox hg; have hnb56 := NB194_189.out; have hnc56 := NB189_194.out; have hcz57_0 : w55.cell? ⟨gb194, 0, none⟩ = some (.int .i64 0) := (blk_cell BK194.out 0).trans rfl; have hcz57_1 : w55.cell? ⟨gb194, 1, none⟩ = some (.int .i64 0) := (blk_cell BK194.out 1).trans rfl; have hfz57_0 := blk_frozen BK194.out 0; have hfz57_1 := blk_frozen BK194.out 1; have hcz58_0 : w55.cell? ⟨gb189, 0, none⟩ = some (.slice (some ad190) l0_0.length c0_0) := (blk_cell BK189.out 0).trans rfl; have hfz58_0 := blk_frozen BK189.out 0; have p195 : 0 ≤ (((rd_T44 (rd_L4 l0_0 x6_4) x7_5).f0) : Int) := of_decide_eq_true (by first | (with_reducible assumption) | assumption); have q195 : ((rd_T44 (rd_L4 l0_0 x6_4) x7_5).f0) < (l0_0.length : Int) := of_decide_eq_true (by first | (with_reducible assumption) | assumption); obtain ⟨ad195, A195_0, c195_0, e195, hx195_0, hl195_0, hi195_0⟩ := at_L4 HR0_0.out ((rd_T44 (rd_L4 l0_0 x6_4) x7_5).f0) p195 q195; obtain rfl : ad190 = ad195 := (by injection e195); have hn195_0 : ad190.block ≠ gb194 := Nat.ne_of_lt (Nat.lt_of_lt_of_le (by have := World.block_lt_of_cell? _ _ hx195_0; first | rwa [add_block] at this | exact this) GW194.out); have hn195_1 : ad190.block ≠ gb194 := Nat.ne_of_lt (Nat.lt_of_lt_of_le (by have := World.block_lt_of_cell? _ _ hx195_0; first | rwa [add_block] at this | exact this) GW194.out); replace hx195_0 := (HB.out.cell (World.block_lt_of_cell? w _ hx195_0)).trans hx195_0; have HR195_0 := Aside0.mk hi195_0; have HC195_0 := Aside0.mk hl195_0; clear hi195_0 hl195_0; replace hx195_0 := (cell_far (p := ⟨gb194, 0, none⟩) (by first | (rw [add_block]; exact hn195_0) | (show (Addr.add _ _).block ≠ _; rw [add_block]; exact hn195_0) | exact hn195_0) (.int .i64 ((rd_T44 (rd_L4 l0_0 x6_4) x7_5).f0))).trans hx195_0; replace hx195_0 := (cell_far (p := ⟨gb194, 1, none⟩) (by first | (rw [add_block]; exact hn195_1) | (show (Addr.add _ _).block ≠ _; rw [add_block]; exact hn195_1) | exact hn195_1) (.int .i64 ((rd_T44 (rd_L4 l0_0 x6_4) x7_5).f1))).trans hx195_0; (try have hy195_0 := fun (n_ : Nat) => (show ((((w55.drewN n_).setCell ⟨gb194, 0, none⟩ (.int .i64 ((rd_T44 (rd_L4 l0_0 x6_4) x7_5).f0))).setCell ⟨gb194, 1, none⟩ (.int .i64 ((rd_T44 (rd_L4 l0_0 x6_4) x7_5).f1)))).cell? _ = some _ from hx195_0)); clear hn195_0; clear hn195_1; replace p195 := eq_true p195; replace q195 := eq_true q195; have p196 : 0 ≤ (((rd_T44 (rd_L4 l0_0 x6_4) x7_5).f1) : Int) := of_decide_eq_true (by first | (with_reducible assumption) | assumption); have q196 : ((rd_T44 (rd_L4 l0_0 x6_4) x7_5).f1) < ((rd_L4 l0_0 ((rd_T44 (rd_L4 l0_0 x6_4) x7_5).f0)).length : Int) := of_decide_eq_true (by first | (with_reducible assumption) | assumption); obtain ⟨ad196, e196, hx196_0, hx196_1⟩ := at_T44 HR195_0.out ((rd_T44 (rd_L4 l0_0 x6_4) x7_5).f1) p196 q196; cases e196; have hn196_0 : ad196.block ≠ gb194 := Nat.ne_of_lt (Nat.lt_of_lt_of_le (by have := World.block_lt_of_cell? _ _ hx196_0; first | rwa [add_block] at this | exact this) GW194.out); have hn196_1 : ad196.block ≠ gb194 := Nat.ne_of_lt (Nat.lt_of_lt_of_le (by have := World.block_lt_of_cell? _ _ hx196_0; first | rwa [add_block] at this | exact this) GW194.out); replace hx196_0 := (HB.out.cell (World.block_lt_of_cell? w _ hx196_0)).trans hx196_0; replace hx196_1 := (HB.out.cell (World.block_lt_of_cell? w _ hx196_1)).trans hx196_1; replace hx196_0 := (cell_far (p := ⟨gb194, 0, none⟩) (by first | (rw [add_block]; exact hn196_0) | (show (Addr.add _ _).block ≠ _; rw [add_block]; exact hn196_0) | exact hn196_0) (.int .i64 ((rd_T44 (rd_L4 l0_0 x6_4) x7_5).f0))).trans hx196_0; replace hx196_1 := (cell_far (p := ⟨gb194, 0, none⟩) (by first | (rw [add_block]; exact hn196_0) | (show (Addr.add _ _).block ≠ _; rw [add_block]; exact hn196_0) | exact hn196_0) (.int .i64 ((rd_T44 (rd_L4 l0_0 x6_4) x7_5).f0))).trans hx196_1; replace hx196_0 := (cell_far (p := ⟨gb194, 1, none⟩) (by first | (rw [add_block]; exact hn196_1) | (show (Addr.add _ _).block ≠ _; rw [add_block]; exact hn196_1) | exact hn196_1) (.int .i64 ((rd_T44 (rd_L4 l0_0 x6_4) x7_5).f1))).trans hx196_0; replace hx196_1 := (cell_far (p := ⟨gb194, 1, none⟩) (by first | (rw [add_block]; exact hn196_1) | (show (Addr.add _ _).block ≠ _; rw [add_block]; exact hn196_1) | exact hn196_1) (.int .i64 ((rd_T44 (rd_L4 l0_0 x6_4) x7_5).f1))).trans hx196_1; (try have hy196_0 := fun (n_ : Nat) => (show ((((w55.drewN n_).setCell ⟨gb194, 0, none⟩ (.int .i64 ((rd_T44 (rd_L4 l0_0 x6_4) x7_5).f0))).setCell ⟨gb194, 1, none⟩ (.int .i64 ((rd_T44 (rd_L4 l0_0 x6_4) x7_5).f1)))).cell? _ = some _ from hx196_0)); (try have hy196_1 := fun (n_ : Nat) => (show ((((w55.drewN n_).setCell ⟨gb194, 0, none⟩ (.int .i64 ((rd_T44 (rd_L4 l0_0 x6_4) x7_5).f0))).setCell ⟨gb194, 1, none⟩ (.int .i64 ((rd_T44 (rd_L4 l0_0 x6_4) x7_5).f1)))).cell? _ = some _ from hx196_1)); clear hn196_0; clear hn196_1; replace p196 := eq_true p196; replace q196 := eq_true q196)))
                              go_roundg k5
                              case measure => have := HJ1.out; have := HJ7.out; have := HK3.out; have := HK4.out; have := HK5.out; omega
                              case rel => exact ⟨(wrap64 (x7_5 + 1)), (by first | rfl | (simp; done) | (simp [*]; done)), H', ⟨by have := HJ1.out; have := HJ7.out; have := HK3.out; have := HK4.out; have := HK5.out; omega⟩, ⟨by (with_reducible repeat (first | refine blk_drewN ?_ _ | refine blk_drew ?_ | refine blk_alloc ?_ _)); refine blk_far ?_ NB189_194.out _; (with_reducible repeat (first | refine blk_drewN ?_ _ | refine blk_drew ?_ | refine blk_alloc ?_ _)); refine blk_far ?_ NB189_194.out _; (with_reducible repeat (first | refine blk_drewN ?_ _ | refine blk_drew ?_ | refine blk_alloc ?_ _)); exact BK189.out⟩, ⟨by repeat (first | (with_reducible first | exact HB.out | apply below_alloc | apply pw_below_drewN | apply below_drew1 | refine below_set ?_ GE189.out | refine below_set ?_ GE194.out) | exact HB.out)⟩⟩
                            ·rw [if_neg c47] at H
                             exact absurd H (by simp)
                           ·rw [if_neg c46] at H
                            exact absurd H (by simp)
                          ·rw [if_neg c45] at H
                           exact absurd H (by simp)
                         ·rw [if_neg c44] at H
                          exact absurd H (by simp)
                    ·rw [if_neg c23] at H
                     exact absurd H (by simp)
                   ·rw [if_neg c22] at H
                    exact absurd H (by simp)
                  ·rw [if_neg c21] at H
                   exact absurd H (by simp)
                 ·rw [if_neg c20] at H
                  exact absurd H (by simp)
                ·rw [if_neg c19] at H
                 have c19b0 : decide (x7_5 < ((rd_L4 l0_0 0).length : Int)) = false := decide_eq_false c19
                 clear c19
                 have H' := Aside0.mk H
                 clear H
                 go_wp2
                 repeat (go_quiet (fail); try go_wp2)
                 go_roundg k5
                 case measure => have := HJ1.out; have := HJ7.out; have := HK3.out; have := HK4.out; have := HK5.out; omega
                 case rel => exact ⟨(wrap64 (x6_4 + 1)), (by first | rfl | (simp; done) | (simp [*]; done)), H', ⟨by have := HJ1.out; have := HJ7.out; have := HK3.out; have := HK4.out; have := HK5.out; omega⟩, ⟨by (with_reducible repeat (first | refine blk_drewN ?_ _ | refine blk_drew ?_ | refine blk_alloc ?_ _)); exact BK189.out⟩, ⟨by repeat (first | (with_reducible first | exact HB.out | apply below_alloc | apply pw_below_drewN | apply below_drew1 | refine below_set ?_ GE189.out) | exact HB.out)⟩⟩
             ·rw [if_neg c18] at H
              have c18b0 : decide (x6_4 < (l0_0.length : Int)) = false := decide_eq_false c18
              clear c18
              obtain rfl := Option.some.inj H
              go_wp2
              repeat (go_quiet (fail); try go_wp2)
              go_ret
              exact ⟨by first | rfl | (simp [errW_none, errW_some] <;> rfl) | (simp [*, errW_none, errW_some] <;> rfl), by repeat (first | (with_reducible first | exact HB.out | apply below_alloc | apply pw_below_drewN | apply below_drew1 | refine below_set ?_ GE189.out) | exact HB.out)⟩
    ·rw [if_neg c7] at H
     exact absurd H (by simp)

end Go.Proofs.Ytgbjbgdnldklpaa.Q
end
/-! Part XMValid -/
section
namespace Go.Proofs.Ytgbjbgdnldklpaa.Q
open Go.RowKit Go.Proofs.YtgbjbgdnldklpaaW.PrintWords Go.Proofs.YtgbjbgdnldklpaaW.PrintLast Go.Proofs.YtgbjbgdnldklpaaW.PrintMore
attribute [local go_sem high] eqA44
set_option linter.unusedVariables false
set_option linter.unusedSimpArgs false
/-! ### maze.Valid -/
def lenB (k : Int) (row : List S44) : Bool := (row.length : Int) != k
set_option maxHeartbeats 400000 in
theorem mvalid1_calls (k : Int) (K : Nat) (A : Option Addr) (c : Nat) (row : List S44) (w : World) (hk : w.cell? ⟨K, 0, none⟩ = some (.int .i64 k)) :
  Calls Try.prog 44 #[.slice A row.length c, .pointer (some ⟨K, 0, none⟩)] w fun e w' => e = .returned (.bool (lenB k row)) ∧ w = w' := by
 go_enter Try.func44, Try.ntmps44
 go_wp2
 go_ret
 exact ⟨rfl, rfl⟩
set_option maxRecDepth 100000 in
set_option maxHeartbeats 400000 in
theorem index3_calls (F : Nat) (caps : Array Value) (p : List S44 → Bool) (A : Option Addr) (c : Nat) (l : List (List S44)) (w : World)
  (hr : Kd.C (Kd.slice 44 k44) w A l.length l) (hc : l.length ≤ c)
  (hcall : ∀ a w, Sem.run Try.prog (callFunc F a) w = .ok (.enter F a) w)
  (hp : ∀ A c row, Calls Try.prog F (#[.slice A (row : List S44).length c] ++ caps) w fun e w' => e = .returned (.bool (p row)) ∧ w = w') :
  Calls Try.prog 57 #[.slice A l.length c, .func (.func F) #[] caps] w fun e w' => e = .returned (.int .i64 (findTo p l)) ∧ w = w' := by
 have hm : l.length ≤ 9223372036854775807 := hr.2.1
 have HP := Aside0.mk hp
 clear hp
 go_enter Try.func57, Try.ntmps57
 go_wp2
 go_loop [8] (fun i => ∃ x : Int, 0 ≤ x ∧ x ≤ l.length ∧ i = .int .i64 x ∧ Aside0 (NoneTo p l [] x)) (fun i => l.length - (intOf i).toNat)
 case atStart => exact ⟨0, by omega, by omega, rfl, ⟨NoneTo.zero _ _ _⟩⟩
 case round =>
  obtain ⟨x, h0, h1, rfl, HA⟩ := hrel
  by_cases hlt : x < l.length
  ·obtain ⟨ad, A0, c0, e, hx, hl0, hg0⟩ := at_L4 hr x h0 hlt
   cases e
   have c3 : decide (x < (l.length : Int)) = true := decide_eq_true hlt
   have k0 := Aside0.mk h0
   have k1 := Aside0.mk hlt
   replace h0 := eq_true h0
   replace hlt := eq_true hlt
   clear hr hc hl0 hg0
   cases hpx : p (rd_L4 l x) with
   | true =>
    have HF := Aside0.mk (findTo_at HA.out k0.out k1.out hpx)
    have HPX := Aside0.mk hpx
    clear hpx
    go_wp2_with (refine ((HP.out _ _ _).mono ?_); rintro e w' ⟨rfl, rfl⟩; rw [HPX.out])
    go_ret
    exact ⟨by rw [HF.out]; rfl, rfl⟩
   | false =>
    have HF := Aside0.mk (NoneTo.succ HA.out k0.out hpx)
    have HPX := Aside0.mk hpx
    clear hpx
    go_wp2_with (refine ((HP.out _ _ _).mono ?_); rintro e w' ⟨rfl, rfl⟩; rw [HPX.out])
    go_round
    case rel => exact ⟨x + 1, by have := k0.out; omega, by have := k1.out; omega, by rw [wrap_in k0.out k1.out hm], HF⟩
    case measure => have := k0.out; have := k1.out; rw [wrap_in k0.out k1.out hm]; simp [intOf]; omega
  ·have HF := Aside0.mk (findTo_none HA.out (by omega))
   go_wp2
   go_ret
   exact ⟨by rw [HF.out]; rfl, rfl⟩
set_option maxHeartbeats 400000 in
theorem contains3_calls (F : Nat) (caps : Array Value) (p : List S44 → Bool) (A : Option Addr) (c : Nat) (l : List (List S44)) (w : World)
  (hr : Kd.C (Kd.slice 44 k44) w A l.length l) (hc : l.length ≤ c)
  (hcall : ∀ a w, Sem.run Try.prog (callFunc F a) w = .ok (.enter F a) w)
  (hp : ∀ A c row, Calls Try.prog F (#[.slice A (row : List S44).length c] ++ caps) w fun e w' => e = .returned (.bool (p row)) ∧ w = w') :
  Calls Try.prog 43 #[.slice A l.length c, .func (.func F) #[] caps] w fun e w' => e = .returned (.bool (l.any p)) ∧ w = w' := by
 have HC := Aside0.mk (index3_calls F caps p A c l w hr hc hcall hp)
 clear hp hcall hr hc
 go_enter Try.func43, Try.ntmps43
 go_wp2_with (refine (HC.out.mono ?_); rintro e w' ⟨rfl, rfl⟩)
 go_ret
 exact ⟨by rw [← findTo_any]; rfl, rfl⟩
theorem call44 (a : Array Value) (w : World) : Sem.run Try.prog (callFunc 44 a) w = .ok (.enter 44 a) w := by
 go_simp
def okDoor (l : List (List S44)) (k r d : Int) : Bool :=
 decide (0 ≤ (rd_T44 (rd_L4 l r) d).f0 ∧ (rd_T44 (rd_L4 l r) d).f0 < l.length ∧ 0 ≤ (rd_T44 (rd_L4 l r) d).f1 ∧ (rd_T44 (rd_L4 l r) d).f1 < k) &&
  ((rd_T44 (rd_L4 l (rd_T44 (rd_L4 l r) d).f0) (rd_T44 (rd_L4 l r) d).f1).f0 == r && (rd_T44 (rd_L4 l (rd_T44 (rd_L4 l r) d).f0) (rd_T44 (rd_L4 l r) d).f1).f1 == d)
def kOfM (l : List (List S44)) : Int := (rd_L4 l 0).length
def okRow (l : List (List S44)) (r : Nat) : Bool := (List.range (kOfM l).toNat).all fun d => okDoor l (kOfM l) r d
def mvB (l : List (List S44)) : Bool := decide (1 ≤ l.length ∧ l.length ≤ 60 ∧ 1 ≤ kOfM l ∧ kOfM l ≤ 6) && !l.any (lenB (kOfM l)) && (List.range l.length).all (okRow l)
def maze_Valid.f (l0_0 : List (List S44)) : Option Bool := some (mvB l0_0)
theorem okDoor_at {l : List (List S44)} {r d : Nat} (hr : r < l.length) (hd : (d : Int) < kOfM l) (h : (List.range l.length).all (okRow l) = true) : okDoor l (kOfM l) r d = true := by
 rw [List.all_eq_true] at h
 have h1 := h r (List.mem_range.2 hr)
 unfold okRow at h1
 rw [List.all_eq_true] at h1
 exact h1 d (List.mem_range.2 (by omega))
theorem mvB_no {l : List (List S44)} {x y : Int} (hx0 : 0 ≤ x) (hx : x < l.length) (hy0 : 0 ≤ y) (hy : y < kOfM l) (h : okDoor l (kOfM l) x y = false) : mvB l = false := by
 cases hb : mvB l with
 | false => rfl
 | true =>
  unfold mvB at hb
  rw [Bool.and_eq_true] at hb
  obtain ⟨r, rfl⟩ := Int.eq_ofNat_of_zero_le hx0
  obtain ⟨d, rfl⟩ := Int.eq_ofNat_of_zero_le hy0
  rw [okDoor_at (by omega) hy hb.2] at h
  cases h
def RowsOkTo (l : List (List S44)) (x : Int) : Prop := ∀ r : Nat, (r : Int) < x → okRow l r = true
def DoorsOkTo (l : List (List S44)) (x y : Int) : Prop := ∀ d : Nat, (d : Int) < y → okDoor l (kOfM l) x d = true
theorem DoorsOkTo.succ {l : List (List S44)} {x y : Int} (h : DoorsOkTo l x y) (h0 : 0 ≤ y) (hp : okDoor l (kOfM l) x y = true) : DoorsOkTo l x (y + 1) := fun d hd => by
 by_cases e : (d : Int) = y
 ·rw [e]; exact hp
 ·exact h d (by omega)
theorem RowsOkTo.succ {l : List (List S44)} {x : Int} (h : RowsOkTo l x) (h0 : 0 ≤ x) (hp : DoorsOkTo l x (kOfM l)) : RowsOkTo l (x + 1) := fun r hr => by
 by_cases e : (r : Int) = x
 ·unfold okRow
  rw [List.all_eq_true]
  intro d hd
  have := hp d (by have := List.mem_range.1 hd; have h1 : 0 ≤ kOfM l := Int.natCast_nonneg _; omega)
  rw [e]; exact this
 ·exact h r (by omega)
set_option maxRecDepth 100000 in
set_option maxHeartbeats 1000000 in
theorem maze_Valid.calls (A0_0 : Option Addr) (c0_0 : Nat) (l0_0 : List (List S44)) (r : Bool) (w : World) (hr0_0 : Kd.C (Kd.slice 44 k44) w A0_0 l0_0.length l0_0) (hc0_0 : l0_0.length ≤ c0_0) (h : maze_Valid.f l0_0 = some r) :
  Calls Try.prog 24 #[.agg #[.slice A0_0 l0_0.length c0_0]] w fun e w' => e = .returned (.bool r) ∧ Below w.heap.size w w' := by
 obtain rfl := Option.some.inj h
 clear h
 have hm : l0_0.length ≤ 9223372036854775807 := hr0_0.2.1
 by_cases h1 : l0_0.length < 1
 ·have h1' : decide ((l0_0.length : Int) < 1) = true := decide_eq_true (by omega)
  have HV : mvB l0_0 = false := by unfold mvB; rw [decide_eq_false (by omega)]; rfl
  rw [HV]
  clear h1 HV hr0_0 hc0_0
  go_enter Try.func24, Try.ntmps24
  go_wp2
  go_ret
  exact ⟨rfl, by repeat (first | exact Below.refl _ _ | apply below_alloc)⟩
 by_cases h2 : 60 < l0_0.length
 ·have h1' : decide ((l0_0.length : Int) < 1) = false := decide_eq_false (by omega)
  have h2' : decide (60 < (l0_0.length : Int)) = true := decide_eq_true (by omega)
  have HV : mvB l0_0 = false := by unfold mvB; rw [decide_eq_false (by omega)]; rfl
  rw [HV]
  clear h1 h2 HV hr0_0 hc0_0
  go_enter Try.func24, Try.ntmps24
  go_wp2
  go_ret
  exact ⟨rfl, by repeat (first | exact Below.refl _ _ | apply below_alloc)⟩
 obtain ⟨ad, A0, c0, e, hx, hl0, hg0⟩ := at_L4 hr0_0 0 (by omega) (by omega)
 cases e
 have h1' : decide ((l0_0.length : Int) < 1) = false := decide_eq_false (by omega)
 have h2' : decide (60 < (l0_0.length : Int)) = false := decide_eq_false (by omega)
 have hpos : 0 < l0_0.length := by omega
 have hx' : w.cell? ad = some (.slice A0 (rd_L4 l0_0 0).length c0) := (by simpa [Addr.add] using hx)
 clear hx
 obtain ⟨kk, hkk⟩ : ∃ kk, kk = (rd_L4 l0_0 0).length := ⟨_, rfl⟩
 have hkm : kk ≤ 9223372036854775807 := hkk ▸ hg0.2.1
 rw [← hkk] at hx' hl0
 have hx'' : (w.alloc (.cells #[.slice (some ad) l0_0.length c0_0] 38)).cell? ad = some (.slice A0 kk c0) := pw_cell_below (below_alloc (Below.refl _ _) _) hx'
 have HKK : Aside0 (kOfM l0_0 = (kk : Int)) := ⟨by rw [hkk]; rfl⟩
 clear hkk hg0 hl0
 have HR := Aside0.mk hr0_0
 have HH1 := Aside0.mk h1
 have HH2 := Aside0.mk h2
 clear hr0_0
 by_cases k1 : 1 ≤ (kk : Int)
 ·by_cases k2 : (kk : Int) ≤ 6
  ·have k1' : decide (1 ≤ (kk : Int)) = true := decide_eq_true k1
   have k2' : decide ((kk : Int) ≤ 6) = true := decide_eq_true k2
   have k1'' : decide ((kk : Int) < 1) = false := decide_eq_false (by omega)
   have k2'' : decide (6 < (kk : Int)) = false := decide_eq_false (by omega)
   have HK1 := Aside0.mk k1
   have HK2 := Aside0.mk k2
   have hB := Aside0.mk (below_alloc (below_alloc (Below.refl w.heap.size w) (.cells #[.slice (some ad) l0_0.length c0_0] 38)) (.cells #[.int .i64 (kk : Int)] 3))
   have HC := Aside0.mk (contains3_calls 44 #[.pointer (some ⟨w.heap.size + 1, 0, none⟩)] (lenB (kk : Int)) (some ad) c0_0 l0_0
    ((w.alloc (.cells #[.slice (some ad) l0_0.length c0_0] 38)).alloc (.cells #[.int .i64 (kk : Int)] 3)) (Kd.C_below HR.out hB.out) hc0_0 call44
    (fun A c row => mvalid1_calls (kk : Int) (w.heap.size + 1) A c row _ (by simp)))
   clear h1 h2 k1 k2 hc0_0
   cases hany : l0_0.any (lenB (kk : Int)) with
   | true =>
    have HV : mvB l0_0 = false := by unfold mvB; rw [HKK.out, hany]; simp
    have HA := Aside0.mk hany
    rw [HV]
    clear HV hany
    go_enter Try.func24, Try.ntmps24
    go_wp2_with (refine (HC.out.mono ?_); rintro e w' ⟨rfl, rfl⟩; rw [HA.out])
    go_ret
    exact ⟨rfl, hB.out⟩
   | false =>
    have HA := Aside0.mk hany
    have HV : Aside0 (mvB l0_0 = (List.range l0_0.length).all (okRow l0_0)) := ⟨by
     have := HH1.out; have := HH2.out; have := HK1.out; have := HK2.out
     unfold mvB; rw [HKK.out, hany, decide_eq_true (by omega)]; rfl⟩
    have hlen : ∀ x : Int, 0 ≤ x → x < l0_0.length → (rd_L4 l0_0 x).length = kk := fun x h0 h1 => by
     rw [List.any_eq_false] at hany
     have hm : rd_L4 l0_0 x ∈ l0_0 := by
      unfold rd_L4
      rw [List.getD_eq_getElem?_getD, List.getElem?_eq_getElem (by omega)]
      exact List.getElem_mem _
     have := hany _ hm
     unfold lenB at this
     simp at this
     omega
    have HLN := Aside0.mk hlen
    clear hany hlen
    go_enter Try.func24, Try.ntmps24
    go_wp2_with (refine (HC.out.mono ?_); rintro e w' ⟨rfl, rfl⟩; rw [HA.out])
    obtain ⟨B, hB0⟩ : ∃ B, w.heap.size = B := ⟨_, rfl⟩
    have hBx : ((w.alloc (.cells #[.slice (some ad) l0_0.length c0_0] 38)).alloc (.cells #[.int .i64 (kk : Int)] 3)).heap[B]? = some (.cells #[.slice (some ad) l0_0.length c0_0] 38 (0, 0)) := by rw [← hB0]; exact blk_alloc (blk_new _ _) _
    have hKx : ((w.alloc (.cells #[.slice (some ad) l0_0.length c0_0] 38)).alloc (.cells #[.int .i64 (kk : Int)] 3)).heap[B + 1]? = some (.cells #[.int .i64 (kk : Int)] 3 (0, 0)) := by
     have := blk_new (w.alloc (.cells #[.slice (some ad) l0_0.length c0_0] 38)) (.cells #[.int .i64 (kk : Int)] 3)
     rwa [World.size_alloc, hB0] at this
    have HBx := Aside0.mk hBx
    have HKx := Aside0.mk hKx
    have HBw : Aside0 (w.heap.size ≤ ((w.alloc (.cells #[.slice (some ad) l0_0.length c0_0] 38)).alloc (.cells #[.int .i64 (kk : Int)] 3)).heap.size) := ⟨hB.out.size⟩
    have HB1 : Aside0 (Below w.heap.size w ((w.alloc (.cells #[.slice (some ad) l0_0.length c0_0] 38)).alloc (.cells #[.int .i64 (kk : Int)] 3))) := hB
    rw [hB0]
    clear hBx hKx HC hB hx' hx''
    generalize (w.alloc (.cells #[.slice (some ad) l0_0.length c0_0] 38)).alloc (.cells #[.int .i64 (kk : Int)] 3) = W0 at HBx HKx HB1 HBw ⊢
    have HB0 := Aside0.mk hB0
    clear hB0
    go_loopw [38] (fun i wr => ∃ x : Int, 0 ≤ x ∧ x ≤ l0_0.length ∧ i = .int .i64 x ∧ Aside0 (RowsOkTo l0_0 x) ∧ Aside0 (Below W0.heap.size W0 wr)) (fun i _ => l0_0.length - (intOf i).toNat)
    case atStart => exact ⟨0, by omega, by omega, rfl, ⟨fun r hr => by omega⟩, ⟨Below.refl _ _⟩⟩
    case round =>
     obtain ⟨x, h0, h1, rfl, HRO, HBr⟩ := hrel
     rename World => W1
     by_cases hlt : x < l0_0.length
     ·have HCr : Kd.C (Kd.slice 44 k44) W1 (some ad) l0_0.length l0_0 := Kd.C_below (Kd.C_below HR.out HB1.out) HBr.out
      obtain ⟨ad', A1, c1, e, hx, hl1, hg1⟩ := at_L4 HCr x h0 hlt
      cases e
      have HX1 := Aside0.mk (HLN.out x h0 hlt)
      rw [HX1.out] at hx hl1 hg1
      have HG1 := Aside0.mk hg1
      have Q0 := Aside0.mk h0
      have Q1 := Aside0.mk hlt
      have c3 : decide (x < (l0_0.length : Int)) = true := decide_eq_true hlt
      have hlen := HX1.out
      replace h0 := eq_true h0
      replace hlt := eq_true hlt
      clear hg1 hl1 h1 HCr hlen
      go_wp2_with fail
      go_loopw [45] (fun j wq => ∃ y : Int, 0 ≤ y ∧ y ≤ kk ∧ j = .int .i64 y ∧ Aside0 (DoorsOkTo l0_0 x y) ∧ Aside0 (Below W1.heap.size W1 wq)) (fun j _ => kk - (intOf j).toNat)
      case atStart => exact ⟨0, by omega, by omega, rfl, ⟨fun d hd => by omega⟩, ⟨Below.refl _ _⟩⟩
      case round =>
       clear hx c3
       obtain ⟨y, y0, y1, rfl, HDO, HBq⟩ := hrel
       rename World => wq
       by_cases ylt : y < (kk : Int)
       ·obtain ⟨ad1, e, hd0, hd1⟩ := at_T44 (Kd.C_below HG1.out HBq.out) y y0 ylt
        cases e
        have c4 : decide (y < (kk : Int)) = true := decide_eq_true ylt
        have Q3 := Aside0.mk y0
        have Q4 := Aside0.mk ylt
        replace y0 := eq_true y0
        replace ylt := eq_true ylt
        obtain ⟨b, hb⟩ : ∃ b, rd_T44 (rd_L4 l0_0 x) y = b := ⟨_, rfl⟩
        rw [hb] at hd0 hd1
        obtain ⟨f0, f1⟩ := b
        simp only at hd0 hd1
        have hBa := below_alloc (Below.refl wq.heap.size wq) (.cells #[.int .i64 f0, .int .i64 f1] 44)
        have hcb : (wq.alloc (.cells #[.int .i64 f0, .int .i64 f1] 44)).cell? ⟨B, 0, none⟩ = some (.slice (some ad) l0_0.length c0_0) := (blk_cell (blk_below (blk_below (blk_below HBx.out HBr.out) HBq.out) hBa) 0).trans rfl
        have hck : (wq.alloc (.cells #[.int .i64 f0, .int .i64 f1] 44)).cell? ⟨B + 1, 0, none⟩ = some (.int .i64 (kk : Int)) := (blk_cell (blk_below (blk_below (blk_below HKx.out HBr.out) HBq.out) hBa) 0).trans rfl
        have HBf : Aside0 (∀ n, Below w.heap.size w ((wq.alloc (.cells #[.int .i64 f0, .int .i64 f1] 44)).drewN n)) := ⟨fun n => pw_below_drewN (below_step (below_step (below_step HB1.out HBr.out) HBq.out) hBa) n⟩
        have HBn : Aside0 (Below W1.heap.size W1 (wq.alloc (.cells #[.int .i64 f0, .int .i64 f1] 44))) := ⟨below_step HBq.out hBa⟩
        have HCf : Aside0 (Kd.C (Kd.slice 44 k44) (wq.alloc (.cells #[.int .i64 f0, .int .i64 f1] 44)) (some ad) l0_0.length l0_0) := ⟨Kd.C_below (Kd.C_below (Kd.C_below (Kd.C_below HR.out HB1.out) HBr.out) HBq.out) hBa⟩
        clear hBa
        by_cases g1 : f0 < 0
        ·have HV2 : mvB l0_0 = false := mvB_no Q0.out Q1.out Q3.out (by rw [HKK.out]; exact Q4.out) (by unfold okDoor; rw [hb]; simp only; rw [decide_eq_false (by rw [HKK.out]; omega)]; rfl)
         have HV3 := Aside0.mk HV2
         have e1 : decide (f0 < 0) = true := decide_eq_true g1
         clear HV2 hb HCf g1
         go_wp2_with fail
         go_quiet (fail)
         go_wp2_with fail
         go_ret
         exact ⟨by rw [HV3.out]; rfl, HBf.out nq⟩
        ·by_cases g2 : (l0_0.length : Int) ≤ f0
         ·have HV2 : mvB l0_0 = false := mvB_no Q0.out Q1.out Q3.out (by rw [HKK.out]; exact Q4.out) (by unfold okDoor; rw [hb]; simp only; rw [decide_eq_false (by rw [HKK.out]; omega)]; rfl)
          have HV3 := Aside0.mk HV2
          have e1 : decide (f0 < 0) = false := decide_eq_false g1
          have e2 : decide ((l0_0.length : Int) ≤ f0) = true := decide_eq_true g2
          clear HV2 hb HCf g1 g2
          go_wp2_with fail
          go_quiet (fail)
          go_wp2_with fail
          go_ret
          exact ⟨by rw [HV3.out]; rfl, HBf.out nq⟩
         ·by_cases g3 : f1 < 0
          ·have HV2 : mvB l0_0 = false := mvB_no Q0.out Q1.out Q3.out (by rw [HKK.out]; exact Q4.out) (by unfold okDoor; rw [hb]; simp only; rw [decide_eq_false (by rw [HKK.out]; omega)]; rfl)
           have HV3 := Aside0.mk HV2
           have e1 : decide (f0 < 0) = false := decide_eq_false g1
           have e2 : decide ((l0_0.length : Int) ≤ f0) = false := decide_eq_false g2
           have e3 : decide (f1 < 0) = true := decide_eq_true g3
           clear HV2 hb HCf g1 g2 g3
           go_wp2_with fail
           go_quiet (fail)
           go_wp2_with fail
           go_ret
           exact ⟨by rw [HV3.out]; rfl, HBf.out nq⟩
          ·by_cases g4 : (kk : Int) ≤ f1
           ·have HV2 : mvB l0_0 = false := mvB_no Q0.out Q1.out Q3.out (by rw [HKK.out]; exact Q4.out) (by unfold okDoor; rw [hb]; simp only; rw [decide_eq_false (by rw [HKK.out]; omega)]; rfl)
            have HV3 := Aside0.mk HV2
            have e1 : decide (f0 < 0) = false := decide_eq_false g1
            have e2 : decide ((l0_0.length : Int) ≤ f0) = false := decide_eq_false g2
            have e3 : decide (f1 < 0) = false := decide_eq_false g3
            have e4 : decide ((kk : Int) ≤ f1) = true := decide_eq_true g4
            clear HV2 hb HCf g1 g2 g3 g4
            go_wp2_with fail
            go_quiet (fail)
            go_wp2_with fail
            go_ret
            exact ⟨by rw [HV3.out]; rfl, HBf.out nq⟩
           ·obtain ⟨ad', A2, c2, e, hx2, hl2, hg2⟩ := at_L4 HCf.out f0 (by omega) (by omega)
            cases e
            have hl3 := HLN.out f0 (by omega) (by omega)
            rw [hl3] at hx2 hl2 hg2
            obtain ⟨ad2, e, hz0, hz1⟩ := at_T44 hg2 f1 (by omega) (by omega)
            cases e
            obtain ⟨bb, hbb⟩ : ∃ bb, rd_T44 (rd_L4 l0_0 f0) f1 = bb := ⟨_, rfl⟩
            rw [hbb] at hz0 hz1
            obtain ⟨v0, v1⟩ := bb
            simp only at hz0 hz1
            have e1 : decide (f0 < 0) = false := decide_eq_false g1
            have e2 : decide ((l0_0.length : Int) ≤ f0) = false := decide_eq_false g2
            have e3 : decide (f1 < 0) = false := decide_eq_false g3
            have e4 : decide ((kk : Int) ≤ f1) = false := decide_eq_false g4
            have p1 : (0 ≤ f0) = True := eq_true (by omega)
            have p2 : (f0 < (l0_0.length : Int)) = True := eq_true (by omega)
            have p3 : (0 ≤ f1) = True := eq_true (by omega)
            have p4 : (f1 < (kk : Int)) = True := eq_true (by omega)
            have hok : okDoor l0_0 (kOfM l0_0) x y = (v0 == x && v1 == y) := by
             unfold okDoor
             rw [hb]
             simp only [hbb]
             rw [decide_eq_true (by rw [HKK.out]; omega), Bool.true_and]
            have HOK := Aside0.mk hok
            clear hok hb hbb hg2 hl2 hl3 g1 g2 g3 g4
            cases t0 : (v0 == x) with
            | true =>
             cases t1 : (v1 == y) with
             | true =>
              have HDO2 := Aside0.mk (HDO.out.succ Q3.out (HOK.out.trans (by rw [t0, t1]; rfl)))
              go_wp2_with fail
              go_quiet (fail)
              go_wp2_with fail
              go_roundw
              case rel => exact ⟨y + 1, by have := Q3.out; omega, by have := Q4.out; omega, by rw [wrap_in Q3.out Q4.out hkm], HDO2, ⟨pw_below_drewN HBn.out nq⟩⟩
              case measure => have := Q3.out; have := Q4.out; rw [wrap_in Q3.out Q4.out hkm]; simp [intOf]; omega
             | false =>
              have HV3 := Aside0.mk (mvB_no Q0.out Q1.out Q3.out (by rw [HKK.out]; exact Q4.out) (HOK.out.trans (by rw [t0, t1]; rfl)))
              go_wp2_with fail
              go_quiet (fail)
              go_wp2_with fail
              go_ret
              exact ⟨by rw [HV3.out]; rfl, HBf.out nq⟩
            | false =>
             have HV3 := Aside0.mk (mvB_no Q0.out Q1.out Q3.out (by rw [HKK.out]; exact Q4.out) (HOK.out.trans (by rw [t0]; rfl)))
             go_wp2_with fail
             go_quiet (fail)
             go_wp2_with fail
             go_ret
             exact ⟨by rw [HV3.out]; rfl, HBf.out nq⟩
       ·have HDE : Aside0 (DoorsOkTo l0_0 x (kOfM l0_0)) := ⟨fun d hd => HDO.out d (by rw [HKK.out] at hd; omega)⟩
        go_wp2
        go_roundw
        case rel => exact ⟨x + 1, by have := Q0.out; omega, by have := Q1.out; omega, by rw [wrap_in Q0.out Q1.out hm], ⟨HRO.out.succ Q0.out HDE.out⟩, ⟨below_step HBr.out HBq.out⟩⟩
        case measure => have := Q0.out; have := Q1.out; rw [wrap_in Q0.out Q1.out hm]; simp [intOf]; omega
     ·have HV2 : mvB l0_0 = true := by
       rw [HV.out, List.all_eq_true]
       intro r hr
       exact HRO.out r (by have := List.mem_range.1 hr; omega)
      have HV3 := Aside0.mk HV2
      clear HV2
      go_wp2
      go_ret
      exact ⟨by rw [HV3.out]; rfl, below_step HB1.out HBr.out⟩
  ·have k1' : decide ((kk : Int) < 1) = false := decide_eq_false (by omega)
   have k2' : decide (6 < (kk : Int)) = true := decide_eq_true (by omega)
   have HV : mvB l0_0 = false := by unfold mvB; rw [HKK.out, decide_eq_false (by omega)]; rfl
   rw [HV]
   clear h1 h2 k1 k2 HV hc0_0
   go_enter Try.func24, Try.ntmps24
   go_wp2
   go_ret
   exact ⟨rfl, by repeat (first | exact Below.refl _ _ | apply below_alloc)⟩
 ·have k1' : decide ((kk : Int) < 1) = true := decide_eq_true (by omega)
  have HV : mvB l0_0 = false := by unfold mvB; rw [HKK.out, decide_eq_false (by omega)]; rfl
  rw [HV]
  clear h1 h2 k1 HV hc0_0
  go_enter Try.func24, Try.ntmps24
  go_wp2
  go_ret
  exact ⟨rfl, by repeat (first | exact Below.refl _ _ | apply below_alloc)⟩
end Go.Proofs.Ytgbjbgdnldklpaa.Q
end
/-! Part QRef10Visits -/
section
-- Written by xprint.py, a program of this session's, over the kit's print. Lean checks it.
namespace Go.Proofs.Ytgbjbgdnldklpaa.Q
open Go.RowKit Go.Proofs.YtgbjbgdnldklpaaW.PrintWords Go.Proofs.YtgbjbgdnldklpaaW.PrintLast Go.Proofs.YtgbjbgdnldklpaaW.PrintMore
attribute [local go_sem] max2_int min2_int max_two min_two max_three min_three max_four min_four
set_option linter.unusedVariables false
set_option linter.unusedSimpArgs false

/-! ### mizmazeref10_Visits: function 36 -/
end Go.Proofs.Ytgbjbgdnldklpaa.Q
end
/-! Part QRef07Same -/
section
-- Written by xprint.py, a program of this session's, over the kit's print. Lean checks it.
namespace Go.Proofs.Ytgbjbgdnldklpaa.Q
open Go.RowKit Go.Proofs.YtgbjbgdnldklpaaW.PrintWords Go.Proofs.YtgbjbgdnldklpaaW.PrintLast Go.Proofs.YtgbjbgdnldklpaaW.PrintMore
attribute [local go_sem] max2_int min2_int max_two min_two max_three min_three max_four min_four
set_option linter.unusedVariables false
set_option linter.unusedSimpArgs false

/-! ### mizmazeref07_Same: function 25 -/
end Go.Proofs.Ytgbjbgdnldklpaa.Q
end
/-! Part QRef10Walk -/
section
-- Written by xprint.py, a program of this session's, over the kit's print. Lean checks it.
namespace Go.Proofs.Ytgbjbgdnldklpaa.Q
open Go.RowKit Go.Proofs.YtgbjbgdnldklpaaW.PrintWords Go.Proofs.YtgbjbgdnldklpaaW.PrintLast Go.Proofs.YtgbjbgdnldklpaaW.PrintMore
attribute [local go_sem] max2_int min2_int max_two min_two max_three min_three max_four min_four
set_option linter.unusedVariables false
set_option linter.unusedSimpArgs false

/-! ### mizmazeref10_Walk: function 35 -/
end Go.Proofs.Ytgbjbgdnldklpaa.Q
end
/-! Part MNumA -/
section
namespace Go.Proofs.Ytgbjbgdnldklpaa.Q
open Go.RowKit Go.Proofs.YtgbjbgdnldklpaaW.PrintWords Go.Proofs.YtgbjbgdnldklpaaW.PrintLast Go.Proofs.YtgbjbgdnldklpaaW.PrintMore
set_option linter.unusedVariables false
/-! ### numbers, lists, rounds -/
theorem wrapS {i : Nat} (h : i + 1 ≤ 9223372036854775807) : wrap64 ((i : Int) + 1) = ((i + 1 : Nat) : Int) := by
 unfold wrap64; omega
theorem wrapI {z : Int} (h0 : -9223372036854775808 ≤ z) (h : z ≤ 9223372036854775807) : wrap64 z = z := by
 unfold wrap64; omega
theorem rdN (l : List Int) (i : Nat) : rd l (i : Int) = l.getD i 0 := rfl
theorem rdE {l : List Int} {i : Nat} (h : i < l.length) : rd l (i : Int) = l[i] := by
 rw [rdN, List.getD_eq_getElem?_getD, List.getElem?_eq_getElem h]; rfl
theorem rdBE {l : List Bool} {i : Nat} (h : i < l.length) : rdOf false l (i : Int) = l[i] := by
 show l.getD i false = _
 rw [List.getD_eq_getElem?_getD, List.getElem?_eq_getElem h]; rfl
theorem rdB_set {l : List Bool} {i j : Nat} {b : Bool} (hj : j < l.length) : rdOf false (l.set i b) (j : Int) = if i = j then b else rdOf false l (j : Int) := by
 rw [rdBE (by rw [List.length_set]; exact hj), rdBE hj, List.getElem_set]
theorem rdI_put {l : List Int} {i j : Nat} {v : Int} (hj : j < l.length) : rd (l.set i v) (j : Int) = if i = j then v else rd l (j : Int) := by
 rw [rdE (by rw [List.length_set]; exact hj), rdE hj, List.getElem_set]
theorem Ev.eq {α : Type} {g : Nat → Option α} {r r' : α} (h : Ev g r) (e : r = r') : Ev g r' := e ▸ h
theorem Ev.next {α : Type} {g : Nat → Option α} {r : α} (h : Ev (fun k => g (k + 1)) r) : Ev g r := Ev.step (fun _ => rfl) h
theorem Ev.ret {α : Type} {r r' : α} (e : r = r') : Ev (fun _ => some r) r' := e ▸ Ev.now r
/-- A loop that asks a question of each number below n. -/
theorem Ev.every {α : Type} {g : Nat → Nat → Option α} {n : Nat} {yes no r : α} (p : Nat → Bool)
  (hy : (∀ i, i < n → p i = true) → r = yes) (hn : ∀ i, i < n → p i = false → r = no)
  (go : ∀ i, i < n → p i = true → Ev (fun k => g k (i + 1)) r → Ev (fun k => g k i) r)
  (stop : ∀ i, i < n → p i = false → Ev (fun k => g k i) no) (fin : Ev (fun k => g k n) yes) : Ev (fun k => g k 0) r := by
 have key : ∀ d i : Nat, i + d = n → (∀ j, j < i → p j = true) → Ev (fun k => g k i) r := by
  intro d
  induction d with
  | zero =>
   intro i hi hj
   obtain rfl : i = n := by omega
   rw [hy hj]; exact fin
  | succ d ih =>
   intro i hi hj
   cases hp : p i with
   | false => rw [hn i (by omega) hp]; exact stop i (by omega) hp
   | true =>
    refine go i (by omega) hp (ih (i + 1) (by omega) fun j h => ?_)
    rcases Nat.lt_or_ge j i with h4 | h4
    ·exact hj j h4
    ·obtain rfl : j = i := by omega
     exact hp
 exact key n 0 (by omega) fun j h => by omega
/-! ### words -/
def Wd (m : Nat) (w : List Nat) : Prop := ∀ x ∈ w, x < m
theorem Wd.nil (m : Nat) : Wd m [] := fun _ h => nomatch h
theorem Wd.app {m : Nat} {v w : List Nat} (h : Wd m v) (k : Wd m w) : Wd m (v ++ w) := fun x hx => (List.mem_append.1 hx).elim (h x) (k x)
theorem Wd.left {m : Nat} {v w : List Nat} (h : Wd m (v ++ w)) : Wd m v := fun x hx => h x (List.mem_append.2 (Or.inl hx))
theorem Wd.right {m : Nat} {v w : List Nat} (h : Wd m (v ++ w)) : Wd m w := fun x hx => h x (List.mem_append.2 (Or.inr hx))
theorem Wd.tail {m x : Nat} {w : List Nat} (h : Wd m (x :: w)) : Wd m w := fun y hy => h y (List.mem_cons_of_mem _ hy)
theorem Wd.head {m x : Nat} {w : List Nat} (h : Wd m (x :: w)) : x < m := h x List.mem_cons_self
def toI (w : List Nat) : List Int := w.map fun (x : Nat) => (x : Int)
theorem toI_snoc (w : List Nat) (x : Nat) : toI (w ++ [x]) = toI w ++ [(x : Int)] := by simp [toI]
theorem toI_len (w : List Nat) : (toI w).length = w.length := by simp [toI]
theorem toI_rd {w : List Nat} {i : Nat} (h : i < w.length) : rd (toI w) (i : Int) = ((w[i] : Nat) : Int) := by
 rw [rdE (by rw [toI_len]; exact h)]; simp [toI]
theorem nodup_le : ∀ (n : Nat) (l : List Nat), l.Nodup → (∀ x ∈ l, x < n) → l.length ≤ n
 | 0, l, _, h => by
  cases l with
  | nil => exact Nat.le_refl 0
  | cons x l => exact absurd (h x List.mem_cons_self) (Nat.not_lt_zero x)
 | n + 1, l, hd, h => by
  by_cases hn : n ∈ l
  ·have h1 := nodup_le n (l.erase n) (hd.erase n) fun x hx => by
    have h2 := h x (List.mem_of_mem_erase hx)
    have h3 : x ≠ n := fun e => by subst e; exact hd.not_mem_erase hx
    omega
   rw [List.length_erase_of_mem hn] at h1; omega
  ·have := nodup_le n l hd fun x hx => by
    have h2 := h x hx
    have h3 : x ≠ n := fun e => hn (e ▸ hx)
    omega
   omega
theorem nodup_sub {S T : List Nat} (h : S.Nodup) (hs : ∀ x ∈ S, x ∈ T) : S.length ≤ T.length := by
 induction S generalizing T with
 | nil => exact Nat.zero_le _
 | cons x S ih =>
  rw [List.nodup_cons] at h
  have hx := hs x List.mem_cons_self
  have h2 := ih (T := T.erase x) h.2 fun y hy => by
   have hne : y ≠ x := fun e => h.1 (e ▸ hy)
   exact (List.mem_erase_of_ne hne).2 (hs y (List.mem_cons_of_mem _ hy))
  have := List.length_pos_of_mem hx
  rw [List.length_erase_of_mem hx] at h2
  simp; omega
end Go.Proofs.Ytgbjbgdnldklpaa.Q
end
/-! Part MMazeB -/
section
namespace Go.Proofs.Ytgbjbgdnldklpaa.Q
open Go.RowKit Go.Proofs.YtgbjbgdnldklpaaW.PrintWords Go.Proofs.YtgbjbgdnldklpaaW.PrintLast Go.Proofs.YtgbjbgdnldklpaaW.PrintMore
set_option linter.unusedVariables false
theorem inB_toI {m : Nat} {w : List Nat} : inB (m : Int) (toI w) = true ↔ Wd m w := by
 unfold inB toI
 rw [List.all_eq_true]
 constructor
 ·intro h x hx
  have := h (x : Int) (List.mem_map.2 ⟨x, hx, rfl⟩)
  have := of_decide_eq_true this
  omega
 ·intro h z hz
  obtain ⟨x, hx, rfl⟩ := List.mem_map.1 hz
  have := h x hx
  exact decide_eq_true (by omega)
theorem toI_of {m : Nat} {l : List Int} (h : inB (m : Int) l = true) : ∃ w, Wd m w ∧ l = toI w := by
 have h' := h
 unfold inB at h
 rw [List.all_eq_true] at h
 have e : l = toI (l.map Int.toNat) := by
  unfold toI
  rw [List.map_map]
  conv => lhs; rw [← List.map_id l]
  refine List.map_congr_left fun z hz => ?_
  have := of_decide_eq_true (h z hz)
  simp; omega
 exact ⟨l.map Int.toNat, by rw [e] at h'; exact inB_toI.1 h', e⟩
/-! ### valid mazes -/
theorem rdLE4 {l : List (List S44)} {i : Nat} (h : i < l.length) : rd_L4 l (i : Int) = l[i] := by
 show l.getD i [] = _
 rw [List.getD_eq_getElem?_getD, List.getElem?_eq_getElem h]; rfl
/-- The room behind a door, and the door there. -/
def gz (z : List (List S44)) (r d : Nat) : Nat := (rd_T44 (rd_L4 z (r : Int)) (d : Int)).f0.toNat
def dz (z : List (List S44)) (r d : Nat) : Nat := (rd_T44 (rd_L4 z (r : Int)) (d : Int)).f1.toNat
structure VZ (z : List (List S44)) (n k : Nat) : Prop where
 len : z.length = n
 n0 : 0 < n
 n60 : n ≤ 60
 k0 : 0 < k
 k6 : k ≤ 6
 row : ∀ r, r < n → (rd_L4 z (r : Int)).length = k
 f0 : ∀ r d, r < n → d < k → (rd_T44 (rd_L4 z (r : Int)) (d : Int)).f0 = (gz z r d : Int)
 f1 : ∀ r d, r < n → d < k → (rd_T44 (rd_L4 z (r : Int)) (d : Int)).f1 = (dz z r d : Int)
 gLt : ∀ r d, r < n → d < k → gz z r d < n
 dLt : ∀ r d, r < n → d < k → dz z r d < k
 back : ∀ r d, r < n → d < k → gz z (gz z r d) (dz z r d) = r ∧ dz z (gz z r d) (dz z r d) = d
theorem okDoor_iff {z : List (List S44)} {n k : Nat} (hn : z.length = n) {r d : Nat} : okDoor z (k : Int) (r : Int) (d : Int) = true ↔
  ((rd_T44 (rd_L4 z (r : Int)) (d : Int)).f0 = (gz z r d : Int) ∧ (rd_T44 (rd_L4 z (r : Int)) (d : Int)).f1 = (dz z r d : Int) ∧ gz z r d < n ∧ dz z r d < k ∧
   (rd_T44 (rd_L4 z ((gz z r d : Nat) : Int)) ((dz z r d : Nat) : Int)).f0 = (r : Int) ∧ (rd_T44 (rd_L4 z ((gz z r d : Nat) : Int)) ((dz z r d : Nat) : Int)).f1 = (d : Int)) := by
 unfold okDoor
 rw [Bool.and_eq_true, Bool.and_eq_true, decide_eq_true_eq, beq_iff_eq, beq_iff_eq]
 constructor
 ·rintro ⟨⟨h1, h2, h3, h4⟩, h5, h6⟩
  have e0 : (rd_T44 (rd_L4 z (r : Int)) (d : Int)).f0 = (gz z r d : Int) := by unfold gz; omega
  have e1 : (rd_T44 (rd_L4 z (r : Int)) (d : Int)).f1 = (dz z r d : Int) := by unfold dz; omega
  rw [e0, e1] at h5 h6
  exact ⟨e0, e1, by omega, by omega, h5, h6⟩
 ·rintro ⟨e0, e1, h2, h4, h5, h6⟩
  rw [e0, e1]
  exact ⟨⟨by omega, by omega, by omega, by omega⟩, h5, h6⟩
theorem mvB_iff {z : List (List S44)} : mvB z = true ↔ VZ z z.length (rd_L4 z 0).length := by
 unfold mvB
 rw [Bool.and_eq_true, Bool.and_eq_true, decide_eq_true_eq, Bool.not_eq_true', List.any_eq_false, List.all_eq_true]
 have hk : kOfM z = ((rd_L4 z 0).length : Int) := rfl
 constructor
 ·rintro ⟨⟨⟨h1, h2, h3, h4⟩, h5⟩, h6⟩
  rw [hk] at h3 h4
  have row : ∀ r, r < z.length → (rd_L4 z (r : Int)).length = (rd_L4 z 0).length := fun r hr => by
   have h := h5 (rd_L4 z (r : Int)) (by rw [rdLE4 hr]; exact List.getElem_mem _)
   unfold lenB at h
   rw [hk] at h
   simp at h
   omega
  have ok : ∀ r d, r < z.length → d < (rd_L4 z 0).length → okDoor z (((rd_L4 z 0).length : Nat) : Int) (r : Int) (d : Int) = true := fun r d hr hd => by
   have h := h6 r (List.mem_range.2 hr)
   unfold okRow at h
   rw [List.all_eq_true] at h
   exact h d (List.mem_range.2 (by rw [hk]; omega))
  refine ⟨rfl, by omega, by omega, by omega, by omega, row, fun r d hr hd => ((okDoor_iff rfl).1 (ok r d hr hd)).1, fun r d hr hd => ((okDoor_iff rfl).1 (ok r d hr hd)).2.1, fun r d hr hd => ((okDoor_iff rfl).1 (ok r d hr hd)).2.2.1, fun r d hr hd => ((okDoor_iff rfl).1 (ok r d hr hd)).2.2.2.1, fun r d hr hd => ?_⟩
  obtain ⟨_, _, _, _, h7, h8⟩ := (okDoor_iff rfl).1 (ok r d hr hd)
  constructor
  ·show Int.toNat _ = _; rw [h7]; simp
  ·show Int.toNat _ = _; rw [h8]; simp
 ·intro V
  have := V.n0; have := V.n60; have := V.k0; have := V.k6
  refine ⟨⟨⟨by omega, by omega, by rw [hk]; omega, by rw [hk]; omega⟩, fun row hrow => ?_⟩, fun r hr => ?_⟩
  ·obtain ⟨r, hr, rfl⟩ := List.getElem_of_mem hrow
   have := V.row r hr
   rw [rdLE4 hr] at this
   unfold lenB
   rw [hk]
   simp [this]
  ·have hr := List.mem_range.1 hr
   unfold okRow
   rw [List.all_eq_true]
   intro d hd
   have hd := List.mem_range.1 hd
   rw [hk, Int.toNat_natCast] at hd
   rw [hk]
   refine (okDoor_iff rfl).2 ⟨V.f0 r d hr hd, V.f1 r d hr hd, V.gLt r d hr hd, V.dLt r d hr hd, ?_, ?_⟩
   ·rw [V.f0 _ _ (V.gLt r d hr hd) (V.dLt r d hr hd), (V.back r d hr hd).1]
   ·rw [V.f1 _ _ (V.gLt r d hr hd) (V.dLt r d hr hd), (V.back r d hr hd).2]
theorem mvB_of {z : List (List S44)} {n k : Nat} (V : VZ z n k) : mvB z = true := by
 refine mvB_iff.2 ?_
 have h1 := V.len; subst h1
 have h2 : (rd_L4 z 0).length = k := V.row 0 V.n0
 rw [h2]; exact V
theorem ref_valid10 (z : List (List S44)) : Ev (fun k => mizmazeref10_Valid.f k z) (mvB z) := by
 unfold mizmazeref10_Valid.f
 have big : Ev (fun k => mizmazeref10_Valid.j0 k (z.length : Int) true z) false := by
  refine Ev.next ?_; simp only [mizmazeref10_Valid.j0, if_true]; exact Ev.now _
 have hk : kOfM z = ((rd_L4 z 0).length : Int) := rfl
 by_cases h1 : z.length < 1
 ·have e : mvB z = false := by unfold mvB; rw [decide_eq_false (by omega)]; rfl
  rw [e]; simp only [if_pos (by omega : (z.length : Int) < 1)]; exact big
 by_cases h2 : z.length > 60
 ·have e : mvB z = false := by unfold mvB; rw [decide_eq_false (by omega)]; rfl
  rw [e]; simp only [if_neg (by omega : ¬ (z.length : Int) < 1), decide_eq_true (by omega : (z.length : Int) > 60)]; exact big
 simp only [if_neg (by omega : ¬ (z.length : Int) < 1), decide_eq_false (by omega : ¬ (z.length : Int) > 60)]
 refine Ev.next ?_
 have bad : Ev (fun k => mizmazeref10_Valid.j1 k (z.length : Int) ((rd_L4 z 0).length : Int) true z) false := by
  refine Ev.next ?_; simp only [mizmazeref10_Valid.j1, if_true]; exact Ev.now _
 simp only [mizmazeref10_Valid.j0, Bool.false_eq_true, if_false, if_pos (by omega : 0 < (z.length : Int))]
 by_cases h3 : (rd_L4 z 0).length < 1
 ·have e : mvB z = false := by unfold mvB; rw [decide_eq_false (by rw [hk]; omega)]; rfl
  rw [e]; simp only [if_pos (by omega : ((rd_L4 z 0).length : Int) < 1)]; exact bad
 by_cases h4 : (rd_L4 z 0).length > 6
 ·have e : mvB z = false := by unfold mvB; rw [decide_eq_false (by rw [hk]; omega)]; rfl
  rw [e]; simp only [if_neg (by omega : ¬ ((rd_L4 z 0).length : Int) < 1), decide_eq_true (by omega : ((rd_L4 z 0).length : Int) > 6)]; exact bad
 simp only [if_neg (by omega : ¬ ((rd_L4 z 0).length : Int) < 1), decide_eq_false (by omega : ¬ ((rd_L4 z 0).length : Int) > 6)]
 refine Ev.next ?_
 simp only [mizmazeref10_Valid.j1, Bool.false_eq_true, if_false]
 generalize hkk : (rd_L4 z 0).length = kk at h3 h4
 have emv : mvB z = ((!z.any (lenB (kk : Int))) && (List.range z.length).all (okRow z)) := by
  unfold mvB
  rw [decide_eq_true (by rw [hk, hkk]; omega), Bool.true_and, hk, hkk]
 have two : (∀ r, r < z.length → (rd_L4 z (r : Int)).length = kk) → Ev (fun k => mizmazeref10_Valid.l1 k (z.length : Int) (kk : Int) 0 z) ((List.range z.length).all (okRow z)) := by
  intro row
  refine @Ev.every Bool (fun k i => mizmazeref10_Valid.l1 k (z.length : Int) (kk : Int) (i : Int) z) z.length true false _ (fun r => okRow z r) ?_ ?_ ?_ ?_ ?_
  ·intro h; rw [List.all_eq_true]; exact fun r hr => h r (List.mem_range.1 hr)
  ·intro r hr h
   rw [List.all_eq_false]
   exact ⟨r, List.mem_range.2 hr, by simp [h]⟩
  all_goals skip
  ·intro r hr h hE
   refine Ev.step (fun k => by rw [mizmazeref10_Valid.l1, if_pos (by omega)]) ?_
   have inner : ∀ e d : Nat, d + e = kk → Ev (fun k => mizmazeref10_Valid.l2 k (z.length : Int) (kk : Int) (r : Int) (d : Int) z) ((List.range z.length).all (okRow z)) := by
    intro e
    induction e with
    | zero =>
     intro d hd
     exact Ev.step (fun k => by rw [mizmazeref10_Valid.l2, if_neg (by omega), wrapS (by omega)]) hE
    | succ e ih =>
     intro d hd
     have ok : okDoor z (kk : Int) (r : Int) (d : Int) = true := by
      unfold okRow at h
      rw [List.all_eq_true] at h
      have := h d (List.mem_range.2 (by rw [hk, hkk]; omega))
      rw [hk, hkk] at this
      exact this
     obtain ⟨e0, e1, g0, g1, g2, g3⟩ := (okDoor_iff rfl).1 ok
     have rw1 := row r hr
     have rw2 := row _ g0
     refine Ev.step (fun k => by rw [mizmazeref10_Valid.l2, if_pos (by omega), if_pos (by omega), if_pos (by omega), if_pos (by omega), if_pos (by omega), e0, e1, if_neg (by omega), if_neg (by omega), if_neg (by omega), if_neg (by omega), if_pos (by omega), if_pos (by omega), if_pos (by omega), if_pos (by omega), g2, g3, if_neg (by simp), wrapS (by omega)]) (ih (d + 1) (by omega))
   exact inner kk 0 (by omega)
  ·intro r hr h
   refine Ev.step (fun k => by rw [mizmazeref10_Valid.l1, if_pos (by omega)]) ?_
   unfold okRow at h
   rw [hk, hkk, Int.toNat_natCast] at h
   have inner : ∀ e d : Nat, d + e = kk → (∀ j, j < d → okDoor z (kk : Int) (r : Int) (j : Int) = true) → Ev (fun k => mizmazeref10_Valid.l2 k (z.length : Int) (kk : Int) (r : Int) (d : Int) z) false := by
    intro e
    induction e with
    | zero =>
     intro d hd hj
     exfalso
     rw [List.all_eq_false] at h
     obtain ⟨j, hj1, hj2⟩ := h
     exact hj2 (hj j (by have := List.mem_range.1 hj1; omega))
    | succ e ih =>
     intro d hd hj
     have rw1 := row r hr
     cases ok : okDoor z (kk : Int) (r : Int) (d : Int) with
     | true =>
      obtain ⟨e0, e1, g0, g1, g2, g3⟩ := (okDoor_iff rfl).1 ok
      have rw2 := row _ g0
      refine Ev.step (fun k => by rw [mizmazeref10_Valid.l2, if_pos (by omega), if_pos (by omega), if_pos (by omega), if_pos (by omega), if_pos (by omega), e0, e1, if_neg (by omega), if_neg (by omega), if_neg (by omega), if_neg (by omega), if_pos (by omega), if_pos (by omega), if_pos (by omega), if_pos (by omega), g2, g3, if_neg (by simp), wrapS (by omega)]) (ih (d + 1) (by omega) fun j hjd => ?_)
      rcases Nat.lt_or_ge j d with h7 | h7
      ·exact hj j h7
      ·obtain rfl : j = d := by omega
       exact ok
     | false =>
      unfold okDoor at ok
      generalize hb0 : (rd_T44 (rd_L4 z (r : Int)) (d : Int)).f0 = b0 at ok
      generalize hb1 : (rd_T44 (rd_L4 z (r : Int)) (d : Int)).f1 = b1 at ok
      refine Ev.step (f := fun _ => some false) (fun k => ?_) (Ev.now _)
      rw [mizmazeref10_Valid.l2, if_pos (by omega), if_pos (by omega), if_pos (by omega), if_pos (by omega), if_pos (by omega), hb0, hb1]
      by_cases c1 : b0 < 0
      ·rw [if_pos c1]
      rw [if_neg c1]
      by_cases c2 : b0 ≥ (z.length : Int)
      ·rw [if_pos c2]
      rw [if_neg c2]
      by_cases c3 : b1 < 0
      ·rw [if_pos c3]
      rw [if_neg c3]
      by_cases c4 : b1 ≥ (kk : Int)
      ·rw [if_pos c4]
      rw [if_neg c4]
      obtain ⟨b0, rfl⟩ := Int.eq_ofNat_of_zero_le (show 0 ≤ b0 by omega)
      have rw2 := row b0 (by omega)
      rw [decide_eq_true (by omega), Bool.true_and] at ok
      rw [if_pos (by omega), if_pos (by omega), if_pos (by omega), if_pos (by omega), if_pos]
      rw [← Bool.not_and, ok]; rfl
   exact inner kk 0 (by omega) fun j hj => by omega
  ·exact Ev.step (f := fun _ => some true) (fun k => by rw [mizmazeref10_Valid.l1, if_neg (by omega)]) (Ev.now _)
 rw [emv]
 have outer : ∀ e i : Nat, i + e = z.length → (∀ j, j < i → (rd_L4 z (j : Int)).length = kk) → Ev (fun k => mizmazeref10_Valid.l0 k (z.length : Int) (kk : Int) (i : Int) z) ((!z.any (lenB (kk : Int))) && (List.range z.length).all (okRow z)) := by
  intro e
  induction e with
  | zero =>
   intro i hi hj
   obtain rfl : i = z.length := by omega
   have hany : z.any (lenB (kk : Int)) = false := by
    rw [List.any_eq_false]
    intro row hrow
    obtain ⟨j, hj1, rfl⟩ := List.getElem_of_mem hrow
    have := hj j hj1
    rw [rdLE4 hj1] at this
    unfold lenB
    simp [this]
   rw [hany, Bool.not_false, Bool.true_and]
   exact Ev.step (fun k => by rw [mizmazeref10_Valid.l0, if_neg (by omega)]) (two hj)
  | succ e ih =>
   intro i hi hj
   by_cases hc : (rd_L4 z (i : Int)).length = kk
   ·refine Ev.step (fun k => by rw [mizmazeref10_Valid.l0, if_pos (by omega), if_pos (by omega), if_pos (by omega), if_pos (by omega), wrapS (by omega)]) (ih (i + 1) (by omega) fun j hjd => ?_)
    rcases Nat.lt_or_ge j i with h7 | h7
    ·exact hj j h7
    ·obtain rfl : j = i := by omega
     exact hc
   ·have hany : z.any (lenB (kk : Int)) = true := by
     rw [List.any_eq_true]
     refine ⟨rd_L4 z (i : Int), by rw [rdLE4 (by omega)]; exact List.getElem_mem _, ?_⟩
     unfold lenB
     simp
     omega
    rw [hany]
    exact Ev.step (f := fun _ => some false) (fun k => by rw [mizmazeref10_Valid.l0, if_pos (by omega), if_pos (by omega), if_pos (by omega), if_neg (by omega)]) (Ev.now _)
 exact outer z.length 0 (by omega) fun j hj => by omega
theorem ref_word10 (d : Int) (l : List Int) : Ev (fun k => mizmazeref10_Word.f k d l) (decide (l.length ≤ 40000) && inB d l) := by
 unfold mizmazeref10_Word.f
 by_cases h : l.length ≤ 40000
 ·rw [decide_eq_true h, Bool.true_and]
  simp only [if_neg (by omega : ¬ (l.length : Int) > 40000)]
  have key : ∀ e i : Nat, i + e = l.length → Ev (fun k => mizmazeref10_Word.l0 k d l (i : Int)) (inB d (l.drop i)) := by
   intro e
   induction e with
   | zero =>
    intro i hi
    refine Ev.step (f := fun _ => some true) (fun k => by rw [mizmazeref10_Word.l0, if_neg (by omega)]) ?_
    rw [List.drop_eq_nil_of_le (by omega)]
    exact Ev.now true
   | succ e ih =>
    intro i hi
    have hlt : i < l.length := by omega
    have e1 : inB d (l.drop i) = (decide (0 ≤ l[i] ∧ l[i] < d) && inB d (l.drop (i + 1))) := by
     rw [List.drop_eq_getElem_cons hlt]; rfl
    rw [e1]
    by_cases h1 : l[i] < 0
    ·rw [decide_eq_false (by omega)]
     exact Ev.step (f := fun _ => some false) (fun k => by rw [mizmazeref10_Word.l0, if_pos (by omega), if_pos (by omega), rdE hlt, if_pos h1]) (Ev.now false)
    ·by_cases h2 : l[i] ≥ d
     ·rw [decide_eq_false (by omega)]
      exact Ev.step (f := fun _ => some false) (fun k => by rw [mizmazeref10_Word.l0, if_pos (by omega), if_pos (by omega), rdE hlt, if_neg h1, if_pos h2]) (Ev.now false)
     ·rw [decide_eq_true (by omega)]
      exact Ev.step (fun k => by rw [mizmazeref10_Word.l0, if_pos (by omega), if_pos (by omega), rdE hlt, if_neg h1, if_neg h2, wrapS (by omega)]) (ih (i + 1) (by omega))
  exact key l.length 0 (by omega)
 ·rw [decide_eq_false h, Bool.false_and]
  simp only [if_pos (by omega : (l.length : Int) > 40000)]
  exact Ev.now _
/-- Some answer; a valid maze is not wide. -/
theorem wide_ev (z : List (List S44)) : ∃ b, Ev (fun k => mizmazelaw10_Wide.f k z) b ∧ (mvB z = true → b = false) := by
 have key : ∀ e i : Nat, i + e = 100 → ∃ b, Ev (fun k => mizmazelaw10_Wide.l0 k (i : Int) z) b ∧ (mvB z = true → b = false) := by
  intro e
  induction e with
  | zero =>
   intro i hi
   refine ⟨decide ((z.length : Int) > 100), Ev.step (f := fun k => mizmazelaw10_Wide.j1 k (i : Int) false z) (fun k => ?_) (Ev.step (f := fun _ => some (decide ((z.length : Int) > 100))) (fun k => by rw [mizmazelaw10_Wide.j1, if_neg (by simp)]) (Ev.now _)), fun h => ?_⟩
   ·rw [mizmazelaw10_Wide.l0]
    by_cases c : (i : Int) < (z.length : Int)
    ·rw [if_pos c, decide_eq_false (by omega)]
    ·rw [if_neg c]
   ·have := (mvB_iff.1 h).n60
    exact decide_eq_false (by omega)
  | succ e ih =>
   intro i hi
   by_cases c : i < z.length
   ·by_cases c2 : (rd_L4 z (i : Int)).length > 100
    ·refine ⟨true, Ev.step (f := fun k => mizmazelaw10_Wide.j1 k (i : Int) true z) (fun k => by rw [mizmazelaw10_Wide.l0, if_pos (by omega), decide_eq_true (by omega)]) (Ev.step (f := fun _ => some true) (fun k => by rw [mizmazelaw10_Wide.j1, if_pos rfl, if_pos (by omega), if_pos (by omega), if_pos (by omega)]) (Ev.now _)), fun h => ?_⟩
     have V := mvB_iff.1 h
     have h1 := V.row i c
     have h2 := V.k6
     omega
    ·obtain ⟨b, hb, hv⟩ := ih (i + 1) (by omega)
     exact ⟨b, Ev.step (f := fun k => mizmazelaw10_Wide.j1 k (i : Int) true z) (fun k => by rw [mizmazelaw10_Wide.l0, if_pos (by omega), decide_eq_true (by omega)]) (Ev.step (fun k => by rw [mizmazelaw10_Wide.j1, if_pos rfl, if_pos (by omega), if_pos (by omega), if_neg (by omega), wrapS (by omega)]) hb), hv⟩
   ·refine ⟨decide ((z.length : Int) > 100), Ev.step (f := fun k => mizmazelaw10_Wide.j1 k (i : Int) false z) (fun k => by rw [mizmazelaw10_Wide.l0, if_neg (by omega)]) (Ev.step (f := fun _ => some (decide ((z.length : Int) > 100))) (fun k => by rw [mizmazelaw10_Wide.j1, if_neg (by simp)]) (Ev.now _)), fun h => ?_⟩
    have := (mvB_iff.1 h).n60
    exact decide_eq_false (by omega)
 exact key 100 0 (by omega)
end Go.Proofs.Ytgbjbgdnldklpaa.Q
end
/-! Part XGrid -/
section
namespace Go.Proofs.Ytgbjbgdnldklpaa.Q
open Go.RowKit Go.Proofs.YtgbjbgdnldklpaaW.PrintWords Go.Proofs.YtgbjbgdnldklpaaW.PrintLast Go.Proofs.YtgbjbgdnldklpaaW.PrintMore
set_option linter.unusedVariables false
set_option linter.unusedSimpArgs false
/-! ### rows of doors of one's own: a store into one of them -/
def doorCells (x : S44) : List Value := [.int .i64 x.f0, .int .i64 x.f1]
theorem k_M {W : World} {base : Nat} {ok : Nat → Prop} {x : S44} : k44.M W base ok x (doorCells x) := ⟨[.int .i64 x.f0], [.int .i64 x.f1], rfl, rfl, rfl⟩
theorem info_door : (Try.prog.info? 44).map (·.size) = some 2 := by kernel_rfl
set_option maxRecDepth 100000 in
theorem grid_put {W : World} {base n cap : Nat} {ok : Nat → Prop} {ad : Addr} {G : List (List S44)} (h : Kd.S (Kd.slice 44 k44) 40 W base ok (.slice (some ad) n cap) G) (a b : Int) (ha0 : 0 ≤ a) (ha : a < n) (hb0 : 0 ≤ b) (hb : b < ((rd_L4 G a).length : Int)) (x : S44) :
  ∃ gi ci, W.cell? (ad.add a.toNat) = some (.slice (some ⟨gi, 0, none⟩) (rd_L4 G a).length ci) ∧ ok gi ∧ (∃ cells, W.heap[gi]? = some (.cells cells 44 (0, 0))) ∧
   Kd.S (Kd.slice 44 k44) 40 (W.setCells gi (b.toNat * 2) (doorCells x)) base ok (.slice (some ad) n cap) (G.set a.toNat ((rd_L4 G a).set b.toNat x)) ∧ W.grownBy (W.setCells gi (b.toNat * 2) (doorCells x)) (some gi) ∧
   (Instr.storeAt 44 (.pointer (some ⟨gi, b.toNat * 2, none⟩)) (.agg #[.int .i64 x.f0, .int .i64 x.f1])).run Try.prog W = .ok () (W.setCells gi (b.toNat * 2) (doorCells x)) := by
 obtain ⟨oki, c, hcl, ⟨v, rfl, hR⟩, hcc, hoki, back⟩ := Kd.S_borrow h ([] : List S44) a ha0 ha
 have hlen : 0 < (rd_L4 G a).length := by omega
 obtain ⟨gi, ci, rfl, _, hlt, hty⟩ := Kd.R_form hR hlen
 obtain ⟨c, hc1, hc2, hc3, hc4⟩ := Kd.R_elem hR z44 b hb0 hb
 have hs : k44.sz = 2 := rfl
 obtain ⟨h1, h2⟩ := Kd.R_seg hR b hb0 hb (seg := doorCells x) (j := 0) hc1 hc3 (by rw [hs]; exact Nat.le_refl 2) (x' := x) (okp := fun _ => False) (by
  have e : List.take 0 c ++ doorCells x ++ List.drop (0 + (doorCells x).length) c = doorCells x := by
   rw [List.take_zero, List.nil_append, List.drop_eq_nil_of_le (by rw [hc1, hs]; exact Nat.le_refl 2), List.append_nil]
  rw [e]; exact k_M) (fun _ h => h.elim)
 have hrun : (Instr.storeAt 44 (.pointer (some ⟨gi, b.toNat * 2, none⟩)) (.agg #[.int .i64 x.f0, .int .i64 x.f1])).run Try.prog W = .ok () (W.setCells gi (b.toNat * 2) (doorCells x)) := by
  obtain ⟨_, inner, hown, hr⟩ := hR
  rcases hown.2 with ⟨hv, _⟩ | ⟨g', cap', cur, hv, hb', hh, hnc, hcm, hcs, _⟩
  ·cases hv
  injection hv with ha' _ hc'
  injection ha' with ha'
  injection ha' with hg'
  subst hg'; subst hc'
  refine run_store_run 44 _ (doorCells x) hh rfl info_door ?_ (by simp [doorCells, Value.oneCell'])
  have h2 : b.toNat * 2 + 2 ≤ (rd_L4 G a).length * 2 := by omega
  have h3 : (doorCells x).length = 2 := rfl
  have h4 : (rd_L4 G a).length = (G.getD a.toNat []).length := rfl
  have h5 : cur.size = ci * 2 := hcs
  omega
 refine ⟨gi, ci, ?_, (hoki gi (hR.1 gi rfl)).1, hty, ?_, h2, hrun⟩
 ·have e : a.toNat * (Kd.slice 44 k44).sz + 0 = a.toNat := Nat.mul_one _
  have := hcc 0 _ rfl
  rw [e] at this
  exact this
 ·exact back h2 (fun k hk => by injection hk with hk; subst hk; exact hR.1 gi rfl) ⟨_, rfl, h1⟩
end Go.Proofs.Ytgbjbgdnldklpaa.Q
end
/-! Part QRef10Many -/
section
-- Written by xprint.py, a program of this session's, over the kit's print. Lean checks it.
namespace Go.Proofs.Ytgbjbgdnldklpaa.Q
open Go.RowKit Go.Proofs.YtgbjbgdnldklpaaW.PrintWords Go.Proofs.YtgbjbgdnldklpaaW.PrintLast Go.Proofs.YtgbjbgdnldklpaaW.PrintMore
attribute [local go_sem] max2_int min2_int max_two min_two max_three min_three max_four min_four
set_option linter.unusedVariables false
set_option linter.unusedSimpArgs false

/-! ### mizmazeref10_Many: function 16 -/
end Go.Proofs.Ytgbjbgdnldklpaa.Q
end
