/- The law MazeLonger holds: if Check of a word is true, it is for fewer rooms, and with letters before and after; no bound on the arguments beyond their types'. (text 5 of 15) -/
import Derived.Test.YtgbjbgdnldklpaaProg
import Derived.Below
import Derived.Deep.Draws
import Derived.Deep.AppendLies
import Derived.Maps.AppendAt
import Derived.OwnWalk
import Derived.Laws.BytesArg
import Derived.Laws.MakeOwn
import Derived.Laws.OwnMore
import Derived.Deep.OwnRows
import Derived.Tactics
import Derived.Lib.ConvBytes
import Derived.Laws.Slices
import Derived.WalkKit
import Derived.KernelRfl
import Derived.RowKit3
import Derived.Deep.LoopGhost
import Derived.Deep.QuietTactic
import Derived.BigQuiet
import Derived.WideLaws
import Derived.Deep.DeepCutAuto
import Derived.Deep.CutBlock
import Derived.Deep.RegionHeld3
import Derived.Laws.Rows
import Derived.Lib.AppendStr
import Derived.ArgAppend
import Derived.Laws.IdiomCopy
import Derived.OrdersHeld
import Derived.Laws.BitsLemmas
import Derived.RowKit
import Derived.WalkMore
import Derived.Test.YtgbjbgdnldklpaaZMazeLongera
import Derived.Test.YtgbjbgdnldklpaaZMazeLongerc
import Derived.Test.YtgbjbgdnldklpaaZMazeLongerd
import Derived.Test.YtgbjbgdnldklpaaZMazeLongerb
/-! Part QBase -/
section
-- Written by xprint.py, a program of this session's, over the kit's print. Lean checks it.
namespace Go.Proofs.Ytgbjbgdnldklpaa.Q
open Go.RowKit Go.Proofs.YtgbjbgdnldklpaaW.PrintWords Go.Proofs.YtgbjbgdnldklpaaW.PrintLast Go.Proofs.YtgbjbgdnldklpaaW.PrintMore
attribute [local go_sem] max2_int min2_int max_two min_two max_three min_three max_four min_four
set_option linter.unusedVariables false
set_option linter.unusedSimpArgs false

def errW : Option Int → Value
  | none => .nilIface
  | some c => .iface 0 (.int .i64 c)
theorem errW_none : errW none = .nilIface := rfl
theorem errW_some (c : Int) : errW (some c) = .iface 0 (.int .i64 c) := rfl

theorem info3 : (Try.prog.info? 3).map (fun i => (i.zero, i.size, i.bytes)) = some (some (.int .i64 0), 1, 8) := by kernel_rfl
-- the values' own types
/-! #### struct type 44 -/
structure S44 where
  f0 : Int
  f1 : Int
def z44 : S44 := ⟨(0 : Int), (0 : Int)⟩
def rd_T44 (xs : List S44) (i : Int) : S44 := xs.getD i.toNat z44
def rd_L4 (xs : List (List S44)) (i : Int) : (List S44) := xs.getD i.toNat ([] : List S44)
/-! #### struct type 38 -/
structure S38 where
  f0 : (List (List S44))
end Go.Proofs.Ytgbjbgdnldklpaa.Q
end
/-! Part XFits -/
section
namespace Go.Proofs.Ytgbjbgdnldklpaa.Q
open Go.RowKit Go.Proofs.YtgbjbgdnldklpaaW.PrintWords Go.Proofs.YtgbjbgdnldklpaaW.PrintLast Go.Proofs.YtgbjbgdnldklpaaW.PrintMore
set_option linter.unusedVariables false
set_option linter.unusedSimpArgs false

/-- Where the first element with p stands, or -1. -/
def findTo {α : Type} (p : α → Bool) (l : List α) : Int := match l.findIdx? p with | some i => (i : Int) | none => -1
theorem findTo_any {α : Type} (p : α → Bool) (l : List α) : decide (0 ≤ findTo p l) = l.any p := by
  unfold findTo
  cases h : l.findIdx? p with
  | none => rw [List.findIdx?_eq_none_iff] at h; simp; simpa using h
  | some i =>
    obtain ⟨h1, h2, _⟩ := List.findIdx?_eq_some_iff_getElem.1 h
    simp; exact ⟨_, List.getElem_mem h1, h2⟩
def NoneTo {α : Type} (p : α → Bool) (l : List α) (d : α) (x : Int) : Prop := ∀ j : Nat, (j : Int) < x → p (l.getD j d) = false
theorem NoneTo.zero {α : Type} (p : α → Bool) (l : List α) (d : α) : NoneTo p l d 0 := fun j h => by omega
theorem NoneTo.succ {α : Type} {p : α → Bool} {l : List α} {d : α} {x : Int} (h : NoneTo p l d x) (h0 : 0 ≤ x) (hp : p (l.getD x.toNat d) = false) : NoneTo p l d (x + 1) := fun j hj => by
  by_cases e : (j : Int) = x
  · have : j = x.toNat := by omega
    rw [this]; exact hp
  · exact h j (by omega)
theorem findTo_at {α : Type} {p : α → Bool} {l : List α} {d : α} {x : Int} (h : NoneTo p l d x) (h0 : 0 ≤ x) (hx : x < l.length) (hp : p (l.getD x.toNat d) = true) : findTo p l = x := by
  have : l.findIdx? p = some x.toNat := by
    rw [List.findIdx?_eq_some_iff_getElem]
    refine ⟨by omega, ?_, fun j hj => ?_⟩
    · rw [List.getD_eq_getElem?_getD, List.getElem?_eq_getElem (by omega)] at hp; exact hp
    · have := h j (by omega)
      rw [List.getD_eq_getElem?_getD, List.getElem?_eq_getElem (by omega)] at this
      simpa using this
  unfold findTo; rw [this]; simp; omega
theorem findTo_none {α : Type} {p : α → Bool} {l : List α} {d : α} {x : Int} (h : NoneTo p l d x) (hx : (l.length : Int) ≤ x) : findTo p l = -1 := by
  have : l.findIdx? p = none := by
    rw [List.findIdx?_eq_none_iff]
    intro a ha
    obtain ⟨j, hj, rfl⟩ := List.getElem_of_mem ha
    have := h j (by omega)
    rw [List.getD_eq_getElem?_getD, List.getElem?_eq_getElem (by omega)] at this
    exact this
  unfold findTo; rw [this]

def outB (n x : Int) : Bool := decide (x < 0 ∨ n ≤ x)
def inB (n : Int) (l : List Int) : Bool := l.all fun x => decide (0 ≤ x ∧ x < n)
theorem inB_eq (n : Int) (l : List Int) : inB n l = !l.any (outB n) := by
  unfold inB outB
  induction l with
  | nil => rfl
  | cons a l ih =>
    rw [List.all_cons, List.any_cons, ih, Bool.not_or]
    congr 1
    by_cases h1 : a < 0 <;> by_cases h2 : n ≤ a <;> simp_all <;> omega
set_option maxHeartbeats 400000 in
theorem within1_calls (x n : Int) (g : Nat) (w : World) (hg : w.cell? ⟨g, 0, none⟩ = some (.int .i64 n)) :
    Calls Try.prog 56 #[.int .i64 x, .pointer (some ⟨g, 0, none⟩)] w fun e w' => e = .returned (.bool (outB n x)) ∧ w = w' := by
  by_cases h : x < 0
  · go_enter Try.func56, Try.ntmps56
    go_wp2
    go_ret
    exact ⟨by simp [h, outB], rfl⟩
  · go_enter Try.func56, Try.ntmps56
    go_wp2
    go_ret
    exact ⟨by simp [outB]; omega, rfl⟩

theorem wrap_in {x : Int} {n : Nat} (h0 : 0 ≤ x) (h : x < (n : Int)) (hn : n ≤ 9223372036854775807) : wrap64 (x + 1) = x + 1 := by
  unfold wrap64
  omega

set_option maxRecDepth 100000 in
set_option maxHeartbeats 400000 in
/-- IndexFunc over []int by a predicate that reads memory alone. -/
theorem index1_calls (F : Nat) (caps : Array Value) (p : Int → Bool) (A : Option Addr) (c : Nat) (l : List Int) (w : World)
    (hr : Kd.C (Kd.int .i64) w A l.length l) (hc : l.length ≤ c)
    (hcall : ∀ a w, Sem.run Try.prog (callFunc F a) w = .ok (.enter F a) w)
    (hp : ∀ x, Calls Try.prog F (#[.int .i64 x] ++ caps) w fun e w' => e = .returned (.bool (p x)) ∧ w = w') :
    Calls Try.prog 62 #[.slice A l.length c, .func (.func F) #[] caps] w fun e w' => e = .returned (.int .i64 (findTo p l)) ∧ w = w' := by
  have hm : l.length ≤ 9223372036854775807 := hr.2.1
  have HP := Aside0.mk hp
  clear hp
  go_enter Try.func62, Try.ntmps62
  go_wp2
  go_loop [8] (fun i => ∃ x : Int, 0 ≤ x ∧ x ≤ l.length ∧ i = .int .i64 x ∧ Aside0 (NoneTo p l 0 x)) (fun i => l.length - (intOf i).toNat)
  case atStart => exact ⟨0, by omega, by omega, rfl, ⟨NoneTo.zero _ _ _⟩⟩
  case round =>
    obtain ⟨x, h0, h1, rfl, HA⟩ := hrel
    by_cases hlt : x < l.length
    · obtain ⟨ad, e, hx⟩ := Kd.at_int hr x h0 hlt
      cases e
      have c3 : decide (x < (l.length : Int)) = true := decide_eq_true hlt
      have k0 := Aside0.mk h0
      have k1 := Aside0.mk hlt
      replace h0 := eq_true h0
      replace hlt := eq_true hlt
      clear hr hc
      cases hpx : p (rd l x) with
      | true =>
        have HF := Aside0.mk (findTo_at HA.out k0.out k1.out hpx)
        have HPX := Aside0.mk hpx
        clear hpx
        go_wp2_with (refine ((HP.out _).mono ?_); rintro e w' ⟨rfl, rfl⟩; rw [HPX.out])
        go_ret
        exact ⟨by rw [HF.out]; rfl, rfl⟩
      | false =>
        have HF := Aside0.mk (NoneTo.succ HA.out k0.out hpx)
        have HPX := Aside0.mk hpx
        clear hpx
        go_wp2_with (refine ((HP.out _).mono ?_); rintro e w' ⟨rfl, rfl⟩; rw [HPX.out])
        go_round
        case rel => exact ⟨x + 1, by have := k0.out; omega, by have := k1.out; omega, by rw [wrap_in k0.out k1.out hm], HF⟩
        case measure => have := k0.out; have := k1.out; rw [wrap_in k0.out k1.out hm]; simp [intOf]; omega
    · have HF := Aside0.mk (findTo_none HA.out (by omega))
      go_wp2
      go_ret
      exact ⟨by rw [HF.out]; rfl, rfl⟩

set_option maxHeartbeats 400000 in
theorem contains1_calls (F : Nat) (caps : Array Value) (p : Int → Bool) (A : Option Addr) (c : Nat) (l : List Int) (w : World)
    (hr : Kd.C (Kd.int .i64) w A l.length l) (hc : l.length ≤ c)
    (hcall : ∀ a w, Sem.run Try.prog (callFunc F a) w = .ok (.enter F a) w)
    (hp : ∀ x, Calls Try.prog F (#[.int .i64 x] ++ caps) w fun e w' => e = .returned (.bool (p x)) ∧ w = w') :
    Calls Try.prog 55 #[.slice A l.length c, .func (.func F) #[] caps] w fun e w' => e = .returned (.bool (l.any p)) ∧ w = w' := by
  have HC := Aside0.mk (index1_calls F caps p A c l w hr hc hcall hp)
  clear hp hcall hr hc
  go_enter Try.func55, Try.ntmps55
  go_wp2_with (refine (HC.out.mono ?_); rintro e w' ⟨rfl, rfl⟩)
  go_ret
  exact ⟨by rw [← findTo_any]; rfl, rfl⟩

theorem call56 (a : Array Value) (w : World) : Sem.run Try.prog (callFunc 56 a) w = .ok (.enter 56 a) w := by
  go_simp
def maze_fits.f (l0 : List Int) (a1 : Int) : Option Bool := some (decide (l0.length ≤ 40000) && inB a1 l0)
set_option maxHeartbeats 400000 in
theorem maze_fits.calls (A0 : Option Addr) (c0 : Nat) (l0 : List Int) (a1 : Int) (r : Bool) (w : World) (hr0 : Kd.C (Kd.int .i64) w A0 l0.length l0) (hc0 : l0.length ≤ c0) (h : maze_fits.f l0 a1 = some r) :
    Calls Try.prog 41 #[.slice A0 l0.length c0, .int .i64 a1] w fun e w' => e = .returned (.bool r) ∧ Below w.heap.size w w' := by
  obtain rfl := Option.some.inj h
  have hB := below_alloc (Below.refl w.heap.size w) (.cells #[.int .i64 a1] 3)
  have HC := Aside0.mk (contains1_calls 56 #[.pointer (some ⟨w.heap.size, 0, none⟩)] (outB a1) A0 c0 l0 (w.alloc (.cells #[.int .i64 a1] 3)) (Kd.C_below hr0 hB) hc0 call56
    (fun x => within1_calls x a1 w.heap.size _ (by simp)))
  have hm := hr0.2.1
  have HB := Aside0.mk hB
  clear hB hr0 h
  by_cases hl : l0.length ≤ 40000
  · have h1 : decide ((l0.length : Int) ≤ 40000) = true := decide_eq_true (by omega)
    rw [decide_eq_true hl, Bool.true_and]
    clear hl
    go_enter Try.func41, Try.ntmps41
    go_wp2_with (refine (HC.out.mono ?_); rintro e w' ⟨rfl, rfl⟩)
    go_ret
    exact ⟨by rw [inB_eq]; rfl, HB.out⟩
  · have h1 : decide ((l0.length : Int) ≤ 40000) = false := decide_eq_false (by omega)
    rw [decide_eq_false hl, Bool.false_and]
    clear hl
    go_enter Try.func41, Try.ntmps41
    go_wp2
    go_ret
    exact ⟨rfl, HB.out⟩
end Go.Proofs.Ytgbjbgdnldklpaa.Q
end
/-! Part XSmall -/
section
namespace Go.Proofs.Ytgbjbgdnldklpaa.Q
open Go.RowKit Go.Proofs.YtgbjbgdnldklpaaW.PrintWords Go.Proofs.YtgbjbgdnldklpaaW.PrintLast Go.Proofs.YtgbjbgdnldklpaaW.PrintMore
set_option linter.unusedVariables false
set_option linter.unusedSimpArgs false
/-! ### a maze with few doors -/
theorem ne_type {W : World} {a b : Nat} {cs cs' : Array Value} {t t' : TypeId} (h : W.heap[a]? = some (.cells cs t (0, 0))) (h' : W.heap[b]? = some (.cells cs' t' (0, 0))) (ht : t ≠ t') : a ≠ b := by
  intro e
  subst e
  rw [h] at h'
  injection h' with h'
  injection h' with _ h2
  exact ht h2
/-- The cells of a maze: rooms, doors, and for each door the room behind it. -/
def smC (n d : Int) (rs : List Int) : Array Value := (.int .i64 n :: .int .i64 d :: rs.map (Value.int .u8)).toArray
/-- Block Z is a maze. -/
def SmB (w : World) (Z : Nat) (n d : Int) (rs : List Int) : Prop := w.heap[Z]? = some (.cells (smC n d rs) 66 (0, 0)) ∧ rs.length = 12
theorem SmB.n {w : World} {Z : Nat} {n d : Int} {rs : List Int} (h : SmB w Z n d rs) : w.cell? ⟨Z, 0, none⟩ = some (.int .i64 n) := (blk_cell h.1 0).trans rfl
theorem SmB.d {w : World} {Z : Nat} {n d : Int} {rs : List Int} (h : SmB w Z n d rs) : w.cell? ⟨Z, 1, none⟩ = some (.int .i64 d) := (blk_cell h.1 1).trans rfl
theorem SmB.at_ {w : World} {Z : Nat} {n d : Int} {rs : List Int} (h : SmB w Z n d rs) (i : Int) (h0 : 0 ≤ i) (h1 : i < 12) : w.cell? ⟨Z, 2 + i.toNat, none⟩ = some (.int .u8 (rd rs i)) := by
  refine (blk_cell h.1 (2 + i.toNat)).trans ?_
  have hl := h.2
  show (smC n d rs)[2 + i.toNat]? = _
  unfold smC
  rw [List.getElem?_toArray, show 2 + i.toNat = i.toNat + 1 + 1 by omega, List.getElem?_cons_succ, List.getElem?_cons_succ, List.getElem?_map]
  have : i.toNat < rs.length := by omega
  rw [List.getElem?_eq_getElem this]
  unfold rd
  rw [List.getD_eq_getElem?_getD, List.getElem?_eq_getElem this]
  rfl
def fullU (n : Int) : Int := IntKind.u16.wrap (IntKind.u16.wrap (2 ^ min n.toNat 16) - 1)
set_option maxHeartbeats 400000 in
theorem full_calls (w : World) (Z : Nat) (n d : Int) (rs : List Int) (hZ : SmB w Z n d rs) (h0 : 0 ≤ n) :
    Calls Try.prog 53 #[.pointer (some ⟨Z, 0, none⟩)] w fun e w' => e = .returned (.int .u16 (fullU n)) ∧ w = w' := by
  have hn := hZ.n
  have p0 := eq_true h0
  clear hZ h0
  go_enter Try.func53, Try.ntmps53
  go_wp2
  go_ret
  exact ⟨rfl, rfl⟩
/-- Is room t in the set? -/
def hasU (met t : Int) : Bool := Go.bits .and .u16 (met / 2 ^ min t.toNat 16) 1 == 0
def addU (met t : Int) : Int := Go.bits .or .u16 met (IntKind.u16.wrap (2 ^ min t.toNat 16))
theorem info_u8 : (Try.prog.info? 5).map (fun i => (i.zero, i.size, i.bytes)) = some (some (.int .u8 0), 1, 1) := by kernel_rfl
def portU (a d x : Int) : Int := IntKind.i64.wrap (IntKind.i64.wrap (IntKind.i64.wrap a * d) + x)
mutual
def small_connected.l0 : Nat → Int → Int → List Int → List Int → Int → Int → Option Bool
  | 0, _, _, _, _, _, _ => none
  | k + 1, n, d, rs, list, met, i => if i < (list.length : Int) then small_connected.l1 k n d rs list met i 0 else (if 0 ≤ n then some (met == fullU n) else none)
def small_connected.l1 : Nat → Int → Int → List Int → List Int → Int → Int → Int → Option Bool
  | 0, _, _, _, _, _, _, _ => none
  | k + 1, n, d, rs, list, met, i, x => if x < d then (if 0 ≤ i then (if i < (list.length : Int) then (if 0 ≤ portU (rd list i) d x then (if portU (rd list i) d x < 12 then (if 0 ≤ rd rs (portU (rd list i) d x) then (if hasU met (rd rs (portU (rd list i) d x)) = true then (if list.length < 140737488355327 then small_connected.l1 k n d rs (list ++ [rd rs (portU (rd list i) d x)]) (addU met (rd rs (portU (rd list i) d x))) i (wrap64 (x + 1)) else none) else small_connected.l1 k n d rs list met i (wrap64 (x + 1))) else none) else none) else none) else none) else none) else small_connected.l0 k n d rs list met (wrap64 (i + 1))
end
def small_connected.f (k : Nat) (n d : Int) (rs : List Int) : Option Bool := small_connected.l0 k n d rs [0] 1 0
theorem small_connected.mono_l : ∀ k, (∀ y0 y1 y2 y3 y4 y5, LeO (small_connected.l0 k y0 y1 y2 y3 y4 y5) (small_connected.l0 (k + 1) y0 y1 y2 y3 y4 y5)) ∧ (∀ y0 y1 y2 y3 y4 y5 y6, LeO (small_connected.l1 k y0 y1 y2 y3 y4 y5 y6) (small_connected.l1 (k + 1) y0 y1 y2 y3 y4 y5 y6))
  | 0 => ⟨fun _ _ _ _ _ _ r h => by simp [small_connected.l0] at h, fun _ _ _ _ _ _ _ r h => by simp [small_connected.l1] at h⟩
  | k + 1 => by
    obtain ⟨ih0, ih1⟩ := small_connected.mono_l k
    refine ⟨?_, ?_⟩
    · intro y0 y1 y2 y3 y4 y5
      unfold small_connected.l0
      repeat' first
      | (with_reducible exact ih1 _ _ _ _ _ _ _)
      | (with_reducible exact LeO.refl _)
      | (with_reducible exact LeO.none _)
      | (with_reducible refine LeO.ite ?_ ?_)
    · intro y0 y1 y2 y3 y4 y5 y6
      unfold small_connected.l1
      repeat' first
      | (with_reducible exact ih0 _ _ _ _ _ _)
      | (with_reducible exact ih1 _ _ _ _ _ _ _)
      | (with_reducible exact LeO.refl _)
      | (with_reducible exact LeO.none _)
      | (with_reducible refine LeO.ite ?_ ?_)
theorem small_connected.mono : ∀ a0 a1 a2 k, LeO (small_connected.f k a0 a1 a2) (small_connected.f (k + 1) a0 a1 a2) := fun _ _ _ k => (small_connected.mono_l k).1 _ _ _ _ _ _
set_option maxHeartbeats 2000000 in
set_option maxRecDepth 100000 in
theorem small_connected.calls (k : Nat) (n d : Int) (rs : List Int) (r : Bool) (w : World) (Z : Nat) (hZ : SmB w Z n d rs) (h : small_connected.f k n d rs = some r) :
    Calls Try.prog 39 #[.pointer (some ⟨Z, 0, none⟩)] w fun e w' => e = .returned (.bool r) ∧ Below w.heap.size w w' := by
  have HZ := Aside0.mk hZ
  have H' : Aside0 (small_connected.l0 k n d rs [0] 1 0 = some r) := ⟨h⟩
  clear hZ h
  go_enter Try.func39, Try.ntmps39
  go_wp2_with (first | ((with_reducible refine gate_dst (N := 8) rfl ?_); refine Kd.R_lit (Kd.int .u8) _ 5 ?hg (N := 8) ?hd (xs := [0]) (inner := [.int .u8 0]) (ok := fun _ => True) (okp := fun _ => True) ?hr ?hp (fun _ hk => hk) trivial (Below.refl _ _) (Nat.le_refl _) (by simp) ?_; (case hd => rfl); (case hg => rfl); (case hr => first | (go_simp; done) | (go_simp; rfl)); (case hp => exact (Reps.one (show Kd.M (Kd.int .u8) _ _ _ 0 [.int .u8 0] from rfl) (Reps.none _ _)));  intro v1 w1 hO1 hb1 _ hat1; have HO1 := Aside0.mk hO1; have HB1 := Aside0.mk hb1; clear hO1 hb1 hat1))
  go_loopg [3, 4, 5] k (fun kq v3 v4 v5 w' => ∃ (i met : Int) (list : List Int), v3 = .int .u16 met ∧ v5 = .int .i64 i ∧ Aside0 (small_connected.l0 kq n d rs list met i = some r) ∧ Aside0 (kq ≤ k) ∧ Aside0 (Kd.R (Kd.int .u8) 5 w' w.heap.size (fun _ => True) v4 list) ∧ Aside0 (Below w.heap.size w w'))
  case atStart => exact ⟨0, 1, [0], rfl, rfl, H', ⟨Nat.le_refl _⟩, HO1, HB1⟩
  case round =>
    clear H' HO1 HB1
    obtain ⟨i, met, list, rfl, rfl, HA, HK, HO, HB⟩ := hrel
    cases gk with
    | zero => exact absurd HA.out (by simp [small_connected.l0])
    | succ k1 =>
      have H := HA.out
      clear HA
      simp only [small_connected.l0] at H
      obtain ⟨A4, c4, e4⟩ := Kd.R_slice HO.out
      subst e4
      have HZr : Aside0 (SmB wr Z n d rs) := ⟨⟨blk_below HZ.out.1 HB.out, HZ.out.2⟩⟩
      have hcn := HZr.out.n
      have hcd := HZr.out.d
      by_cases d1 : i < (list.length : Int)
      · rw [if_pos d1] at H
        have H' := Aside0.mk H
        clear H
        have d1b := decide_eq_true d1
        have HI := Aside0.mk d1
        have q1 := eq_true d1
        clear d1
        go_wp2_with fail
        go_loopg [3, 4, 19] k1 (fun kq v3 v4 v19 w' => ∃ (x met : Int) (list : List Int), v3 = .int .u16 met ∧ v19 = .int .i64 x ∧ Aside0 (small_connected.l1 kq n d rs list met i x = some r) ∧ Aside0 (kq ≤ k1) ∧ Aside0 (Kd.R (Kd.int .u8) 5 w' w.heap.size (fun _ => True) v4 list) ∧ Aside0 (Below w.heap.size w w'))
        case atStart => exact ⟨0, met, list, rfl, rfl, H', ⟨Nat.le_refl _⟩, HO, HB⟩
        case round =>
          clear H' HO HB HZr hcn hcd q1 d1b HI
          obtain ⟨x, met2, list2, rfl, rfl, HA, HK2, HO, HB⟩ := hrel
          cases gk with
          | zero => exact absurd HA.out (by simp [small_connected.l1])
          | succ k2 =>
            have H := HA.out
            clear HA
            simp only [small_connected.l1] at H
            have HZr : Aside0 (SmB wr Z n d rs) := ⟨⟨blk_below HZ.out.1 HB.out, HZ.out.2⟩⟩
            have hcn := HZr.out.n
            have hcd := HZr.out.d
            by_cases d2 : x < d
            · rw [if_pos d2] at H
              by_cases d3 : 0 ≤ i
              · rw [if_pos d3] at H
                by_cases d4 : i < (list2.length : Int)
                · rw [if_pos d4] at H
                  obtain ⟨idx, hidx⟩ : ∃ z, portU (rd list2 i) d x = z := ⟨_, rfl⟩
                  rw [hidx] at H
                  unfold portU at hidx
                  by_cases d5 : 0 ≤ idx
                  · rw [if_pos d5] at H
                    by_cases d6 : idx < 12
                    · rw [if_pos d6] at H
                      obtain ⟨ad, c, e4, hx⟩ : ∃ ad c, u4 = Value.slice (some ad) list2.length c ∧ wr.cell? (ad.add i.toNat) = some (.int .u8 (rd list2 i)) := by
                        obtain ⟨A, c, e, _, hC⟩ := Kd.R_reads HO.out
                        obtain ⟨ad, cs, e2, _, hK, hc0⟩ := Kd.C_get hC 0 i d3 d4
                        subst e2
                        have hK2 : cs = [.int .u8 (rd list2 i)] := hK
                        subst hK2
                        exact ⟨ad, c, e, by have h9 := hc0 0 _ rfl; rw [show (Kd.int .u8).sz = 1 from rfl] at h9; simpa using h9⟩
                      subst e4
                      have hci := HZr.out.at_ idx d5 d6
                      obtain ⟨tt, hto⟩ : ∃ z, rd rs idx = z := ⟨_, rfl⟩
                      rw [hto] at hci H
                      by_cases d7 : 0 ≤ tt
                      · rw [if_pos d7] at H
                        have D2 := Aside0.mk d2
                        have D3 := Aside0.mk d3
                        have D4 := Aside0.mk d4
                        have q2 := eq_true d2
                        have q3 := eq_true d3
                        have q4 := eq_true d4
                        have q5 := eq_true d5
                        have q6 := eq_true d6
                        have q7 := eq_true d7
                        have d2b := decide_eq_true d2
                        have HTO := Aside0.mk hto
                        clear d2 d3 d4 d5 d6 d7 hto
                        by_cases d8 : hasU met2 tt = true
                        · rw [if_pos d8] at H
                          by_cases d9 : list2.length < 140737488355327
                          · rw [if_pos d9] at H
                            have H' := Aside0.mk H
                            have D9 := Aside0.mk d9
                            have d8b : (Go.bits .and .u16 (met2 / 2 ^ min tt.toNat 16) 1 == 0) = true := d8
                            clear H d8 d9
                            go_wp2_with fail
                            go_quiet (fail)
                            have HOq := Aside0.mk (Kd.R_drewN HO.out nq)
                            have HBq := Aside0.mk (pw_below_drewN HB.out nq)
                            go_wp2_with ((with_reducible refine gate_builtin (b := .append) (xs := #[.tmp 48, .tmp 50]) rfl ?_); at_builtin; refine Kd.R_append (Kd.int .u8) (w0 := w) w.heap.size rfl (.tmp 48) (.tmp 50) 89 5 (.int .u8 0) 1 rfl Try.underlying89 info_u8 rfl (by decide) (by omega) (Value.slice (some ad) list2.length c) list2 tt [.int .u8 tt] (fun _ => True) (fun _ => False) rfl rfl ?aP (fun _ hk => hk.elim) ?aF ?aO ?aB ?aS ?aL ?_; (case aP => exact rfl); (case aB => exact HBq.out); (case aF => exact (fun _ _ => trivial)); (case aO => exact HOq.out); (case aS => exact HBq.out.size); (case aL => have := D9.out; omega); intro v8 w8 ho hb hg hat;  have HO8 := Aside0.mk ho; have HB8 := Aside0.mk hb; clear ho hb hg hat)
                            go_roundg k2
                            case measure => omega
                            case rel => exact ⟨_, _, _, rfl, rfl, H', ⟨by have := HK2.out; omega⟩, HO8, HB8⟩
                          · rw [if_neg d9] at H; exact absurd H (by simp)
                        · rw [if_neg d8] at H
                          have H' := Aside0.mk H
                          have d8b : (Go.bits .and .u16 (met2 / 2 ^ min tt.toNat 16) 1 == 0) = false := by simpa [hasU] using d8
                          clear H d8
                          go_wp2_with fail
                          go_quiet (fail)
                          have HOq := Aside0.mk (Kd.R_drewN HO.out nq)
                          have HBq := Aside0.mk (pw_below_drewN HB.out nq)
                          go_wp2_with fail
                          go_roundg k2
                          case measure => omega
                          case rel => exact ⟨_, _, _, rfl, rfl, H', ⟨by have := HK2.out; omega⟩, HOq, HBq⟩
                      · rw [if_neg d7] at H; exact absurd H (by simp)
                    · rw [if_neg d6] at H; exact absurd H (by simp)
                  · rw [if_neg d5] at H; exact absurd H (by simp)
                · rw [if_neg d4] at H; exact absurd H (by simp)
              · rw [if_neg d3] at H; exact absurd H (by simp)
            · rw [if_neg d2] at H
              have H' := Aside0.mk H
              have d2b := decide_eq_false d2
              clear H d2
              go_wp2_with fail
              go_roundg k2
              case measure => have := HK2.out; omega
              case rel => exact ⟨_, _, _, rfl, rfl, H', ⟨by have := HK.out; have := HK2.out; omega⟩, HO, HB⟩
      · rw [if_neg d1] at H
        have d1b := decide_eq_false d1
        by_cases d2 : 0 ≤ n
        · rw [if_pos d2] at H
          obtain rfl := Option.some.inj H
          have D2 := Aside0.mk d2
          clear H d1 d2
          go_wp2_with (refine (full_calls wr Z n d rs HZr.out D2.out).mono ?_; rintro e w' ⟨rfl, rfl⟩)
          go_ret
          exact ⟨rfl, HB.out⟩
        · rw [if_neg d2] at H; exact absurd H (by simp)
end Go.Proofs.Ytgbjbgdnldklpaa.Q
end
/-! Part QMazeAsks -/
section
-- Written by xprint.py, a program of this session's, over the kit's print. Lean checks it.
namespace Go.Proofs.Ytgbjbgdnldklpaa.Q
open Go.RowKit Go.Proofs.YtgbjbgdnldklpaaW.PrintWords Go.Proofs.YtgbjbgdnldklpaaW.PrintLast Go.Proofs.YtgbjbgdnldklpaaW.PrintMore
attribute [local go_sem] max2_int min2_int max_two min_two max_three min_three max_four min_four
set_option linter.unusedVariables false
set_option linter.unusedSimpArgs false

/-! ### maze_asks: function 37 -/
def maze_asks.f (a0 : Int) (a1 : Int) : Option (Int) := if a0 < 1 then (some 2) else (if a1 < 1 then (some 2) else (if a1 > 6 then (some 2) else (if a0 > 12 then (some 2) else (if (wrap64 (a0 * a1)) > 12 then (some 2) else (some 0)))))
set_option maxHeartbeats 8000000 in
set_option maxRecDepth 100000 in
theorem maze_asks.calls (a0 : Int) (a1 : Int) (r : Int) (w : World) (h : maze_asks.f a0 a1 = some r) :
    Calls Try.prog 37 #[.int .i64 a0, .int .i64 a1] w fun e w' => e = .returned (.int .i64 r) ∧ Drawn0 w w' := by
  have H : (if a0 < 1 then (some 2) else (if a1 < 1 then (some 2) else (if a1 > 6 then (some 2) else (if a0 > 12 then (some 2) else (if (wrap64 (a0 * a1)) > 12 then (some 2) else (some 0)))))) = some r := h
  clear h
  by_cases c3 : a0 < 1
  · rw [if_pos c3] at H
    have c3b0 : decide (a0 < 1) = true := decide_eq_true c3
    clear c3
    obtain rfl := Option.some.inj H
    go_enter Try.func37, Try.ntmps37
    go_wp2
    go_ret
    exact ⟨by first | rfl | (simp; done) | (simp [*]; done), by repeat (first | exact Drawn0.refl _ | apply Drawn0.step)⟩
  · rw [if_neg c3] at H
    have c3b0 : decide (a0 < 1) = false := decide_eq_false c3
    clear c3
    by_cases c4 : a1 < 1
    · rw [if_pos c4] at H
      have c4b0 : decide (a1 < 1) = true := decide_eq_true c4
      clear c4
      obtain rfl := Option.some.inj H
      go_enter Try.func37, Try.ntmps37
      go_wp2
      go_ret
      exact ⟨by first | rfl | (simp; done) | (simp [*]; done), by repeat (first | exact Drawn0.refl _ | apply Drawn0.step)⟩
    · rw [if_neg c4] at H
      have c4b0 : decide (a1 < 1) = false := decide_eq_false c4
      clear c4
      by_cases c5 : a1 > 6
      · rw [if_pos c5] at H
        have c5b0 : decide (6 < a1) = true := decide_eq_true c5
        clear c5
        obtain rfl := Option.some.inj H
        go_enter Try.func37, Try.ntmps37
        go_wp2
        go_ret
        exact ⟨by first | rfl | (simp; done) | (simp [*]; done), by repeat (first | exact Drawn0.refl _ | apply Drawn0.step)⟩
      · rw [if_neg c5] at H
        have c5b0 : decide (6 < a1) = false := decide_eq_false c5
        clear c5
        by_cases c6 : a0 > 12
        · rw [if_pos c6] at H
          have c6b0 : decide (12 < a0) = true := decide_eq_true c6
          clear c6
          obtain rfl := Option.some.inj H
          go_enter Try.func37, Try.ntmps37
          go_wp2
          go_ret
          exact ⟨by first | rfl | (simp; done) | (simp [*]; done), by repeat (first | exact Drawn0.refl _ | apply Drawn0.step)⟩
        · rw [if_neg c6] at H
          have c6b0 : decide (12 < a0) = false := decide_eq_false c6
          clear c6
          by_cases c7 : (wrap64 (a0 * a1)) > 12
          · rw [if_pos c7] at H
            have c7b0 : decide (12 < (wrap64 (a0 * a1))) = true := decide_eq_true c7
            clear c7
            obtain rfl := Option.some.inj H
            go_enter Try.func37, Try.ntmps37
            go_wp2
            go_ret
            exact ⟨by first | rfl | (simp; done) | (simp [*]; done), by repeat (first | exact Drawn0.refl _ | apply Drawn0.step)⟩
          · rw [if_neg c7] at H
            have c7b0 : decide (12 < (wrap64 (a0 * a1))) = false := decide_eq_false c7
            clear c7
            obtain rfl := Option.some.inj H
            go_enter Try.func37, Try.ntmps37
            go_wp2
            go_ret
            exact ⟨by first | rfl | (simp; done) | (simp [*]; done), by repeat (first | exact Drawn0.refl _ | apply Drawn0.step)⟩

end Go.Proofs.Ytgbjbgdnldklpaa.Q
end
/-! Part QRef10Word -/
section
-- Written by xprint.py, a program of this session's, over the kit's print. Lean checks it.
namespace Go.Proofs.Ytgbjbgdnldklpaa.Q
open Go.RowKit Go.Proofs.YtgbjbgdnldklpaaW.PrintWords Go.Proofs.YtgbjbgdnldklpaaW.PrintLast Go.Proofs.YtgbjbgdnldklpaaW.PrintMore
attribute [local go_sem] max2_int min2_int max_two min_two max_three min_three max_four min_four
set_option linter.unusedVariables false
set_option linter.unusedSimpArgs false

/-! ### mizmazeref10_Word: function 17 -/
def mizmazeref10_Word.l0 : Nat → Int → List Int → Int → Option (Bool)
  | 0, _, _, _ => none
  | k + 1, x0, x1, x5 => if x5 < (x1.length : Int) then (if 0 ≤ x5 then (if (rd x1 x5) < 0 then (some false) else (if (rd x1 x5) ≥ x0 then (some false) else (mizmazeref10_Word.l0 k x0 x1 (wrap64 (x5 + 1))))) else (none)) else (some true)
def mizmazeref10_Word.f (k : Nat) (a0 : Int) (l1 : List Int) : Option (Bool) := if (l1.length : Int) > 40000 then (some false) else (mizmazeref10_Word.l0 k a0 l1 0)
theorem mizmazeref10_Word.mono_l : ∀ k, (∀ y0 y1 y2, LeO (mizmazeref10_Word.l0 k y0 y1 y2) (mizmazeref10_Word.l0 (k + 1) y0 y1 y2))
  | 0 => fun _ _ _ r h => by simp [mizmazeref10_Word.l0] at h
  | k + 1 => by
    have ih0 := mizmazeref10_Word.mono_l k
    · intro y0 y1 y2
      unfold mizmazeref10_Word.l0
      repeat' first
      | (with_reducible exact ih0 _ _ _)
      | (with_reducible exact LeO.refl _)
      | (with_reducible exact LeO.none _)
      | (with_reducible refine LeO.ite ?_ ?_)
      | (with_reducible refine LeO.bind ?_ (fun _ => ?_))
      | exact ih0 _ _ _
      | exact LeO.none _
      | refine LeO.ite ?_ ?_
      | refine LeO.bind ?_ (fun _ => ?_)
theorem mizmazeref10_Word.mono : ∀ a0 a1 k, LeO (mizmazeref10_Word.f k a0 a1) (mizmazeref10_Word.f (k + 1) a0 a1) := by
  intro a0 a1 k
  have ih0 := mizmazeref10_Word.mono_l k
  unfold mizmazeref10_Word.f
  repeat' first
      | (with_reducible exact ih0 _ _ _)
      | (with_reducible exact LeO.refl _)
      | (with_reducible exact LeO.none _)
      | (with_reducible refine LeO.ite ?_ ?_)
      | (with_reducible refine LeO.bind ?_ (fun _ => ?_))
      | exact ih0 _ _ _
      | exact LeO.none _
      | refine LeO.ite ?_ ?_
      | refine LeO.bind ?_ (fun _ => ?_)
set_option maxHeartbeats 8000000 in
set_option maxRecDepth 100000 in
theorem mizmazeref10_Word.calls (k : Nat) (a0 : Int) (A1 : Option Addr) (c1 : Nat) (l1 : List Int) (r : Bool) (w : World) (hr1 : Kd.C (Kd.int .i64) w A1 l1.length l1) (hc1 : l1.length ≤ c1) (h : mizmazeref10_Word.f k a0 l1 = some r) :
    Calls Try.prog 17 #[.int .i64 a0, .slice A1 l1.length c1] w fun e w' => e = .returned (.bool r) ∧ Drawn0 w w' := by
  have HR1 := Aside0.mk hr1
  have HC1 := Aside0.mk hc1
  clear hr1 hc1
  have H : (if (l1.length : Int) > 40000 then (some false) else (mizmazeref10_Word.l0 k a0 l1 0)) = some r := h
  clear h
  by_cases c3 : (l1.length : Int) > 40000
  · rw [if_pos c3] at H
    have c3b0 : decide (40000 < (l1.length : Int)) = true := decide_eq_true c3
    have c3b1 : decide (40000 < l1.length) = true := decide_eq_true (by omega)
    clear c3
    obtain rfl := Option.some.inj H
    go_enter Try.func17, Try.ntmps17
    go_wp2
    go_ret
    exact ⟨by first | rfl | (simp; done) | (simp [*]; done), by repeat (first | exact Drawn0.refl _ | apply Drawn0.step)⟩
  · rw [if_neg c3] at H
    have c3b0 : decide (40000 < (l1.length : Int)) = false := decide_eq_false c3
    have c3b1 : decide (40000 < l1.length) = false := decide_eq_false (by omega)
    clear c3
    have H' := Aside0.mk H
    clear H
    go_enter Try.func17, Try.ntmps17
    go_wp2
    go_loopg [5] k (fun kq v5 w' => ∃ (x5_1 : Int), v5 = .int .i64 x5_1 ∧ Aside0 (mizmazeref10_Word.l0 kq a0 l1 x5_1 = some r) ∧ Aside0 (kq ≤ k) ∧ Drawn0 w w')
    case atStart => exact ⟨(0), (by first | rfl | (simp; done) | (simp [*]; done)), H', ⟨Nat.le_refl _⟩, by repeat (first | exact Drawn0.refl _ | apply Drawn0.step)⟩
    case round =>
      clear H'
      try clear c1
      try clear p2
      try clear c3
      try clear c3b0
      try clear c3b1
      obtain ⟨x5_1, rfl, HA, HK1, ⟨m1, rfl⟩⟩ := hrel
      cases gk with
      | zero => exact absurd HA.out (by simp [mizmazeref10_Word.l0])
      | succ k1 =>
        have H := HA.out
        clear HA
        simp only [mizmazeref10_Word.l0] at H
        by_cases c4 : x5_1 < (l1.length : Int)
        · rw [if_pos c4] at H
          have c4b0 : decide (x5_1 < (l1.length : Int)) = true := decide_eq_true c4
          clear c4
          by_cases c5 : 0 ≤ x5_1
          · rw [if_pos c5] at H
            have c5b0 : decide (0 ≤ x5_1) = true := decide_eq_true c5
            clear c5
            by_cases c6 : (rd l1 x5_1) < 0
            · rw [if_pos c6] at H
              have c6b0 : decide ((rd l1 x5_1) < 0) = true := decide_eq_true c6
              clear c6
              obtain rfl := Option.some.inj H
              have p148 : 0 ≤ (x5_1 : Int) := of_decide_eq_true (by first | (with_reducible assumption) | assumption)
              have q148 : x5_1 < (l1.length : Int) := of_decide_eq_true (by first | (with_reducible assumption) | assumption)
              obtain ⟨ad148, e148, hx148_0⟩ := Kd.at_int HR1.out x5_1 p148 q148
              cases e148
              replace p148 := eq_true p148
              replace q148 := eq_true q148
              go_wp2
              go_ret
              exact ⟨by first | rfl | (simp; done) | (simp [*]; done), by repeat (first | exact Drawn0.refl _ | apply Drawn0.step)⟩
            · rw [if_neg c6] at H
              have c6b0 : decide ((rd l1 x5_1) < 0) = false := decide_eq_false c6
              clear c6
              by_cases c7 : (rd l1 x5_1) ≥ a0
              · rw [if_pos c7] at H
                have c7b0 : decide (a0 ≤ (rd l1 x5_1)) = true := decide_eq_true c7
                clear c7
                obtain rfl := Option.some.inj H
                have p148 : 0 ≤ (x5_1 : Int) := of_decide_eq_true (by first | (with_reducible assumption) | assumption)
                have q148 : x5_1 < (l1.length : Int) := of_decide_eq_true (by first | (with_reducible assumption) | assumption)
                obtain ⟨ad148, e148, hx148_0⟩ := Kd.at_int HR1.out x5_1 p148 q148
                cases e148
                replace p148 := eq_true p148
                replace q148 := eq_true q148
                have p149 : 0 ≤ (x5_1 : Int) := of_decide_eq_true (by first | (with_reducible assumption) | assumption)
                have q149 : x5_1 < (l1.length : Int) := of_decide_eq_true (by first | (with_reducible assumption) | assumption)
                obtain ⟨ad149, e149, hx149_0⟩ := Kd.at_int HR1.out x5_1 p149 q149
                obtain rfl : ad148 = ad149 := (by injection e149)
                replace p149 := eq_true p149
                replace q149 := eq_true q149
                go_wp2
                go_ret
                exact ⟨by first | rfl | (simp; done) | (simp [*]; done), by repeat (first | exact Drawn0.refl _ | apply Drawn0.step)⟩
              · rw [if_neg c7] at H
                have c7b0 : decide (a0 ≤ (rd l1 x5_1)) = false := decide_eq_false c7
                clear c7
                have H' := Aside0.mk H
                clear H
                have p148 : 0 ≤ (x5_1 : Int) := of_decide_eq_true (by first | (with_reducible assumption) | assumption)
                have q148 : x5_1 < (l1.length : Int) := of_decide_eq_true (by first | (with_reducible assumption) | assumption)
                obtain ⟨ad148, e148, hx148_0⟩ := Kd.at_int HR1.out x5_1 p148 q148
                cases e148
                replace p148 := eq_true p148
                replace q148 := eq_true q148
                have p149 : 0 ≤ (x5_1 : Int) := of_decide_eq_true (by first | (with_reducible assumption) | assumption)
                have q149 : x5_1 < (l1.length : Int) := of_decide_eq_true (by first | (with_reducible assumption) | assumption)
                obtain ⟨ad149, e149, hx149_0⟩ := Kd.at_int HR1.out x5_1 p149 q149
                obtain rfl : ad148 = ad149 := (by injection e149)
                replace p149 := eq_true p149
                replace q149 := eq_true q149
                go_wp2
                go_roundg k1
                case measure => have := HK1.out; omega
                case rel => exact ⟨(wrap64 (x5_1 + 1)), (by first | rfl | (simp; done) | (simp [*]; done)), H', ⟨by have := HK1.out; omega⟩, by repeat (first | exact Drawn0.refl _ | apply Drawn0.step)⟩
          · rw [if_neg c5] at H
            exact absurd H (by simp)
        · rw [if_neg c4] at H
          have c4b0 : decide (x5_1 < (l1.length : Int)) = false := decide_eq_false c4
          clear c4
          obtain rfl := Option.some.inj H
          go_wp2
          go_ret
          exact ⟨by first | rfl | (simp; done) | (simp [*]; done), by repeat (first | exact Drawn0.refl _ | apply Drawn0.step)⟩

end Go.Proofs.Ytgbjbgdnldklpaa.Q
end
/-! Part MNumA -/
section
namespace Go.Proofs.Ytgbjbgdnldklpaa.Q
open Go.RowKit Go.Proofs.YtgbjbgdnldklpaaW.PrintWords Go.Proofs.YtgbjbgdnldklpaaW.PrintLast Go.Proofs.YtgbjbgdnldklpaaW.PrintMore
set_option linter.unusedVariables false
/-! ### numbers, lists, rounds -/
theorem wrapS {i : Nat} (h : i + 1 ≤ 9223372036854775807) : wrap64 ((i : Int) + 1) = ((i + 1 : Nat) : Int) := by
  unfold wrap64; omega
theorem wrapI {z : Int} (h0 : -9223372036854775808 ≤ z) (h : z ≤ 9223372036854775807) : wrap64 z = z := by
  unfold wrap64; omega
theorem rdN (l : List Int) (i : Nat) : rd l (i : Int) = l.getD i 0 := rfl
theorem rdE {l : List Int} {i : Nat} (h : i < l.length) : rd l (i : Int) = l[i] := by
  rw [rdN, List.getD_eq_getElem?_getD, List.getElem?_eq_getElem h]; rfl
theorem rdBE {l : List Bool} {i : Nat} (h : i < l.length) : rdOf false l (i : Int) = l[i] := by
  show l.getD i false = _
  rw [List.getD_eq_getElem?_getD, List.getElem?_eq_getElem h]; rfl
theorem rdB_set {l : List Bool} {i j : Nat} {b : Bool} (hj : j < l.length) : rdOf false (l.set i b) (j : Int) = if i = j then b else rdOf false l (j : Int) := by
  rw [rdBE (by rw [List.length_set]; exact hj), rdBE hj, List.getElem_set]
theorem rdI_put {l : List Int} {i j : Nat} {v : Int} (hj : j < l.length) : rd (l.set i v) (j : Int) = if i = j then v else rd l (j : Int) := by
  rw [rdE (by rw [List.length_set]; exact hj), rdE hj, List.getElem_set]
theorem Ev.next {α : Type} {g : Nat → Option α} {r : α} (h : Ev (fun k => g (k + 1)) r) : Ev g r := Ev.step (fun _ => rfl) h
theorem Ev.ret {α : Type} {r r' : α} (e : r = r') : Ev (fun _ => some r) r' := e ▸ Ev.now r
/-! ### words -/
def Wd (m : Nat) (w : List Nat) : Prop := ∀ x ∈ w, x < m
theorem Wd.nil (m : Nat) : Wd m [] := fun _ h => nomatch h
theorem Wd.app {m : Nat} {v w : List Nat} (h : Wd m v) (k : Wd m w) : Wd m (v ++ w) := fun x hx => (List.mem_append.1 hx).elim (h x) (k x)
theorem Wd.right {m : Nat} {v w : List Nat} (h : Wd m (v ++ w)) : Wd m w := fun x hx => h x (List.mem_append.2 (Or.inr hx))
theorem Wd.tail {m x : Nat} {w : List Nat} (h : Wd m (x :: w)) : Wd m w := fun y hy => h y (List.mem_cons_of_mem _ hy)
theorem Wd.head {m x : Nat} {w : List Nat} (h : Wd m (x :: w)) : x < m := h x List.mem_cons_self
def toI (w : List Nat) : List Int := w.map fun (x : Nat) => (x : Int)
theorem toI_snoc (w : List Nat) (x : Nat) : toI (w ++ [x]) = toI w ++ [(x : Int)] := by simp [toI]
theorem toI_len (w : List Nat) : (toI w).length = w.length := by simp [toI]
theorem toI_rd {w : List Nat} {i : Nat} (h : i < w.length) : rd (toI w) (i : Int) = ((w[i] : Nat) : Int) := by
  rw [rdE (by rw [toI_len]; exact h)]; simp [toI]
theorem nodup_le : ∀ (n : Nat) (l : List Nat), l.Nodup → (∀ x ∈ l, x < n) → l.length ≤ n
  | 0, l, _, h => by
    cases l with
    | nil => exact Nat.le_refl 0
    | cons x l => exact absurd (h x List.mem_cons_self) (Nat.not_lt_zero x)
  | n + 1, l, hd, h => by
    by_cases hn : n ∈ l
    · have h1 := nodup_le n (l.erase n) (hd.erase n) fun x hx => by
        have h2 := h x (List.mem_of_mem_erase hx)
        have h3 : x ≠ n := fun e => by subst e; exact hd.not_mem_erase hx
        omega
      rw [List.length_erase_of_mem hn] at h1; omega
    · have := nodup_le n l hd fun x hx => by
        have h2 := h x hx
        have h3 : x ≠ n := fun e => hn (e ▸ hx)
        omega
      omega
end Go.Proofs.Ytgbjbgdnldklpaa.Q
end
/-! Part QEq0 -/
section
-- Written by xprint.py, a program of this session's, over the kit's print. Lean checks it.
namespace Go.Proofs.Ytgbjbgdnldklpaa.Q
open Go.RowKit Go.Proofs.YtgbjbgdnldklpaaW.PrintWords Go.Proofs.YtgbjbgdnldklpaaW.PrintLast Go.Proofs.YtgbjbgdnldklpaaW.PrintMore
attribute [local go_sem] max2_int min2_int max_two min_two max_three min_three max_four min_four
set_option linter.unusedVariables false
set_option linter.unusedSimpArgs false

theorem eqA44 (d : Nat) (w : World) (x0 y0 : Int) (x1 y1 : Int) :
    (Op.equalIn (d + 2) 44 (.agg #[.int .i64 x0, .int .i64 x1]) (.agg #[.int .i64 y0, .int .i64 y1])).run Try.prog w = .ok (x0 == y0 && (x1 == y1)) w := by
  refine eqA_of Try.underlying44 (by kernel_rfl) ?_
  refine eqf_cons (by rfl) (by go_simp; rfl) (by go_simp; rfl) (by go_simp) ?_
  exact eqf_last (by rfl) (by go_simp; rfl) (by go_simp; rfl) (by go_simp)
end Go.Proofs.Ytgbjbgdnldklpaa.Q
end
/-! Part XMValid -/
section
namespace Go.Proofs.Ytgbjbgdnldklpaa.Q
open Go.RowKit Go.Proofs.YtgbjbgdnldklpaaW.PrintWords Go.Proofs.YtgbjbgdnldklpaaW.PrintLast Go.Proofs.YtgbjbgdnldklpaaW.PrintMore
attribute [local go_sem high] eqA44
set_option linter.unusedVariables false
set_option linter.unusedSimpArgs false
/-! ### maze.Valid -/
end Go.Proofs.Ytgbjbgdnldklpaa.Q
end
/-! Part QRef10Valid -/
section
-- Written by xprint.py, a program of this session's, over the kit's print. Lean checks it.
namespace Go.Proofs.Ytgbjbgdnldklpaa.Q
open Go.RowKit Go.Proofs.YtgbjbgdnldklpaaW.PrintWords Go.Proofs.YtgbjbgdnldklpaaW.PrintLast Go.Proofs.YtgbjbgdnldklpaaW.PrintMore
attribute [local go_sem] max2_int min2_int max_two min_two max_three min_three max_four min_four
set_option linter.unusedVariables false
set_option linter.unusedSimpArgs false

attribute [local go_sem high] eqA44
/-! ### mizmazeref10_Valid: function 21 -/
end Go.Proofs.Ytgbjbgdnldklpaa.Q
end
/-! Part QLaw10Wide -/
section
-- Written by xprint.py, a program of this session's, over the kit's print. Lean checks it.
namespace Go.Proofs.Ytgbjbgdnldklpaa.Q
open Go.RowKit Go.Proofs.YtgbjbgdnldklpaaW.PrintWords Go.Proofs.YtgbjbgdnldklpaaW.PrintLast Go.Proofs.YtgbjbgdnldklpaaW.PrintMore
attribute [local go_sem] max2_int min2_int max_two min_two max_three min_three max_four min_four
set_option linter.unusedVariables false
set_option linter.unusedSimpArgs false

/-! ### mizmazelaw10_Wide: function 20 -/
end Go.Proofs.Ytgbjbgdnldklpaa.Q
end
/-! Part QRef07Same -/
section
-- Written by xprint.py, a program of this session's, over the kit's print. Lean checks it.
namespace Go.Proofs.Ytgbjbgdnldklpaa.Q
open Go.RowKit Go.Proofs.YtgbjbgdnldklpaaW.PrintWords Go.Proofs.YtgbjbgdnldklpaaW.PrintLast Go.Proofs.YtgbjbgdnldklpaaW.PrintMore
attribute [local go_sem] max2_int min2_int max_two min_two max_three min_three max_four min_four
set_option linter.unusedVariables false
set_option linter.unusedSimpArgs false

/-! ### mizmazeref07_Same: function 25 -/
end Go.Proofs.Ytgbjbgdnldklpaa.Q
end
/-! Part MMazeB -/
section
namespace Go.Proofs.Ytgbjbgdnldklpaa.Q
open Go.RowKit Go.Proofs.YtgbjbgdnldklpaaW.PrintWords Go.Proofs.YtgbjbgdnldklpaaW.PrintLast Go.Proofs.YtgbjbgdnldklpaaW.PrintMore
set_option linter.unusedVariables false
theorem inB_toI {m : Nat} {w : List Nat} : inB (m : Int) (toI w) = true ↔ Wd m w := by
  unfold inB toI
  rw [List.all_eq_true]
  constructor
  · intro h x hx
    have := h (x : Int) (List.mem_map.2 ⟨x, hx, rfl⟩)
    have := of_decide_eq_true this
    omega
  · intro h z hz
    obtain ⟨x, hx, rfl⟩ := List.mem_map.1 hz
    have := h x hx
    exact decide_eq_true (by omega)
theorem toI_of {m : Nat} {l : List Int} (h : inB (m : Int) l = true) : ∃ w, Wd m w ∧ l = toI w := by
  have h' := h
  unfold inB at h
  rw [List.all_eq_true] at h
  have e : l = toI (l.map Int.toNat) := by
    unfold toI
    rw [List.map_map]
    conv => lhs; rw [← List.map_id l]
    refine List.map_congr_left fun z hz => ?_
    have := of_decide_eq_true (h z hz)
    simp; omega
  exact ⟨l.map Int.toNat, by rw [e] at h'; exact inB_toI.1 h', e⟩
/-! ### valid mazes -/
/-- The room behind a door, and the door there. -/
def gz (z : List (List S44)) (r d : Nat) : Nat := (rd_T44 (rd_L4 z (r : Int)) (d : Int)).f0.toNat
def dz (z : List (List S44)) (r d : Nat) : Nat := (rd_T44 (rd_L4 z (r : Int)) (d : Int)).f1.toNat
structure VZ (z : List (List S44)) (n k : Nat) : Prop where
  len : z.length = n
  n0 : 0 < n
  n60 : n ≤ 60
  k0 : 0 < k
  k6 : k ≤ 6
  row : ∀ r, r < n → (rd_L4 z (r : Int)).length = k
  f0 : ∀ r d, r < n → d < k → (rd_T44 (rd_L4 z (r : Int)) (d : Int)).f0 = (gz z r d : Int)
  f1 : ∀ r d, r < n → d < k → (rd_T44 (rd_L4 z (r : Int)) (d : Int)).f1 = (dz z r d : Int)
  gLt : ∀ r d, r < n → d < k → gz z r d < n
  dLt : ∀ r d, r < n → d < k → dz z r d < k
  back : ∀ r d, r < n → d < k → gz z (gz z r d) (dz z r d) = r ∧ dz z (gz z r d) (dz z r d) = d
theorem ref_word10 (d : Int) (l : List Int) : Ev (fun k => mizmazeref10_Word.f k d l) (decide (l.length ≤ 40000) && inB d l) := by
  unfold mizmazeref10_Word.f
  by_cases h : l.length ≤ 40000
  · rw [decide_eq_true h, Bool.true_and]
    simp only [if_neg (by omega : ¬ (l.length : Int) > 40000)]
    have key : ∀ e i : Nat, i + e = l.length → Ev (fun k => mizmazeref10_Word.l0 k d l (i : Int)) (inB d (l.drop i)) := by
      intro e
      induction e with
      | zero =>
        intro i hi
        refine Ev.step (f := fun _ => some true) (fun k => by rw [mizmazeref10_Word.l0, if_neg (by omega)]) ?_
        rw [List.drop_eq_nil_of_le (by omega)]
        exact Ev.now true
      | succ e ih =>
        intro i hi
        have hlt : i < l.length := by omega
        have e1 : inB d (l.drop i) = (decide (0 ≤ l[i] ∧ l[i] < d) && inB d (l.drop (i + 1))) := by
          rw [List.drop_eq_getElem_cons hlt]; rfl
        rw [e1]
        by_cases h1 : l[i] < 0
        · rw [decide_eq_false (by omega)]
          exact Ev.step (f := fun _ => some false) (fun k => by rw [mizmazeref10_Word.l0, if_pos (by omega), if_pos (by omega), rdE hlt, if_pos h1]) (Ev.now false)
        · by_cases h2 : l[i] ≥ d
          · rw [decide_eq_false (by omega)]
            exact Ev.step (f := fun _ => some false) (fun k => by rw [mizmazeref10_Word.l0, if_pos (by omega), if_pos (by omega), rdE hlt, if_neg h1, if_pos h2]) (Ev.now false)
          · rw [decide_eq_true (by omega)]
            exact Ev.step (fun k => by rw [mizmazeref10_Word.l0, if_pos (by omega), if_pos (by omega), rdE hlt, if_neg h1, if_neg h2, wrapS (by omega)]) (ih (i + 1) (by omega))
    exact key l.length 0 (by omega)
  · rw [decide_eq_false h, Bool.false_and]
    simp only [if_pos (by omega : (l.length : Int) > 40000)]
    exact Ev.now _
end Go.Proofs.Ytgbjbgdnldklpaa.Q
end
