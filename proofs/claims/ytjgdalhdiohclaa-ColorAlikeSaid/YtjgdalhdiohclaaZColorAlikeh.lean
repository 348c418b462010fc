/- A colouring of a colouring is a colouring; whether an automaton is strongly connected, its period, its classes, its sinks and the number of its colourings are the same for all of them; Same holds both ways. (text 8 of 29) -/
import Derived.Test.YtjgdalhdiohclaaZColorAlikef
import Derived.ProofKit
import Derived.OpenShut
import Derived.ChangeOld
import Derived.ChangeSlices
import Derived.Deep.Matrix
/-! Part XOpen -/
section
namespace Go.Proofs.Ytjgdalhdiohclaa.Q
open Go.RowKit Go.Proofs.YtjgdalhdiohclaaW.PrintWords Go.Proofs.YtjgdalhdiohclaaW.PrintLast Go.Proofs.YtjgdalhdiohclaaW.PrintMore
open Go.ChangeShapes Go.WideShapes
set_option linter.unusedVariables false
set_option linter.unusedSimpArgs false
def IntsOk (l : List Int) : Prop := l.length ≤ 9223372036854775807 ∧ ∀ z ∈ l, -9223372036854775808 ≤ z ∧ z ≤ 9223372036854775807
def RowsOk (rows : List (List Int)) : Prop := rows.length ≤ 9223372036854775807 ∧ ∀ row ∈ rows, IntsOk row
theorem int_wf {z : Int} (h : (Lit.int .i64 z).wf = true) : -9223372036854775808 ≤ z ∧ z ≤ 9223372036854775807 := by
 have hmin : IntKind.i64.min = -9223372036854775808 := rfl
 have hmax : IntKind.i64.max = 9223372036854775807 := rfl
 simp only [Lit.wf, Bool.and_eq_true, decide_eq_true_eq] at h
 omega
section
variable {H : Type} {enc : TypeId × Value → H} {P : Program} {w : World} {held : Bool}
theorem cints {A : Addr} {n : Nat} {zs : List Int} (hz : n ≤ zs.length) (hn : n ≤ 9223372036854775807) (hc : ∀ i, i < n → w.cell? (A.add i) = some (.int .i64 (zs.getD i 0))) :
  Kd.C (Kd.int .i64) w (some A) (zs.take n).length (zs.take n) := by
 have hl : (zs.take n).length = n := by rw [List.length_take]; omega
 refine ⟨rfl, by omega, fun h => ⟨A, rfl, fun j p hj => ⟨[.int .i64 p], rfl, rfl, fun i u hu => ?_⟩⟩⟩
 cases i with
 | zero =>
  simp only [List.getElem?_cons_zero, Option.some.injEq] at hu
  subst hu
  have hj' : j < n := by have := (List.getElem?_eq_some_iff.1 hj).1; omega
  have := hc j hj'
  rw [List.getElem?_take_of_lt hj'] at hj
  simp only [Kd.int, Kd.scalar, Nat.mul_one, Nat.add_zero]
  rw [this, List.getD_eq_getElem?_getD, hj]
  rfl
 | succ i => simp at hu
theorem open_rowsC {t e q : TypeId} {fuel : Nat} {cs : List Value} {x : DataW H × List MemPlace} (ht : P.underlying t = some (.slice e)) (he : P.underlying e = some (.slice q)) (hq : P.underlying q = some (.int .i64))
  (ce : P.cellsOf e = 1) (cq : P.cellsOf q = 1) (h : DataW.trod enc P w 0 (fun _ => true) held fuel t cs = some x) (h3 : q = 3) :
  ∃ (a : Option Addr) (c : Nat) (rows : List (List Int)), cs = [.slice a rows.length c] ∧ rows.length ≤ c ∧ Kd.C (Kd.slice 3 (Kd.int .i64)) w a rows.length rows ∧ RowsOk rows := by
 subst h3
 rcases Go.Deep.open_int_rows ht he hq ce cq h with ⟨rfl, _⟩ | ⟨a, len, cap, A, L, C, Z, rfl, _, hl, hm, _, hr⟩
 ·exact ⟨none, 0, [], rfl, Nat.le_refl _, Kd.C_nil _ _, by simp [RowsOk], by simp⟩
 ·unfold maxLen at hm
  have hlen : ((List.range len).map fun r => (Z r).take (L r)).length = len := by simp
  refine ⟨some a, cap, (List.range len).map fun r => (Z r).take (L r), by rw [hlen], by omega, ⟨rfl, by omega, fun _ => ⟨a, rfl, fun j p hj => ?_⟩⟩, by omega, ?_⟩
  ·have hj' : j < len := by have := (List.getElem?_eq_some_iff.1 hj).1; omega
   rw [List.getElem?_map, List.getElem?_range hj'] at hj
   simp only [Option.map_some, Option.some.injEq] at hj
   subst hj
   obtain ⟨h1, h2, h3, h4, h5, h6, h7⟩ := hr j (by omega)
   unfold maxLen at h3
   have hl2 : ((Z j).take (L j)).length = L j := by rw [List.length_take]; omega
   refine ⟨[.slice (A j) (L j) (C j)], rfl, ⟨A j, C j, by rw [hl2], by omega, ?_⟩, fun i u hu => ?_⟩
   ·cases hA : A j with
    | none =>
     have : (Z j).take (L j) = [] := List.eq_nil_of_length_eq_zero (by have := h6 hA; omega)
     rw [this]
     exact Kd.C_nil _ _
    | some a' => exact cints (by omega) (by omega) (fun i hi => (h7 a' hA).2 i (by omega))
   ·cases i with
    | zero =>
     simp only [List.getElem?_cons_zero, Option.some.injEq] at hu
     subst hu
     simpa [Kd.slice] using h1
    | succ i => simp at hu
  ·intro row hrow
   obtain ⟨r, hr2, rfl⟩ := List.mem_map.1 hrow
   have hr3 : r < len := by simpa using hr2
   obtain ⟨h1, h2, h3, h4, h5, h6, h7⟩ := hr r (by omega)
   unfold maxLen at h3
   exact ⟨by rw [List.length_take]; omega, fun z hz => int_wf (h5 z (List.mem_of_mem_take hz))⟩
theorem open_rowsS {t e : TypeId} {v : Value} {r : Reach} {b0 : Nat} {d : DataW H} {ps : List MemPlace} (ht : P.underlying t = some (.slice e)) (he : P.underlying e = some (.slice 3)) (hq : P.underlying 3 = some (.int .i64))
  (ce : P.cellsOf e = 1) (cq : P.cellsOf 3 = 1) (hv : Value.okWide P w r b0 t v) (h : DataW.Trod enc P w 0 (fun _ => true) held t v d ps) :
  ∃ (a : Option Addr) (c : Nat) (rows : List (List Int)), v = .slice a rows.length c ∧ rows.length ≤ c ∧ Kd.C (Kd.slice 3 (Kd.int .i64)) w a rows.length rows ∧ RowsOk rows := by
 obtain ⟨a, n, c, rfl⟩ := okWide_slice ht hv
 obtain ⟨fuel, hf⟩ := h
 obtain ⟨a', c', rows, hcs, r1, r2, r3⟩ := open_rowsC ht he hq ce cq hf rfl
 simp [Value.cells] at hcs
 obtain ⟨rfl, rfl, rfl⟩ := hcs
 exact ⟨_, _, rows, rfl, r1, r2, r3⟩
theorem open_autoC {t tr e : TypeId} {f0 : Field} {v : Value} {r : Reach} {b0 : Nat} {d : DataW H} {ps : List MemPlace} (hs : P.underlying t = some (.struct #[f0])) (hf0 : f0.type = tr) (ho : f0.offset = 0) (hC : P.cellsOf t = 1) (hC0 : P.cellsOf tr = 1) (ht : P.underlying tr = some (.slice e)) (he : P.underlying e = some (.slice 3)) (hq : P.underlying 3 = some (.int .i64))
  (ce : P.cellsOf e = 1) (cq : P.cellsOf 3 = 1) (hv : Value.okWide P w r b0 t v) (h : DataW.Trod enc P w 0 (fun _ => true) held t v d ps) :
  ∃ (a : Option Addr) (c : Nat) (rows : List (List Int)), v = .agg #[.slice a rows.length c] ∧ rows.length ≤ c ∧ Kd.C (Kd.slice 3 (Kd.int .i64)) w a rows.length rows ∧ RowsOk rows := by
 obtain ⟨cs, rfl, hsz⟩ := okWide_struct hs hv
 obtain ⟨fuel, hf⟩ := h
 obtain ⟨y0, n, _, _, h0⟩ := trod_struct1 hs hf
 subst hf0
 rw [ho, hC0] at h0
 obtain ⟨l⟩ := cs
 match l, hsz.trans hC with
 | [c0], _ =>
  simp only [Value.cells, List.drop_zero] at h0
  obtain ⟨a', c', rows, hcs, r1, r2, r3⟩ := open_rowsC ht he hq ce cq h0 rfl
  simp at hcs
  subst hcs
  exact ⟨_, _, rows, rfl, r1, r2, r3⟩
end
end Go.Proofs.Ytjgdalhdiohclaa.Q
end
/-! Part MBase -/
section
namespace Go.Proofs.Ytjgdalhdiohclaa.Q
open Go.RowKit Go.Proofs.YtjgdalhdiohclaaW.PrintWords Go.Proofs.YtjgdalhdiohclaaW.PrintLast Go.Proofs.YtjgdalhdiohclaaW.PrintMore
set_option linter.unusedVariables false
theorem wrapS {i : Nat} (h : i + 1 ≤ 9223372036854775807) : wrap64 ((i : Int) + 1) = ((i + 1 : Nat) : Int) := by
 unfold wrap64; omega
theorem wrapI {z : Int} (h0 : -9223372036854775808 ≤ z) (h : z ≤ 9223372036854775807) : wrap64 z = z := by
 unfold wrap64; omega
theorem rdN (l : List Int) (i : Nat) : rd l (i : Int) = l.getD i 0 := rfl
theorem rdE {l : List Int} {i : Nat} (h : i < l.length) : rd l (i : Int) = l[i] := by
 rw [rdN, List.getD_eq_getElem?_getD, List.getElem?_eq_getElem h]; rfl
theorem rdLN (l : List (List Int)) (i : Nat) : rd_L1 l (i : Int) = l.getD i [] := rfl
theorem rdLE {l : List (List Int)} {i : Nat} (h : i < l.length) : rd_L1 l (i : Int) = l[i] := by
 rw [rdLN, List.getD_eq_getElem?_getD, List.getElem?_eq_getElem h]; rfl
theorem rdBE {l : List Bool} {i : Nat} (h : i < l.length) : rdOf false l (i : Int) = l[i] := by
 show l.getD i false = _
 rw [List.getD_eq_getElem?_getD, List.getElem?_eq_getElem h]; rfl
theorem rd_in {l : List Int} {n x : Int} (h : inB n l = true) (h0 : 0 ≤ x) (h1 : x < l.length) : 0 ≤ rd l x ∧ rd l x < n := by
 obtain ⟨i, rfl⟩ := Int.eq_ofNat_of_zero_le h0
 rw [rdE (by omega)]
 unfold inB at h
 rw [List.all_eq_true] at h
 simpa using h _ (List.getElem_mem (by omega : i < l.length))
theorem Ev.eq {α : Type} {g : Nat → Option α} {r r' : α} (h : Ev g r) (e : r = r') : Ev g r' := e ▸ h
theorem ref_below (l : List Int) (n : Int) (hl : l.length ≤ 9223372036854775806) : Ev (fun k => mizmazeref01_Below.f k l n) (inB n l) := by
 have key : ∀ d i : Nat, i + d = l.length → Ev (fun k => mizmazeref01_Below.l0 k l n (i : Int)) (inB n (l.drop i)) := by
  intro d
  induction d with
  | zero =>
   intro i hi
   refine Ev.step (f := fun _ => some true) (fun k => by rw [mizmazeref01_Below.l0, if_neg (by omega)]) ?_
   rw [List.drop_eq_nil_of_le (by omega)]
   exact Ev.now true
  | succ d ih =>
   intro i hi
   have hlt : i < l.length := by omega
   have e : inB n (l.drop i) = (decide (0 ≤ l[i] ∧ l[i] < n) && inB n (l.drop (i + 1))) := by
    rw [List.drop_eq_getElem_cons hlt]; rfl
   rw [e]
   by_cases h1 : l[i] < 0
   ·refine Ev.step (f := fun _ => some false) (fun k => by rw [mizmazeref01_Below.l0, if_pos (by omega), if_pos (by omega), rdE hlt, if_pos h1]) ?_
    rw [decide_eq_false (by omega)]
    exact Ev.now false
   ·by_cases h2 : l[i] ≥ n
    ·refine Ev.step (f := fun _ => some false) (fun k => by rw [mizmazeref01_Below.l0, if_pos (by omega), if_pos (by omega), rdE hlt, if_neg h1, if_pos h2]) ?_
     rw [decide_eq_false (by omega)]
     exact Ev.now false
    ·refine Ev.step (f := fun k => mizmazeref01_Below.l0 k l n ((i + 1 : Nat) : Int)) (fun k => by rw [mizmazeref01_Below.l0, if_pos (by omega), if_pos (by omega), rdE hlt, if_neg h1, if_neg h2, wrapS (by omega)]) ?_
     rw [decide_eq_true (by omega)]
     exact ih (i + 1) (by omega)
 exact key l.length 0 (by omega)
theorem Ev.next {α : Type} {g : Nat → Option α} {r : α} (h : Ev (fun k => g (k + 1)) r) : Ev g r := Ev.step (fun _ => rfl) h
theorem Ev.ret {α : Type} {r r' : α} (e : r = r') : Ev (fun _ => some r) r' := e ▸ Ev.now r
theorem Ev.every {α : Type} {g : Nat → Nat → Option α} {n : Nat} {yes no r : α} (p : Nat → Bool)
  (hy : (∀ i, i < n → p i = true) → r = yes) (hn : ∀ i, i < n → p i = false → r = no)
  (go : ∀ i, i < n → p i = true → Ev (fun k => g k (i + 1)) r → Ev (fun k => g k i) r)
  (stop : ∀ i, i < n → p i = false → Ev (fun k => g k i) no) (fin : Ev (fun k => g k n) yes) : Ev (fun k => g k 0) r := by
 have key : ∀ d i : Nat, i + d = n → (∀ j, j < i → p j = true) → Ev (fun k => g k i) r := by
  intro d
  induction d with
  | zero =>
   intro i hi hj
   obtain rfl : i = n := by omega
   rw [hy hj]; exact fin
  | succ d ih =>
   intro i hi hj
   cases hp : p i with
   | false => rw [hn i (by omega) hp]; exact stop i (by omega) hp
   | true =>
    refine go i (by omega) hp (ih (i + 1) (by omega) fun j h => ?_)
    rcases Nat.lt_or_ge j i with h4 | h4
    ·exact hj j h4
    ·obtain rfl : j = i := by omega
     exact hp
 exact key n 0 (by omega) fun j h => by omega
structure VA (rows : List (List Int)) (n m : Nat) : Prop where
 len : rows.length = n
 n0 : 0 < n
 n60 : n ≤ 60
 m0 : 0 < m
 m6 : m ≤ 6
 row : ∀ s, s < n → (rd_L1 rows (s : Int)).length = m
 ent : ∀ s, s < n → inB n (rd_L1 rows (s : Int)) = true
theorem any_bad {l : List (List Int)} {p : List Int → Bool} : l.any p = false ↔ ∀ i, i < l.length → p (rd_L1 l (i : Int)) = false := by
 rw [List.any_eq_false]
 refine ⟨fun h i hi => by rw [rdLE hi]; simpa using h _ (List.getElem_mem hi), fun h x hx => ?_⟩
 obtain ⟨i, hi, rfl⟩ := List.getElem_of_mem hx
 have := h i hi
 rw [rdLE hi] at this
 simp [this]
theorem validB_iff {rows : List (List Int)} : validB rows = true ↔ VA rows rows.length (rd_L1 rows 0).length := by
 unfold validB kOf badB
 rw [Bool.and_eq_true, decide_eq_true_eq, Bool.not_eq_true', any_bad]
 constructor
 ·rintro ⟨⟨h1, h2, h3, h4⟩, h5⟩
  have e := fun s (h : s < rows.length) => h5 s h
  simp only [Bool.or_eq_false_iff, decide_eq_false_iff_not, Bool.not_eq_false', Classical.not_not] at e
  exact ⟨rfl, by omega, by omega, by omega, by omega, fun s h => by have := (e s h).1; omega, fun s h => (e s h).2⟩
 ·intro V
  have := V.n0; have := V.n60; have := V.m0; have := V.m6
  refine ⟨⟨by omega, by omega, by omega, by omega⟩, fun i hi => ?_⟩
  have := V.row i hi
  simp only [Bool.or_eq_false_iff, decide_eq_false_iff_not, Bool.not_eq_false', Classical.not_not]
  exact ⟨by omega, V.ent i hi⟩
theorem validB_of {rows : List (List Int)} {n m : Nat} (V : VA rows n m) : validB rows = true := by
 refine validB_iff.2 ?_
 have h1 := V.len; subst h1
 have h2 : (rd_L1 rows 0).length = m := V.row 0 V.n0
 rw [h2]; exact V
theorem ref_valid (rows : List (List Int)) (ho : RowsOk rows) : Ev (fun k => mizmazeref01_Valid.f k rows) (validB rows) := by
 unfold mizmazeref01_Valid.f
 have big : Ev (fun k => mizmazeref01_Valid.j0 k (rows.length : Int) true rows) false := by
  refine Ev.next ?_; simp only [mizmazeref01_Valid.j0, if_true]; exact Ev.now _
 by_cases h1 : rows.length = 0
 ·have e : validB rows = false := by rw [Bool.eq_false_iff]; intro h; have := (validB_iff.1 h).n0; omega
  rw [e]; simp only [if_pos (by omega : (rows.length : Int) = 0)]; exact big
 by_cases h2 : rows.length > 60
 ·have e : validB rows = false := by rw [Bool.eq_false_iff]; intro h; have := (validB_iff.1 h).n60; omega
  rw [e]; simp only [if_neg (by omega : ¬ (rows.length : Int) = 0), if_pos (by omega : (rows.length : Int) > 60)]; exact big
 simp only [if_neg (by omega : ¬ (rows.length : Int) = 0), if_neg (by omega : ¬ (rows.length : Int) > 60), if_pos (by omega : 0 < (rows.length : Int))]
 by_cases h3 : (rd_L1 rows 0).length = 0
 ·have e : validB rows = false := by rw [Bool.eq_false_iff]; intro h; have := (validB_iff.1 h).m0; omega
  rw [e]; simp only [if_pos (by omega : ((rd_L1 rows 0).length : Int) = 0)]; exact big
 simp only [if_neg (by omega : ¬ ((rd_L1 rows 0).length : Int) = 0)]
 by_cases h4 : (rd_L1 rows 0).length > 6
 ·have e : validB rows = false := by rw [Bool.eq_false_iff]; intro h; have := (validB_iff.1 h).m6; omega
  rw [e]; simp only [decide_eq_true (by omega : ((rd_L1 rows 0).length : Int) > 6)]; exact big
 simp only [decide_eq_false (by omega : ¬ ((rd_L1 rows 0).length : Int) > 6)]
 refine Ev.next ?_
 simp only [mizmazeref01_Valid.j0, Bool.false_eq_true, if_false]
 refine @Ev.every Bool (fun k i => mizmazeref01_Valid.l0 k (rows.length : Int) (i : Int) rows) rows.length true false _ (fun i => !badB ((rd_L1 rows 0).length) rows.length (rd_L1 rows (i : Int))) ?_ ?_ ?_ ?_ ?_
 ·intro h
  unfold validB kOf
  rw [decide_eq_true (by omega), Bool.true_and, Bool.not_eq_true', any_bad]; exact fun i hi => by simpa using h i hi
 ·intro i hi hp
  rw [Bool.eq_false_iff]
  intro h; unfold validB kOf at h
  rw [Bool.and_eq_true, Bool.not_eq_true', any_bad] at h
  have := h.2 i hi
  rw [this] at hp; exact Bool.noConfusion hp
 ·intro i hi hp hr
  simp only [badB, Bool.not_or, Bool.and_eq_true, Bool.not_eq_true', decide_eq_false_iff_not, Classical.not_not, Bool.not_not] at hp
  refine Ev.next ?_
  have hlen : (rd_L1 rows (i : Int)).length ≤ 9223372036854775806 := by have := hp.1; omega
  simp only [mizmazeref01_Valid.l0, if_pos (by omega : (i : Int) < (rows.length : Int)), if_pos (by omega : (0 : Int) ≤ (i : Int)), if_pos (by omega : 0 < (rows.length : Int)), if_pos hp.1, wrapS (by omega : i + 1 ≤ 9223372036854775807)]
  refine Ev.bind (ref_below _ _ hlen) ?_
  simp only [hp.2, if_true]
  exact hr
 ·intro i hi hp
  refine Ev.next ?_
  simp only [mizmazeref01_Valid.l0, if_pos (by omega : (i : Int) < (rows.length : Int)), if_pos (by omega : (0 : Int) ≤ (i : Int)), if_pos (by omega : 0 < (rows.length : Int))]
  by_cases h5 : ((rd_L1 rows (i : Int)).length : Int) = ((rd_L1 rows 0).length : Int)
  ·simp only [if_pos h5]
   refine Ev.bind (ref_below _ _ (by omega)) ?_
   have : inB rows.length (rd_L1 rows (i : Int)) = false := by
    simp only [badB, Bool.not_or, Bool.and_eq_false_iff, Bool.not_eq_false', decide_eq_true_eq, Bool.not_not] at hp
    rcases hp with h | h
    ·exact absurd h5 h
    ·exact h
   simp only [this, Bool.false_eq_true, if_false]
   exact Ev.now _
  ·simp only [if_neg h5]; exact Ev.now _
 ·refine Ev.next ?_
  simp only [mizmazeref01_Valid.l0, if_neg (by omega : ¬ (rows.length : Int) < (rows.length : Int))]
  exact Ev.now _
theorem ref_same (l m : List Int) (hl : l.length ≤ 9223372036854775806) : Ev (fun k => mizmazeref01_Same.f k l m) (decide (l = m)) := by
 unfold mizmazeref01_Same.f
 by_cases h1 : l.length = m.length
 ·simp only [if_pos (by omega : (l.length : Int) = (m.length : Int))]
  refine @Ev.every Bool (fun k i => mizmazeref01_Same.l0 k l m (i : Int)) l.length true false _ (fun i => decide (rd l (i : Int) = rd m (i : Int))) ?_ ?_ ?_ ?_ ?_
  ·intro h
   rw [decide_eq_true_eq]
   refine List.ext_getElem h1 fun i h2 h3 => ?_
   have := od (h i h2)
   rw [rdE h2, rdE h3] at this; exact this
  ·intro i hi hp
   rw [decide_eq_false_iff_not]; rintro rfl; simp at hp
  ·intro i hi hp hr
   refine Ev.next ?_
   simp only [mizmazeref01_Same.l0, if_pos (by omega : (i : Int) < (l.length : Int)), if_pos (by omega : (0 : Int) ≤ (i : Int)), if_pos (by omega : (i : Int) < (m.length : Int)), if_pos (od hp), wrapS (by omega : i + 1 ≤ 9223372036854775807)]
   exact hr
  ·intro i hi hp
   refine Ev.next ?_
   simp only [mizmazeref01_Same.l0, if_pos (by omega : (i : Int) < (l.length : Int)), if_pos (by omega : (0 : Int) ≤ (i : Int)), if_pos (by omega : (i : Int) < (m.length : Int)), if_neg (of_decide_eq_false hp)]
   exact Ev.now _
  ·refine Ev.next ?_
   simp only [mizmazeref01_Same.l0, if_neg (by omega : ¬ (l.length : Int) < (l.length : Int))]
   exact Ev.now _
 ·simp only [if_neg (by omega : ¬ (l.length : Int) = (m.length : Int))]
  exact Ev.ret (by symm; rw [decide_eq_false_iff_not]; rintro rfl; exact h1 rfl)
def nx (rows : List (List Int)) (s x : Nat) : Nat := (rd (rd_L1 rows (s : Int)) (x : Int)).toNat
theorem VA.nxE {rows : List (List Int)} {n m : Nat} (V : VA rows n m) {s x : Nat} (hs : s < n) (hx : x < m) : rd (rd_L1 rows (s : Int)) (x : Int) = ((nx rows s x : Nat) : Int) := by
 have := rd_in (V.ent s hs) (Int.natCast_nonneg x) (by have := V.row s hs; omega)
 unfold nx; omega
theorem VA.nxLt {rows : List (List Int)} {n m : Nat} (V : VA rows n m) {s x : Nat} (hs : s < n) (hx : x < m) : nx rows s x < n := by
 have := rd_in (V.ent s hs) (Int.natCast_nonneg x) (by have := V.row s hs; omega)
 unfold nx; omega
theorem VA.letters {rows : List (List Int)} {n m : Nat} (V : VA rows n m) : mizmazeref01_Letters.f rows = some (m : Int) := by
 unfold mizmazeref01_Letters.f
 have := V.n0; have := V.len; have := V.row 0 V.n0
 rw [if_pos (by omega)]; congr 1; exact congrArg _ this
end Go.Proofs.Ytjgdalhdiohclaa.Q
end
/-! Part MSames -/
section
namespace Go.Proofs.Ytjgdalhdiohclaa.Q
open Go.RowKit Go.Proofs.YtjgdalhdiohclaaW.PrintWords Go.Proofs.YtjgdalhdiohclaaW.PrintLast Go.Proofs.YtjgdalhdiohclaaW.PrintMore
set_option linter.unusedVariables false
theorem ref_sames (l m : List (List Int)) (hl : l.length ≤ 9223372036854775806) (hr : ∀ r ∈ l, r.length ≤ 9223372036854775806) : Ev (fun k => mizmazeref01_Sames.f k l m) (decide (l = m)) := by
 unfold mizmazeref01_Sames.f
 by_cases h1 : l.length = m.length
 ·simp only [if_pos (by omega : (l.length : Int) = (m.length : Int))]
  refine @Ev.every Bool (fun k i => mizmazeref01_Sames.l0 k l m (i : Int)) l.length true false _ (fun i => decide (rd_L1 l (i : Int) = rd_L1 m (i : Int))) ?_ ?_ ?_ ?_ ?_
  ·intro h
   rw [decide_eq_true_eq]
   refine List.ext_getElem h1 fun i h2 h3 => ?_
   have := od (h i h2)
   rw [rdLE h2, rdLE h3] at this; exact this
  ·intro i hi hp
   rw [decide_eq_false_iff_not]; rintro rfl; simp at hp
  ·intro i hi hp hrr
   have hsmall : (rd_L1 l (i : Int)).length ≤ 9223372036854775806 := by rw [rdLE hi]; exact hr _ (List.getElem_mem hi)
   refine Ev.next ?_
   simp only [mizmazeref01_Sames.l0, if_pos (by omega : (i : Int) < (l.length : Int)), if_pos (by omega : (0 : Int) ≤ (i : Int)), if_pos (by omega : (i : Int) < (m.length : Int)), wrapS (by omega : i + 1 ≤ 9223372036854775807)]
   refine Ev.bind (ref_same _ _ hsmall) ?_
   simp only [hp, if_true]; exact hrr
  ·intro i hi hp
   have hsmall : (rd_L1 l (i : Int)).length ≤ 9223372036854775806 := by rw [rdLE hi]; exact hr _ (List.getElem_mem hi)
   refine Ev.next ?_
   simp only [mizmazeref01_Sames.l0, if_pos (by omega : (i : Int) < (l.length : Int)), if_pos (by omega : (0 : Int) ≤ (i : Int)), if_pos (by omega : (i : Int) < (m.length : Int))]
   refine Ev.bind (ref_same _ _ hsmall) ?_
   simp only [hp, Bool.false_eq_true, if_false]; exact Ev.now _
  ·refine Ev.next ?_
   simp only [mizmazeref01_Sames.l0, if_neg (by omega : ¬ (l.length : Int) < (l.length : Int))]
   exact Ev.now _
 ·simp only [if_neg (by omega : ¬ (l.length : Int) = (m.length : Int))]
  exact Ev.ret (by symm; rw [decide_eq_false_iff_not]; rintro rfl; exact h1 rfl)
end Go.Proofs.Ytjgdalhdiohclaa.Q
end
/-! Part MHas -/
section
namespace Go.Proofs.Ytjgdalhdiohclaa.Q
open Go.RowKit Go.Proofs.YtjgdalhdiohclaaW.PrintWords Go.Proofs.YtjgdalhdiohclaaW.PrintLast Go.Proofs.YtjgdalhdiohclaaW.PrintMore
set_option linter.unusedVariables false
theorem ref_has (l : List Int) (z : Int) (hl : l.length ≤ 9223372036854775806) : Ev (fun k => mizmazeref01_Has.f k l z) (decide (z ∈ l)) := by
 unfold mizmazeref01_Has.f
 refine @Ev.every Bool (fun k i => mizmazeref01_Has.l0 k l z (i : Int)) l.length false true _ (fun i => decide (rd l (i : Int) ≠ z)) ?_ ?_ ?_ ?_ ?_
 ·intro h
  rw [decide_eq_false_iff_not]
  intro hz
  obtain ⟨i, hi, e⟩ := List.getElem_of_mem hz
  have := od (h i hi)
  rw [rdE hi] at this; exact this e
 ·intro i hi h
  have h2 := of_decide_eq_false h
  rw [rdE hi] at h2
  rw [decide_eq_true_eq, ← Classical.not_not.1 h2]; exact List.getElem_mem hi
 ·intro i hi hp hr
  refine Ev.next ?_
  simp only [mizmazeref01_Has.l0, if_pos (by omega : (i : Int) < (l.length : Int)), if_pos (by omega : (0 : Int) ≤ (i : Int)), if_neg (od hp), wrapS (by omega : i + 1 ≤ 9223372036854775807)]
  exact hr
 ·intro i hi hp
  refine Ev.next ?_
  simp only [mizmazeref01_Has.l0, if_pos (by omega : (i : Int) < (l.length : Int)), if_pos (by omega : (0 : Int) ≤ (i : Int)), if_pos (Classical.not_not.1 (of_decide_eq_false hp))]
  exact Ev.now _
 ·refine Ev.next ?_
  simp only [mizmazeref01_Has.l0, if_neg (by omega : ¬ (l.length : Int) < (l.length : Int))]
  exact Ev.now _
end Go.Proofs.Ytjgdalhdiohclaa.Q
end
/-! Part MColor -/
section
namespace Go.Proofs.Ytjgdalhdiohclaa.Q
open Go.RowKit Go.Proofs.YtjgdalhdiohclaaW.PrintWords Go.Proofs.YtjgdalhdiohclaaW.PrintLast Go.Proofs.YtjgdalhdiohclaaW.PrintMore
set_option linter.unusedVariables false
set_option linter.unusedSimpArgs false
theorem VA.of5 {rows : List (List Int)} (h : validB rows = true) : VA rows rows.length (rd_L1 rows 0).length := validB_iff.1 h
theorem perm_of_sub : ∀ (l1 l2 : List Int), l1.Nodup → (∀ x ∈ l1, x ∈ l2) → l2.length ≤ l1.length → l1.Perm l2
 | [], l2, _, _, h => by
  have : l2 = [] := List.length_eq_zero_iff.1 (by simpa using h)
  subst this
  exact List.Perm.refl _
 | x :: l1, l2, hn, hs, hl => by
  obtain ⟨h1, h2⟩ := List.nodup_cons.1 hn
  have hx : x ∈ l2 := hs x List.mem_cons_self
  have hp := List.perm_cons_erase hx
  have hlen : (l2.erase x).length = l2.length - 1 := List.length_erase_of_mem hx
  simp only [List.length_cons] at hl
  have ih := perm_of_sub l1 (l2.erase x) h2 (fun y hy => (List.mem_erase_of_ne (fun e : y = x => h1 (by rw [← e]; exact hy))).2 (hs y (List.mem_cons_of_mem _ hy))) (by omega)
  exact (ih.cons x).trans hp.symm
def NamesP (p : List Int) (m : Nat) : Prop := p.length = m ∧ ∀ v : Nat, v < m → (v : Int) ∈ p
instance (p : List Int) (m : Nat) : Decidable (NamesP p m) := by unfold NamesP; infer_instance
def rangeI (m : Nat) : List Int := (List.range m).map fun i : Nat => ((i : Nat) : Int)
theorem rangeI_nodup (m : Nat) : (rangeI m).Nodup := by
 unfold rangeI
 exact List.Pairwise.map _ (fun a b h e => h (Int.ofNat.inj e)) (List.nodup_range (n := m))
theorem rangeI_len (m : Nat) : (rangeI m).length = m := by simp [rangeI]
theorem rangeI_mem {m : Nat} {x : Int} : x ∈ rangeI m ↔ 0 ≤ x ∧ x < m := by
 unfold rangeI
 rw [List.mem_map]
 constructor
 ·rintro ⟨i, hi, rfl⟩
  have := List.mem_range.1 hi
  omega
 ·rintro ⟨h0, h1⟩
  exact ⟨x.toNat, List.mem_range.2 (by omega), by omega⟩
theorem NamesP.perm {p : List Int} {m : Nat} (h : NamesP p m) : (rangeI m).Perm p :=
 perm_of_sub _ _ (rangeI_nodup m) (fun x hx => by obtain ⟨h0, h1⟩ := rangeI_mem.1 hx; have := h.2 x.toNat (by omega); rwa [Int.toNat_of_nonneg h0] at this) (by rw [rangeI_len, h.1]; exact Nat.le_refl _)
theorem NamesP.mem {p : List Int} {m : Nat} (h : NamesP p m) {x : Int} (hx : x ∈ p) : 0 ≤ x ∧ x < m := rangeI_mem.1 (h.perm.mem_iff.2 hx)
theorem NamesP.nodup {p : List Int} {m : Nat} (h : NamesP p m) : p.Nodup := h.perm.nodup_iff.1 (rangeI_nodup m)
theorem NamesP.of {p : List Int} {m : Nat} (hl : p.length = m) (hn : p.Nodup) (hx : ∀ x ∈ p, 0 ≤ x ∧ x < (m : Int)) : NamesP p m := by
 refine ⟨hl, fun v hv => ?_⟩
 have hp := perm_of_sub p (rangeI m) hn (fun x h => rangeI_mem.2 (hx x h)) (by rw [rangeI_len, hl]; exact Nat.le_refl _)
 exact hp.mem_iff.2 (rangeI_mem.2 ⟨by omega, by omega⟩)
theorem ref_names (p : List Int) (m : Nat) (hm : m ≤ 1000) : Ev (fun k => mizmazeref01_Names.f k p (m : Int)) (decide (NamesP p m)) := by
 unfold mizmazeref01_Names.f
 by_cases h1 : p.length = m
 ·simp only [if_pos (by omega : (p.length : Int) = (m : Int))]
  refine @Ev.every Bool (fun k i => mizmazeref01_Names.l0 k p (m : Int) (i : Int)) m true false _ (fun i => decide ((i : Int) ∈ p)) ?_ ?_ ?_ ?_ ?_
  ·intro h
   exact decide_eq_true ⟨h1, fun v hv => od (h v hv)⟩
  ·intro i hi hp
   exact decide_eq_false fun h => of_decide_eq_false hp (h.2 i hi)
  ·intro i hi hp hr
   refine Ev.next ?_
   simp only [mizmazeref01_Names.l0, if_pos (by omega : (i : Int) < (m : Int)), wrapS (by omega : i + 1 ≤ 9223372036854775807)]
   refine Ev.bind (ref_has p (i : Int) (by omega)) ?_
   simp only [hp, if_true]
   exact hr
  ·intro i hi hp
   refine Ev.next ?_
   simp only [mizmazeref01_Names.l0, if_pos (by omega : (i : Int) < (m : Int))]
   refine Ev.bind (ref_has p (i : Int) (by omega)) ?_
   simp only [hp, Bool.false_eq_true, if_false]
   exact Ev.now _
  ·refine Ev.next ?_
   simp only [mizmazeref01_Names.l0, if_neg (by omega : ¬ (m : Int) < (m : Int))]
   exact Ev.now _
 ·simp only [if_neg (by omega : ¬ (p.length : Int) = (m : Int))]
  exact Ev.ret (by symm; rw [decide_eq_false_iff_not]; exact fun h => h1 h.1)
theorem auto_names_l (p : List Int) (m : Nat) (hm : p.length ≤ 1000) (hin : ∀ x ∈ p, 0 ≤ x ∧ x < (m : Int)) : ∀ (d i : Nat) (b : List Bool), i + d = p.length → b.length = m → (∀ v : Nat, v < m → (rdOf false b (v : Int) = true ↔ (v : Int) ∈ p.take i)) → (p.take i).Nodup → Ev (fun k => auto_Names.l0 k b p (p.length : Int) (i : Int)) (decide p.Nodup)
 | 0, i, b, hi, hb, hs, hn => by
  refine Ev.next ?_
  simp only [auto_Names.l0, if_neg (by omega : ¬ (i : Int) < (p.length : Int))]
  rw [List.take_of_length_le (by omega)] at hn
  rw [decide_eq_true hn]
  exact Ev.now _
 | d + 1, i, b, hi, hb, hs, hn => by
  have hlt : i < p.length := by omega
  have hx := hin _ (List.getElem_mem hlt)
  obtain ⟨v, hv⟩ := Int.eq_ofNat_of_zero_le hx.1
  have hvm : v < m := by omega
  have htake : p.take (i + 1) = p.take i ++ [(v : Int)] := by rw [List.take_add_one, List.getElem?_eq_getElem hlt, hv]; rfl
  refine Ev.next ?_
  simp only [auto_Names.l0, if_pos (by omega : (i : Int) < (p.length : Int)), if_pos (by omega : (0 : Int) ≤ (i : Int)), rdE hlt, hv, if_pos (by omega : (0 : Int) ≤ (v : Int)), if_pos (by rw [hb]; omega : (v : Int) < (b.length : Int)), wrapS (by omega : i + 1 ≤ 9223372036854775807), Int.toNat_natCast]
  by_cases hd : rdOf false b (v : Int) = true
  ·simp only [if_pos hd]
   have hmem := (hs v hvm).1 hd
   refine Ev.ret ?_
   symm
   rw [decide_eq_false_iff_not]
   intro hnd
   have h2 : (p.take (i + 1)).Nodup := (List.take_sublist _ _).nodup hnd
   rw [htake] at h2
   have := (List.nodup_append.1 h2).2.2 _ hmem _ (List.mem_singleton.2 rfl)
   exact this rfl
  ·simp only [if_neg hd]
   refine auto_names_l p m hm hin d (i + 1) _ (by omega) (by rw [List.length_set, hb]) (fun u hu => ?_) ?_
   ·rw [rdBE (by rw [List.length_set]; omega), htake, List.mem_append, List.mem_singleton]
    have hsu := hs u hu
    rw [rdBE (by omega)] at hsu
    rw [List.getElem_set]
    split
    ·next e => subst e; simp
    ·next e =>
     rw [hsu]
     constructor
     ·exact Or.inl
     ·rintro (h | h)
      ·exact h
      ·exact absurd (by omega : v = u) e
   ·rw [htake, List.nodup_append]
    refine ⟨hn, by simp, fun a ha c hc => ?_⟩
    rw [List.mem_singleton] at hc
    subst hc
    rintro rfl
    exact hd ((hs v hvm).2 ha)
theorem auto_names (p : List Int) (m : Nat) (hm : m ≤ 1000) : Ev (fun k => auto_Names.f k p (m : Int)) (decide (NamesP p m)) := by
 unfold auto_Names.f
 by_cases h1 : p.length = m
 ·simp only [if_pos (by omega : (p.length : Int) = (m : Int)), auto_within_int.f, Option.bind_some]
  by_cases h2 : inB (m : Int) p = true
  ·simp only [h2, Bool.not_true]
   refine Ev.next ?_
   simp only [auto_Names.j0, Bool.false_eq_true, if_false, if_pos (by omega : (0 : Int) ≤ (m : Int)), Int.toNat_natCast, if_pos (by omega : m ≤ 281474976710656)]
   have hin : ∀ x ∈ p, 0 ≤ x ∧ x < (m : Int) := fun x hx => by have := List.all_eq_true.1 h2 x hx; exact od this
   have := auto_names_l p m (by omega) hin p.length 0 (List.replicate m false) (by omega) (by simp) (fun v hv => by rw [rdBE (by simpa using hv)]; simp) (by simp)
   refine Ev.eq this ?_
   rw [decide_eq_decide]
   exact ⟨fun hn => NamesP.of h1 hn hin, fun h => h.nodup⟩
  ·have h2 := Bool.eq_false_iff.mpr h2
   simp only [h2, Bool.not_false]
   refine Ev.next ?_
   simp only [auto_Names.j0, if_true]
   refine Ev.ret ?_
   symm
   rw [decide_eq_false_iff_not]
   intro h
   have : inB (m : Int) p = true := List.all_eq_true.2 fun x hx => decide_eq_true (h.mem hx)
   rw [this] at h2; cases h2
 ·simp only [if_neg (by omega : ¬ (p.length : Int) = (m : Int))]
  refine Ev.next ?_
  simp only [auto_Names.j0, if_true]
  exact Ev.ret (by symm; rw [decide_eq_false_iff_not]; exact fun h => h1 h.1)
theorem auto_letters5 {rows : List (List Int)} {n m : Nat} (V : VA rows n m) : auto_Letters.f rows = some (m : Int) := by
 unfold auto_Letters.f
 have := V.n0; have := V.len; have := V.row 0 V.n0
 rw [if_pos (by omega)]; congr 1; exact congrArg _ this
def PermsP (a perms : List (List Int)) (m : Nat) : Prop := perms.length = a.length ∧ ∀ i, i < perms.length → NamesP (rd_L1 perms (i : Int)) m
instance (a perms : List (List Int)) (m : Nat) : Decidable (PermsP a perms m) := by unfold PermsP; infer_instance
theorem ref_perms {a : List (List Int)} {n m : Nat} (V : VA a n m) (perms : List (List Int)) : Ev (fun k => mizmazeref05_Perms.f k a perms) (decide (PermsP a perms m)) := by
 have hm := V.m6
 have hn := V.n60
 have hlen := V.len
 unfold mizmazeref05_Perms.f
 by_cases h1 : perms.length = a.length
 ·simp only [if_pos (by omega : (perms.length : Int) = (a.length : Int))]
  refine @Ev.every Bool (fun k i => mizmazeref05_Perms.l0 k perms (i : Int) a) perms.length true false _ (fun i => decide (NamesP (rd_L1 perms (i : Int)) m)) ?_ ?_ ?_ ?_ ?_
  ·intro h
   exact decide_eq_true ⟨h1, fun v hv => od (h v hv)⟩
  ·intro i hi hp
   exact decide_eq_false fun h => of_decide_eq_false hp (h.2 i hi)
  ·intro i hi hp hr
   refine Ev.next ?_
   simp only [mizmazeref05_Perms.l0, if_pos (by omega : (i : Int) < (perms.length : Int)), if_pos (by omega : (0 : Int) ≤ (i : Int)), wrapS (by omega : i + 1 ≤ 9223372036854775807), V.letters, Option.bind_some]
   refine Ev.bind (ref_names _ m (by omega)) ?_
   simp only [hp, if_true]
   exact hr
  ·intro i hi hp
   refine Ev.next ?_
   simp only [mizmazeref05_Perms.l0, if_pos (by omega : (i : Int) < (perms.length : Int)), if_pos (by omega : (0 : Int) ≤ (i : Int)), V.letters, Option.bind_some]
   refine Ev.bind (ref_names _ m (by omega)) ?_
   simp only [hp, Bool.false_eq_true, if_false]
   exact Ev.now _
  ·refine Ev.next ?_
   simp only [mizmazeref05_Perms.l0, if_neg (by omega : ¬ (perms.length : Int) < (perms.length : Int))]
   exact Ev.now _
 ·simp only [if_neg (by omega : ¬ (perms.length : Int) = (a.length : Int))]
  exact Ev.ret (by symm; rw [decide_eq_false_iff_not]; exact fun h => h1 h.1)
def colRow (row p : List Int) : List Int := p.map fun x => rd row x
def colL (a perms : List (List Int)) : Nat → List (List Int)
 | 0 => []
 | i + 1 => colL a perms i ++ [colRow (rd_L1 a (i : Int)) (rd_L1 perms (i : Int))]
theorem colL_len (a perms : List (List Int)) : ∀ i, (colL a perms i).length = i
 | 0 => rfl
 | i + 1 => by rw [colL, List.length_append, colL_len a perms i]; rfl
theorem colL_at (a perms : List (List Int)) : ∀ i j, j < i → rd_L1 (colL a perms i) (j : Int) = colRow (rd_L1 a (j : Int)) (rd_L1 perms (j : Int))
 | 0, j, h => by omega
 | i + 1, j, h => by
  rw [rdLE (by rw [colL_len]; exact h)]
  by_cases hj : j < i
  ·have := colL_at a perms i j hj
   rw [rdLE (by rw [colL_len]; exact hj)] at this
   rw [← this]
   simp only [colL]
   rw [List.getElem_append_left (by rw [colL_len]; exact hj)]
  ·obtain rfl : j = i := by omega
   simp only [colL]
   rw [List.getElem_append_right (by rw [colL_len]; exact Nat.le_refl _)]
   simp [colL_len]
theorem colRow_take {row p : List Int} {j : Nat} (h : j < p.length) : colRow row (p.take (j + 1)) = colRow row (p.take j) ++ [rd row (rd p (j : Int))] := by
 unfold colRow
 rw [List.take_add_one, List.getElem?_eq_getElem h, rdE h, List.map_append]
 rfl
theorem auto_colored_row {a : List (List Int)} {n m : Nat} (V : VA a n m) (perms : List (List Int)) {i : Nat} (hi : i < n) (hp : NamesP (rd_L1 perms (i : Int)) m) {R : List (List Int) × Int} {out : List (List Int)} (ho : out.length ≤ 1000)
  (hnext : Ev (fun k => color_Colored.l0 k perms (perms.length : Int) ((i + 1 : Nat) : Int) a (out ++ [colRow (rd_L1 a (i : Int)) (rd_L1 perms (i : Int))])) R) :
  ∀ (d j : Nat), j + d = m → Ev (fun k => color_Colored.l1 k (i : Int) (colRow (rd_L1 a (i : Int)) ((rd_L1 perms (i : Int)).take j)) perms (perms.length : Int) (i : Int) (rd_L1 perms (i : Int)) ((rd_L1 perms (i : Int)).length : Int) (j : Int) a out) R
 | 0, j, hj => by
  have hm := V.m6
  have hn := V.n60
  have hpl := hp.1
  refine Ev.next ?_
  simp only [color_Colored.l1, if_neg (by omega : ¬ (j : Int) < ((rd_L1 perms (i : Int)).length : Int)), if_pos (by omega : out.length < 5864062014805), wrapS (by omega : i + 1 ≤ 9223372036854775807)]
  rw [List.take_of_length_le (by omega)]
  exact hnext
 | d + 1, j, hj => by
  have hm := V.m6
  have hn := V.n60
  have hlen := V.len
  have hpl := hp.1
  have hjl : j < (rd_L1 perms (i : Int)).length := by omega
  have hx : 0 ≤ rd (rd_L1 perms (i : Int)) (j : Int) ∧ rd (rd_L1 perms (i : Int)) (j : Int) < m := by rw [rdE hjl]; exact hp.mem (List.getElem_mem hjl)
  have hr := V.row i hi
  have hcl : (colRow (rd_L1 a (i : Int)) ((rd_L1 perms (i : Int)).take j)).length ≤ 6 := by simp [colRow]; omega
  refine Ev.next ?_
  simp only [color_Colored.l1, if_pos (by omega : (j : Int) < ((rd_L1 perms (i : Int)).length : Int)), if_pos (by omega : (0 : Int) ≤ (j : Int)), if_pos (by omega : (0 : Int) ≤ (i : Int)), if_pos (by omega : (i : Int) < (a.length : Int)), if_pos hx.1, if_pos (by omega : rd (rd_L1 perms (i : Int)) (j : Int) < ((rd_L1 a (i : Int)).length : Int)), if_pos (by omega : (colRow (rd_L1 a (i : Int)) ((rd_L1 perms (i : Int)).take j)).length < 17592186044416), wrapS (by omega : j + 1 ≤ 9223372036854775807)]
  rw [← colRow_take hjl]
  exact auto_colored_row V perms hi hp ho hnext d (j + 1) (by omega)
theorem auto_colored {a : List (List Int)} {n m : Nat} (V : VA a n m) (perms : List (List Int)) : Ev (fun k => color_Colored.f k a perms) (if PermsP a perms m then (colL a perms n, 0) else ([], 2)) := by
 have hm := V.m6
 have hn := V.n60
 have hlen := V.len
 unfold color_Colored.f
 simp only [auto_Valid.f, validB_of V, Option.bind_some, if_true]
 by_cases h1 : perms.length = a.length
 ·simp only [if_pos (by omega : (perms.length : Int) = (a.length : Int))]
  have key : ∀ d i : Nat, i + d = n → (∀ j, j < i → NamesP (rd_L1 perms (j : Int)) m) → Ev (fun k => color_Colored.l0 k perms (perms.length : Int) (i : Int) a (colL a perms i)) (if PermsP a perms m then (colL a perms n, 0) else ([], 2)) := by
   intro d
   induction d with
   | zero =>
    intro i hi hj
    obtain rfl : i = n := by omega
    refine Ev.next ?_
    simp only [color_Colored.l0, if_neg (by omega : ¬ (i : Int) < (perms.length : Int))]
    rw [if_pos ⟨h1, fun j h => hj j (by omega)⟩]
    exact Ev.now _
   | succ d ih =>
    intro i hi hj
    refine Ev.next ?_
    simp only [color_Colored.l0, if_pos (by omega : (i : Int) < (perms.length : Int)), if_pos (by omega : (0 : Int) ≤ (i : Int)), auto_letters5 V, Option.bind_some]
    refine Ev.bind (auto_names _ m (by omega)) ?_
    by_cases hp : NamesP (rd_L1 perms (i : Int)) m
    ·simp only [decide_eq_true hp, if_true]
     have hnx := ih (i + 1) (by omega) fun j h => by
      rcases Nat.lt_or_ge j i with h2 | h2
      ·exact hj j h2
      ·obtain rfl : j = i := by omega
       exact hp
     have := auto_colored_row V perms (i := i) (by omega) hp (out := colL a perms i) (by rw [colL_len]; omega) hnx m 0 (by omega)
     exact this
    ·simp only [decide_eq_false hp, Bool.false_eq_true, if_false]
     rw [if_neg fun h => hp (h.2 i (by omega))]
     exact Ev.now _
  exact key n 0 (by omega) fun j h => by omega
 ·simp only [if_neg (by omega : ¬ (perms.length : Int) = (a.length : Int))]
  rw [if_neg fun h => h1 h.1]
  exact Ev.now _
end Go.Proofs.Ytjgdalhdiohclaa.Q
end
/-! Part MGen -/
section
namespace Go.Proofs.Ytjgdalhdiohclaa.Q
open Go.RowKit Go.Proofs.YtjgdalhdiohclaaW.PrintWords Go.Proofs.YtjgdalhdiohclaaW.PrintLast Go.Proofs.YtjgdalhdiohclaaW.PrintMore
set_option linter.unusedVariables false
def run (f : Nat → Nat → Nat) : Nat → List Nat → Nat
 | s, [] => s
 | s, x :: w => run f (f s x) w
theorem run_app (f : Nat → Nat → Nat) : ∀ (v w : List Nat) s, run f s (v ++ w) = run f (run f s v) w
 | [], _, _ => rfl
 | _ :: v, w, s => run_app f v w _
theorem run_snoc (f : Nat → Nat → Nat) (v : List Nat) (x s : Nat) : run f s (v ++ [x]) = f (run f s v) x := run_app f v [x] s
def Wd (m : Nat) (w : List Nat) : Prop := ∀ x ∈ w, x < m
theorem Wd.nil (m : Nat) : Wd m [] := fun _ h => nomatch h
theorem Wd.app {m : Nat} {v w : List Nat} (h : Wd m v) (k : Wd m w) : Wd m (v ++ w) := fun x hx => (List.mem_append.1 hx).elim (h x) (k x)
theorem Wd.one {m x : Nat} (h : x < m) : Wd m [x] := fun y hy => by rw [List.mem_singleton.1 hy]; exact h
theorem Wd.left {m : Nat} {v w : List Nat} (h : Wd m (v ++ w)) : Wd m v := fun x hx => h x (List.mem_append.2 (Or.inl hx))
theorem Wd.right {m : Nat} {v w : List Nat} (h : Wd m (v ++ w)) : Wd m w := fun x hx => h x (List.mem_append.2 (Or.inr hx))
def Conn (f : Nat → Nat → Nat) (m s t : Nat) : Prop := ∃ w, Wd m w ∧ run f s w = t
theorem Conn.refl (f : Nat → Nat → Nat) (m s : Nat) : Conn f m s s := ⟨[], Wd.nil m, rfl⟩
theorem Conn.trans {f : Nat → Nat → Nat} {m s t u : Nat} (h : Conn f m s t) (k : Conn f m t u) : Conn f m s u := by
 obtain ⟨v, h1, rfl⟩ := h; obtain ⟨w, h2, rfl⟩ := k
 exact ⟨v ++ w, h1.app h2, run_app f v w s⟩
theorem Conn.step {f : Nat → Nat → Nat} {m s x : Nat} (h : x < m) : Conn f m s (f s x) := ⟨[x], Wd.one h, rfl⟩
theorem Conn.closed {f : Nat → Nat → Nat} {m s t : Nat} {P : Nat → Prop} (h : Conn f m s t) (hs : P s) (hc : ∀ u x, P u → x < m → P (f u x)) : P t := by
 obtain ⟨w, hw, rfl⟩ := h
 induction w generalizing s with
 | nil => exact hs
 | cons x w ih => exact ih (hc s x hs (hw x List.mem_cons_self)) fun y hy => hw y (List.mem_cons_of_mem _ hy)
theorem nodup_le : ∀ (n : Nat) (l : List Nat), l.Nodup → (∀ x ∈ l, x < n) → l.length ≤ n
 | 0, l, _, h => by
  cases l with
  | nil => exact Nat.le_refl 0
  | cons x l => exact absurd (h x List.mem_cons_self) (Nat.not_lt_zero x)
 | n + 1, l, hd, h => by
  by_cases hn : n ∈ l
  ·have h1 := nodup_le n (l.erase n) (hd.erase n) fun x hx => by
    have h2 := h x (List.mem_of_mem_erase hx)
    have h3 : x ≠ n := fun e => by subst e; exact hd.not_mem_erase hx
    omega
   rw [List.length_erase_of_mem hn] at h1; omega
  ·have := nodup_le n l hd fun x hx => by
    have h2 := h x hx
    have h3 : x ≠ n := fun e => hn (e ▸ hx)
    omega
   omega
theorem drawers {n : Nat} (f : Nat → Nat) (h : ∀ i, i ≤ n → f i < n) : ∃ i j, i < j ∧ j ≤ n ∧ f i = f j := by
 refine Classical.byContradiction fun hc => ?_
 have hd : ((List.range (n + 1)).map f).Nodup := by
  rw [List.nodup_iff_pairwise_ne, List.pairwise_map]
  refine List.Pairwise.imp_of_mem (R := fun a b => a < b) ?_ List.pairwise_lt_range
  intro a b ha hb hab e
  exact hc ⟨a, b, hab, by have := List.mem_range.1 hb; omega, e⟩
 have := nodup_le n _ hd (by
  intro x hx
  obtain ⟨i, hi, rfl⟩ := List.mem_map.1 hx
  exact h i (by have := List.mem_range.1 hi; omega))
 rw [List.length_map, List.length_range] at this; omega
theorem short_word {f : Nat → Nat → Nat} {n m : Nat} (hf : ∀ s x, s < n → x < m → f s x < n) : ∀ (d : Nat) (w : List Nat) (s : Nat), w.length ≤ d → s < n → Wd m w → ∃ v, Wd m v ∧ run f s v = run f s w ∧ v.length < n ∧ v.length ≤ w.length := by
 have rl : ∀ (w : List Nat) s, s < n → Wd m w → run f s w < n := by
  intro w
  induction w with
  | nil => intro s h _; exact h
  | cons x w ih => intro s h hw; exact ih _ (hf s x h (hw x List.mem_cons_self)) fun y hy => hw y (List.mem_cons_of_mem _ hy)
 intro d
 induction d with
 | zero => intro w s h hs hw; obtain rfl := List.eq_nil_of_length_eq_zero (by omega : w.length = 0); exact ⟨[], hw, rfl, by simp; omega, by simp⟩
 | succ d ih =>
  intro w s h hs hw
  by_cases hl : w.length < n
  ·exact ⟨w, hw, rfl, hl, Nat.le_refl _⟩
  ·have htk : ∀ i, Wd m (w.take i) := fun i x hx => hw x (List.mem_of_mem_take hx)
   have hdr : ∀ i, Wd m (w.drop i) := fun i x hx => hw x (List.mem_of_mem_drop hx)
   obtain ⟨i, j, hij, hj, e⟩ := drawers (n := n) (fun i => run f s (w.take i)) fun i _ => rl _ _ hs (htk i)
   obtain ⟨v, h1, h2, h3, h4⟩ := ih (w.take i ++ w.drop j) s (by rw [List.length_append, List.length_take, List.length_drop]; omega) hs ((htk i).app (hdr j))
   refine ⟨v, h1, h2.trans ?_, h3, by rw [List.length_append, List.length_take, List.length_drop] at h4; omega⟩
   rw [run_app, e, ← run_app, List.take_append_drop]
def Is (n : Nat) (l : List Bool) (P : Nat → Prop) : Prop := l.length = n ∧ ∀ t, t < n → (rdOf false l (t : Int) = true ↔ P t)
theorem Is.imp {n : Nat} {l : List Bool} {P P' : Nat → Prop} (h : Is n l P) (e : ∀ t, t < n → (P t ↔ P' t)) : Is n l P' := ⟨h.1, fun t ht => (h.2 t ht).trans (e t ht)⟩
theorem rdB_set {l : List Bool} {i j : Nat} {b : Bool} (hj : j < l.length) : rdOf false (l.set i b) (j : Int) = if i = j then b else rdOf false l (j : Int) := by
 rw [rdBE (by rw [List.length_set]; exact hj), rdBE hj, List.getElem_set]
theorem Is.set {n : Nat} {l : List Bool} {P : Nat → Prop} (h : Is n l P) {u : Nat} : Is n (l.set u true) (fun t => P t ∨ u = t) := by
 refine ⟨by rw [List.length_set]; exact h.1, fun t ht => ?_⟩
 rw [rdB_set (by rw [h.1]; exact ht)]
 by_cases e : u = t
 ·simp [e]
 ·simp [e, h.2 t ht]
theorem Is.none {n : Nat} : Is n (List.replicate n false) (fun _ => False) := by
 refine ⟨List.length_replicate, fun t ht => ?_⟩
 rw [rdBE (by rw [List.length_replicate]; exact ht), List.getElem_replicate]; simp
theorem Is.eq {n : Nat} {l l' : List Bool} {P : Nat → Prop} (h : Is n l P) (h' : Is n l' P) : l = l' := by
 refine List.ext_getElem (h.1.trans h'.1.symm) fun i h1 h2 => ?_
 have a := h.2 i (h.1 ▸ h1); have b := h'.2 i (h.1 ▸ h1)
 rw [rdBE h1] at a; rw [rdBE h2] at b
 rw [Bool.eq_iff_iff, a, b]
theorem Wd.head {m x : Nat} {w : List Nat} (h : Wd m (x :: w)) : x < m := h x List.mem_cons_self
theorem Wd.cons {m x : Nat} {w : List Nat} (hx : x < m) (h : Wd m w) : Wd m (x :: w) := fun y hy => by
 rcases List.mem_cons.1 hy with rfl | h1
 ·exact hx
 ·exact h y h1
end Go.Proofs.Ytjgdalhdiohclaa.Q
end
/-! Part MCode -/
section
namespace Go.Proofs.Ytjgdalhdiohclaa.Q
set_option linter.unusedVariables false
def code (m : Nat) (w : List Nat) : Nat := w.foldl (fun a x => m * a + (x + 1)) 0
theorem code_nil (m : Nat) : code m [] = 0 := rfl
theorem code_snoc (m : Nat) (w : List Nat) (x : Nat) : code m (w ++ [x]) = m * code m w + (x + 1) := by
 unfold code; rw [List.foldl_append]; rfl
theorem snoc_ind {P : List Nat → Prop} (h0 : P []) (h1 : ∀ v x, P v → P (v ++ [x])) (w : List Nat) : P w := by
 have : ∀ n (w : List Nat), w.length = n → P w := by
  intro n
  induction n with
  | zero => intro w h; rw [List.eq_nil_of_length_eq_zero h]; exact h0
  | succ n ih =>
   intro w h
   have hne : w ≠ [] := fun e => by subst e; simp at h
   rw [← List.dropLast_concat_getLast hne]
   exact h1 _ _ (ih _ (by rw [List.length_dropLast]; omega))
 exact this _ w rfl
theorem digits_inj {m a b x y : Nat} (hx : x < m) (hy : y < m) (h : m * a + (x + 1) = m * b + (y + 1)) : a = b ∧ x = y := by
 have key : ∀ a b x y : Nat, x < m → a < b → m * a + (x + 1) = m * b + (y + 1) → False := fun a b x y hx hab h => by
  have := Nat.mul_le_mul_left m (Nat.succ_le_of_lt hab)
  rw [Nat.mul_succ] at this; omega
 rcases Nat.lt_trichotomy a b with h1 | h1 | h1
 ·exact (key a b x y hx h1 h).elim
 ·subst h1; omega
 ·exact (key b a y x hy h1 h.symm).elim
theorem code_inj {m : Nat} : ∀ (v w : List Nat), Wd m v → Wd m w → code m v = code m w → v = w := by
 intro v
 induction v using snoc_ind with
 | h0 =>
  intro w _ hw h
  induction w using snoc_ind with
  | h0 => rfl
  | h1 w x _ => rw [code_snoc, code_nil] at h; omega
 | h1 v x ih =>
  intro w hv hw h
  induction w using snoc_ind with
  | h0 => rw [code_snoc, code_nil] at h; omega
  | h1 w y _ =>
   rw [code_snoc, code_snoc] at h
   obtain ⟨h1, rfl⟩ := digits_inj (hv.right x (by simp)) (hw.right y (by simp)) h
   rw [ih w hv.left hw.left h1]
def lo (m : Nat) : Nat → Nat
 | 0 => 0
 | k + 1 => m * lo m k + 1
structure Least (f : Nat → Nat → Nat) (m s t : Nat) (w : List Nat) : Prop where
 wd : Wd m w
 ends : run f s w = t
 le : ∀ v, Wd m v → run f s v = t → code m w ≤ code m v
theorem Least.uniq {f : Nat → Nat → Nat} {m s t : Nat} {v w : List Nat} (h : Least f m s t v) (k : Least f m s t w) : v = w :=
 code_inj v w h.wd k.wd (Nat.le_antisymm (h.le w k.wd k.ends) (k.le v h.wd h.ends))
def toI (w : List Nat) : List Int := w.map fun (x : Nat) => (x : Int)
theorem toI_snoc (w : List Nat) (x : Nat) : toI (w ++ [x]) = toI w ++ [(x : Int)] := by simp [toI]
theorem toI_len (w : List Nat) : (toI w).length = w.length := by simp [toI]
end Go.Proofs.Ytjgdalhdiohclaa.Q
end
