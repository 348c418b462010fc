/- Colorings returns the number of different colourings, or the documented error, for any automaton. (text 9 of 28) -/
import Derived.Test.YtjgdalhdiohclaaZColorCountsg
import Derived.ProofKit
import Derived.OpenShut
import Derived.ChangeOld
import Derived.ChangeSlices
import Derived.Deep.Matrix
import Derived.Test.YtjgdalhdiohclaaZColorCountsh
open Go.RowKit Go.Proofs.YtjgdalhdiohclaaW.PrintWords Go.Proofs.YtjgdalhdiohclaaW.PrintLast Go.Proofs.YtjgdalhdiohclaaW.PrintMore
/-! Part XOpen -/
section
namespace Go.Proofs.Ytjgdalhdiohclaa.Q
open Go.ChangeShapes Go.WideShapes
set_option linter.unusedVariables false
set_option linter.unusedSimpArgs false
def IntsOk (l : List Int) : Prop := l.length ≤ 9223372036854775807 ∧ ∀ z ∈ l, -9223372036854775808 ≤ z ∧ z ≤ 9223372036854775807
def RowsOk (rows : List (List Int)) : Prop := rows.length ≤ 9223372036854775807 ∧ ∀ row ∈ rows, IntsOk row
theorem int_wf {z : Int} (h : (Lit.int .i64 z).wf = true) : -9223372036854775808 ≤ z ∧ z ≤ 9223372036854775807 := by
 have hmin : IntKind.i64.min = -9223372036854775808 := rfl
 have hmax : IntKind.i64.max = 9223372036854775807 := rfl
 simp only [Lit.wf, Bool.and_eq_true, decide_eq_true_eq] at h
 omega
section
variable {H : Type} {enc : TypeId × Value → H} {P : Program} {w : World} {held : Bool}
theorem cints {A : Addr} {n : Nat} {zs : List Int} (hz : n ≤ zs.length) (hn : n ≤ 9223372036854775807) (hc : ∀ i, i < n → w.cell? (A.add i) = some (.int .i64 (zs.getD i 0))) :
  Kd.C (Kd.int .i64) w (some A) (zs.take n).length (zs.take n) := by
 have hl : (zs.take n).length = n := by rw [List.length_take]; omega
 refine ⟨rfl, by omega, fun h => ⟨A, rfl, fun j p hj => ⟨[.int .i64 p], rfl, rfl, fun i u hu => ?_⟩⟩⟩
 cases i with
 | zero =>
  simp only [List.getElem?_cons_zero, Option.some.injEq] at hu
  subst hu
  have hj' : j < n := by have := (List.getElem?_eq_some_iff.1 hj).1; omega
  have := hc j hj'
  rw [List.getElem?_take_of_lt hj'] at hj
  simp only [Kd.int, Kd.scalar, Nat.mul_one, Nat.add_zero]
  rw [this, List.getD_eq_getElem?_getD, hj]
  rfl
 | succ i => simp at hu
theorem open_rowsC {t e q : TypeId} {fuel : Nat} {cs : List Value} {x : DataW H × List MemPlace} (ht : P.underlying t = some (.slice e)) (he : P.underlying e = some (.slice q)) (hq : P.underlying q = some (.int .i64))
  (ce : P.cellsOf e = 1) (cq : P.cellsOf q = 1) (h : DataW.trod enc P w 0 (fun _ => true) held fuel t cs = some x) (h3 : q = 3) :
  ∃ (a : Option Addr) (c : Nat) (rows : List (List Int)), cs = [.slice a rows.length c] ∧ rows.length ≤ c ∧ Kd.C (Kd.slice 3 (Kd.int .i64)) w a rows.length rows ∧ RowsOk rows := by
 subst h3
 rcases Go.Deep.open_int_rows ht he hq ce cq h with ⟨rfl, _⟩ | ⟨a, len, cap, A, L, C, Z, rfl, _, hl, hm, _, hr⟩
 ·exact ⟨none, 0, [], rfl, Nat.le_refl _, Kd.C_nil _ _, by simp [RowsOk], by simp⟩
 ·unfold maxLen at hm
  have hlen : ((List.range len).map fun r => (Z r).take (L r)).length = len := by simp
  refine ⟨some a, cap, (List.range len).map fun r => (Z r).take (L r), by rw [hlen], by omega, ⟨rfl, by omega, fun _ => ⟨a, rfl, fun j p hj => ?_⟩⟩, by omega, ?_⟩
  ·have hj' : j < len := by have := (List.getElem?_eq_some_iff.1 hj).1; omega
   rw [List.getElem?_map, List.getElem?_range hj'] at hj
   simp only [Option.map_some, Option.some.injEq] at hj
   subst hj
   obtain ⟨h1, h2, h3, h4, h5, h6, h7⟩ := hr j (by omega)
   unfold maxLen at h3
   have hl2 : ((Z j).take (L j)).length = L j := by rw [List.length_take]; omega
   refine ⟨[.slice (A j) (L j) (C j)], rfl, ⟨A j, C j, by rw [hl2], by omega, ?_⟩, fun i u hu => ?_⟩
   ·cases hA : A j with
    | none =>
     have : (Z j).take (L j) = [] := List.eq_nil_of_length_eq_zero (by have := h6 hA; omega)
     rw [this]
     exact Kd.C_nil _ _
    | some a' => exact cints (by omega) (by omega) (fun i hi => (h7 a' hA).2 i (by omega))
   ·cases i with
    | zero =>
     simp only [List.getElem?_cons_zero, Option.some.injEq] at hu
     subst hu
     simpa [Kd.slice] using h1
    | succ i => simp at hu
  ·intro row hrow
   obtain ⟨r, hr2, rfl⟩ := List.mem_map.1 hrow
   have hr3 : r < len := by simpa using hr2
   obtain ⟨h1, h2, h3, h4, h5, h6, h7⟩ := hr r (by omega)
   unfold maxLen at h3
   exact ⟨by rw [List.length_take]; omega, fun z hz => int_wf (h5 z (List.mem_of_mem_take hz))⟩
theorem open_autoC {t tr e : TypeId} {f0 : Field} {v : Value} {r : Reach} {b0 : Nat} {d : DataW H} {ps : List MemPlace} (hs : P.underlying t = some (.struct #[f0])) (hf0 : f0.type = tr) (ho : f0.offset = 0) (hC : P.cellsOf t = 1) (hC0 : P.cellsOf tr = 1) (ht : P.underlying tr = some (.slice e)) (he : P.underlying e = some (.slice 3)) (hq : P.underlying 3 = some (.int .i64))
  (ce : P.cellsOf e = 1) (cq : P.cellsOf 3 = 1) (hv : Value.okWide P w r b0 t v) (h : DataW.Trod enc P w 0 (fun _ => true) held t v d ps) :
  ∃ (a : Option Addr) (c : Nat) (rows : List (List Int)), v = .agg #[.slice a rows.length c] ∧ rows.length ≤ c ∧ Kd.C (Kd.slice 3 (Kd.int .i64)) w a rows.length rows ∧ RowsOk rows := by
 obtain ⟨cs, rfl, hsz⟩ := okWide_struct hs hv
 obtain ⟨fuel, hf⟩ := h
 obtain ⟨y0, n, _, _, h0⟩ := trod_struct1 hs hf
 subst hf0
 rw [ho, hC0] at h0
 obtain ⟨l⟩ := cs
 match l, hsz.trans hC with
 | [c0], _ =>
  simp only [Value.cells, List.drop_zero] at h0
  obtain ⟨a', c', rows, hcs, r1, r2, r3⟩ := open_rowsC ht he hq ce cq h0 rfl
  simp at hcs
  subst hcs
  exact ⟨_, _, rows, rfl, r1, r2, r3⟩
end
end Go.Proofs.Ytjgdalhdiohclaa.Q
end
/-! Part MBase -/
section
namespace Go.Proofs.Ytjgdalhdiohclaa.Q
set_option linter.unusedVariables false
theorem wrapS {i : Nat} (h : i + 1 ≤ 9223372036854775807) : wrap64 ((i : Int) + 1) = ((i + 1 : Nat) : Int) := by
 unfold wrap64; omega
theorem wrapI {z : Int} (h0 : -9223372036854775808 ≤ z) (h : z ≤ 9223372036854775807) : wrap64 z = z := by
 unfold wrap64; omega
theorem rdN (l : List Int) (i : Nat) : rd l (i : Int) = l.getD i 0 := rfl
theorem rdE {l : List Int} {i : Nat} (h : i < l.length) : rd l (i : Int) = l[i] := by
 rw [rdN, List.getD_eq_getElem?_getD, List.getElem?_eq_getElem h]; rfl
theorem rdLN (l : List (List Int)) (i : Nat) : rd_L1 l (i : Int) = l.getD i [] := rfl
theorem rdLE {l : List (List Int)} {i : Nat} (h : i < l.length) : rd_L1 l (i : Int) = l[i] := by
 rw [rdLN, List.getD_eq_getElem?_getD, List.getElem?_eq_getElem h]; rfl
theorem Ev.eq {α : Type} {g : Nat → Option α} {r r' : α} (h : Ev g r) (e : r = r') : Ev g r' := e ▸ h
theorem ref_below (l : List Int) (n : Int) (hl : l.length ≤ 9223372036854775806) : Ev (fun k => mizmazeref01_Below.f k l n) (inB n l) := by
 have key : ∀ d i : Nat, i + d = l.length → Ev (fun k => mizmazeref01_Below.l0 k l n (i : Int)) (inB n (l.drop i)) := by
  intro d
  induction d with
  | zero =>
   intro i hi
   refine Ev.step (f := fun _ => some true) (fun k => by rw [mizmazeref01_Below.l0, if_neg (by omega)]) ?_
   rw [List.drop_eq_nil_of_le (by omega)]
   exact Ev.now true
  | succ d ih =>
   intro i hi
   have hlt : i < l.length := by omega
   have e : inB n (l.drop i) = (decide (0 ≤ l[i] ∧ l[i] < n) && inB n (l.drop (i + 1))) := by
    rw [List.drop_eq_getElem_cons hlt]; rfl
   rw [e]
   by_cases h1 : l[i] < 0
   ·refine Ev.step (f := fun _ => some false) (fun k => by rw [mizmazeref01_Below.l0, if_pos (by omega), if_pos (by omega), rdE hlt, if_pos h1]) ?_
    rw [decide_eq_false (by omega)]
    exact Ev.now false
   ·by_cases h2 : l[i] ≥ n
    ·refine Ev.step (f := fun _ => some false) (fun k => by rw [mizmazeref01_Below.l0, if_pos (by omega), if_pos (by omega), rdE hlt, if_neg h1, if_pos h2]) ?_
     rw [decide_eq_false (by omega)]
     exact Ev.now false
    ·refine Ev.step (f := fun k => mizmazeref01_Below.l0 k l n ((i + 1 : Nat) : Int)) (fun k => by rw [mizmazeref01_Below.l0, if_pos (by omega), if_pos (by omega), rdE hlt, if_neg h1, if_neg h2, wrapS (by omega)]) ?_
     rw [decide_eq_true (by omega)]
     exact ih (i + 1) (by omega)
 exact key l.length 0 (by omega)
theorem Ev.next {α : Type} {g : Nat → Option α} {r : α} (h : Ev (fun k => g (k + 1)) r) : Ev g r := Ev.step (fun _ => rfl) h
theorem Ev.ret {α : Type} {r r' : α} (e : r = r') : Ev (fun _ => some r) r' := e ▸ Ev.now r
theorem Ev.every {α : Type} {g : Nat → Nat → Option α} {n : Nat} {yes no r : α} (p : Nat → Bool)
  (hy : (∀ i, i < n → p i = true) → r = yes) (hn : ∀ i, i < n → p i = false → r = no)
  (go : ∀ i, i < n → p i = true → Ev (fun k => g k (i + 1)) r → Ev (fun k => g k i) r)
  (stop : ∀ i, i < n → p i = false → Ev (fun k => g k i) no) (fin : Ev (fun k => g k n) yes) : Ev (fun k => g k 0) r := by
 have key : ∀ d i : Nat, i + d = n → (∀ j, j < i → p j = true) → Ev (fun k => g k i) r := by
  intro d
  induction d with
  | zero =>
   intro i hi hj
   obtain rfl : i = n := by omega
   rw [hy hj]; exact fin
  | succ d ih =>
   intro i hi hj
   cases hp : p i with
   | false => rw [hn i (by omega) hp]; exact stop i (by omega) hp
   | true =>
    refine go i (by omega) hp (ih (i + 1) (by omega) fun j h => ?_)
    rcases Nat.lt_or_ge j i with h4 | h4
    ·exact hj j h4
    ·obtain rfl : j = i := by omega
     exact hp
 exact key n 0 (by omega) fun j h => by omega
structure VA (rows : List (List Int)) (n m : Nat) : Prop where
 len : rows.length = n
 n0 : 0 < n
 n60 : n ≤ 60
 m0 : 0 < m
 m6 : m ≤ 6
 row : ∀ s, s < n → (rd_L1 rows (s : Int)).length = m
 ent : ∀ s, s < n → inB n (rd_L1 rows (s : Int)) = true
theorem any_bad {l : List (List Int)} {p : List Int → Bool} : l.any p = false ↔ ∀ i, i < l.length → p (rd_L1 l (i : Int)) = false := by
 rw [List.any_eq_false]
 refine ⟨fun h i hi => by rw [rdLE hi]; simpa using h _ (List.getElem_mem hi), fun h x hx => ?_⟩
 obtain ⟨i, hi, rfl⟩ := List.getElem_of_mem hx
 have := h i hi
 rw [rdLE hi] at this
 simp [this]
theorem validB_iff {rows : List (List Int)} : validB rows = true ↔ VA rows rows.length (rd_L1 rows 0).length := by
 unfold validB kOf badB
 rw [Bool.and_eq_true, decide_eq_true_eq, Bool.not_eq_true', any_bad]
 constructor
 ·rintro ⟨⟨h1, h2, h3, h4⟩, h5⟩
  have e := fun s (h : s < rows.length) => h5 s h
  simp only [Bool.or_eq_false_iff, decide_eq_false_iff_not, Bool.not_eq_false', Classical.not_not] at e
  exact ⟨rfl, by omega, by omega, by omega, by omega, fun s h => by have := (e s h).1; omega, fun s h => (e s h).2⟩
 ·intro V
  have := V.n0; have := V.n60; have := V.m0; have := V.m6
  refine ⟨⟨by omega, by omega, by omega, by omega⟩, fun i hi => ?_⟩
  have := V.row i hi
  simp only [Bool.or_eq_false_iff, decide_eq_false_iff_not, Bool.not_eq_false', Classical.not_not]
  exact ⟨by omega, V.ent i hi⟩
theorem validB_of {rows : List (List Int)} {n m : Nat} (V : VA rows n m) : validB rows = true := by
 refine validB_iff.2 ?_
 have h1 := V.len; subst h1
 have h2 : (rd_L1 rows 0).length = m := V.row 0 V.n0
 rw [h2]; exact V
theorem ref_valid (rows : List (List Int)) (ho : RowsOk rows) : Ev (fun k => mizmazeref01_Valid.f k rows) (validB rows) := by
 unfold mizmazeref01_Valid.f
 have big : Ev (fun k => mizmazeref01_Valid.j0 k (rows.length : Int) true rows) false := by
  refine Ev.next ?_; simp only [mizmazeref01_Valid.j0, if_true]; exact Ev.now _
 by_cases h1 : rows.length = 0
 ·have e : validB rows = false := by rw [Bool.eq_false_iff]; intro h; have := (validB_iff.1 h).n0; omega
  rw [e]; simp only [if_pos (by omega : (rows.length : Int) = 0)]; exact big
 by_cases h2 : rows.length > 60
 ·have e : validB rows = false := by rw [Bool.eq_false_iff]; intro h; have := (validB_iff.1 h).n60; omega
  rw [e]; simp only [if_neg (by omega : ¬ (rows.length : Int) = 0), if_pos (by omega : (rows.length : Int) > 60)]; exact big
 simp only [if_neg (by omega : ¬ (rows.length : Int) = 0), if_neg (by omega : ¬ (rows.length : Int) > 60), if_pos (by omega : 0 < (rows.length : Int))]
 by_cases h3 : (rd_L1 rows 0).length = 0
 ·have e : validB rows = false := by rw [Bool.eq_false_iff]; intro h; have := (validB_iff.1 h).m0; omega
  rw [e]; simp only [if_pos (by omega : ((rd_L1 rows 0).length : Int) = 0)]; exact big
 simp only [if_neg (by omega : ¬ ((rd_L1 rows 0).length : Int) = 0)]
 by_cases h4 : (rd_L1 rows 0).length > 6
 ·have e : validB rows = false := by rw [Bool.eq_false_iff]; intro h; have := (validB_iff.1 h).m6; omega
  rw [e]; simp only [decide_eq_true (by omega : ((rd_L1 rows 0).length : Int) > 6)]; exact big
 simp only [decide_eq_false (by omega : ¬ ((rd_L1 rows 0).length : Int) > 6)]
 refine Ev.next ?_
 simp only [mizmazeref01_Valid.j0, Bool.false_eq_true, if_false]
 refine @Ev.every Bool (fun k i => mizmazeref01_Valid.l0 k (rows.length : Int) (i : Int) rows) rows.length true false _ (fun i => !badB ((rd_L1 rows 0).length) rows.length (rd_L1 rows (i : Int))) ?_ ?_ ?_ ?_ ?_
 ·intro h
  unfold validB kOf
  rw [decide_eq_true (by omega), Bool.true_and, Bool.not_eq_true', any_bad]; exact fun i hi => by simpa using h i hi
 ·intro i hi hp
  rw [Bool.eq_false_iff]
  intro h; unfold validB kOf at h
  rw [Bool.and_eq_true, Bool.not_eq_true', any_bad] at h
  have := h.2 i hi
  rw [this] at hp; exact Bool.noConfusion hp
 ·intro i hi hp hr
  simp only [badB, Bool.not_or, Bool.and_eq_true, Bool.not_eq_true', decide_eq_false_iff_not, Classical.not_not, Bool.not_not] at hp
  refine Ev.next ?_
  have hlen : (rd_L1 rows (i : Int)).length ≤ 9223372036854775806 := by have := hp.1; omega
  simp only [mizmazeref01_Valid.l0, if_pos (by omega : (i : Int) < (rows.length : Int)), if_pos (by omega : (0 : Int) ≤ (i : Int)), if_pos (by omega : 0 < (rows.length : Int)), if_pos hp.1, wrapS (by omega : i + 1 ≤ 9223372036854775807)]
  refine Ev.bind (ref_below _ _ hlen) ?_
  simp only [hp.2, if_true]
  exact hr
 ·intro i hi hp
  refine Ev.next ?_
  simp only [mizmazeref01_Valid.l0, if_pos (by omega : (i : Int) < (rows.length : Int)), if_pos (by omega : (0 : Int) ≤ (i : Int)), if_pos (by omega : 0 < (rows.length : Int))]
  by_cases h5 : ((rd_L1 rows (i : Int)).length : Int) = ((rd_L1 rows 0).length : Int)
  ·simp only [if_pos h5]
   refine Ev.bind (ref_below _ _ (by omega)) ?_
   have : inB rows.length (rd_L1 rows (i : Int)) = false := by
    simp only [badB, Bool.not_or, Bool.and_eq_false_iff, Bool.not_eq_false', decide_eq_true_eq, Bool.not_not] at hp
    rcases hp with h | h
    ·exact absurd h5 h
    ·exact h
   simp only [this, Bool.false_eq_true, if_false]
   exact Ev.now _
  ·simp only [if_neg h5]; exact Ev.now _
 ·refine Ev.next ?_
  simp only [mizmazeref01_Valid.l0, if_neg (by omega : ¬ (rows.length : Int) < (rows.length : Int))]
  exact Ev.now _
theorem VA.letters {rows : List (List Int)} {n m : Nat} (V : VA rows n m) : mizmazeref01_Letters.f rows = some (m : Int) := by
 unfold mizmazeref01_Letters.f
 have := V.n0; have := V.len; have := V.row 0 V.n0
 rw [if_pos (by omega)]; congr 1; exact congrArg _ this
end Go.Proofs.Ytjgdalhdiohclaa.Q
end
/-! Part MSames -/
section
namespace Go.Proofs.Ytjgdalhdiohclaa.Q
set_option linter.unusedVariables false
end Go.Proofs.Ytjgdalhdiohclaa.Q
end
/-! Part MHas -/
section
namespace Go.Proofs.Ytjgdalhdiohclaa.Q
set_option linter.unusedVariables false
end Go.Proofs.Ytjgdalhdiohclaa.Q
end
/-! Part MColor -/
section
namespace Go.Proofs.Ytjgdalhdiohclaa.Q
set_option linter.unusedVariables false
set_option linter.unusedSimpArgs false
theorem VA.of5 {rows : List (List Int)} (h : validB rows = true) : VA rows rows.length (rd_L1 rows 0).length := validB_iff.1 h
theorem perm_of_sub : ∀ (l1 l2 : List Int), l1.Nodup → (∀ x ∈ l1, x ∈ l2) → l2.length ≤ l1.length → l1.Perm l2
 | [], l2, _, _, h => by
  have : l2 = [] := List.length_eq_zero_iff.1 (by simpa using h)
  subst this
  exact List.Perm.refl _
 | x :: l1, l2, hn, hs, hl => by
  obtain ⟨h1, h2⟩ := List.nodup_cons.1 hn
  have hx : x ∈ l2 := hs x List.mem_cons_self
  have hp := List.perm_cons_erase hx
  have hlen : (l2.erase x).length = l2.length - 1 := List.length_erase_of_mem hx
  simp only [List.length_cons] at hl
  have ih := perm_of_sub l1 (l2.erase x) h2 (fun y hy => (List.mem_erase_of_ne (fun e : y = x => h1 (by rw [← e]; exact hy))).2 (hs y (List.mem_cons_of_mem _ hy))) (by omega)
  exact (ih.cons x).trans hp.symm
def NamesP (p : List Int) (m : Nat) : Prop := p.length = m ∧ ∀ v : Nat, v < m → (v : Int) ∈ p
instance (p : List Int) (m : Nat) : Decidable (NamesP p m) := by unfold NamesP; infer_instance
def rangeI (m : Nat) : List Int := (List.range m).map fun i : Nat => ((i : Nat) : Int)
theorem rangeI_len (m : Nat) : (rangeI m).length = m := by simp [rangeI]
theorem rangeI_mem {m : Nat} {x : Int} : x ∈ rangeI m ↔ 0 ≤ x ∧ x < m := by
 unfold rangeI
 rw [List.mem_map]
 constructor
 ·rintro ⟨i, hi, rfl⟩
  have := List.mem_range.1 hi
  omega
 ·rintro ⟨h0, h1⟩
  exact ⟨x.toNat, List.mem_range.2 (by omega), by omega⟩
theorem NamesP.of {p : List Int} {m : Nat} (hl : p.length = m) (hn : p.Nodup) (hx : ∀ x ∈ p, 0 ≤ x ∧ x < (m : Int)) : NamesP p m := by
 refine ⟨hl, fun v hv => ?_⟩
 have hp := perm_of_sub p (rangeI m) hn (fun x h => rangeI_mem.2 (hx x h)) (by rw [rangeI_len, hl]; exact Nat.le_refl _)
 exact hp.mem_iff.2 (rangeI_mem.2 ⟨by omega, by omega⟩)
def PermsP (a perms : List (List Int)) (m : Nat) : Prop := perms.length = a.length ∧ ∀ i, i < perms.length → NamesP (rd_L1 perms (i : Int)) m
instance (a perms : List (List Int)) (m : Nat) : Decidable (PermsP a perms m) := by unfold PermsP; infer_instance
end Go.Proofs.Ytjgdalhdiohclaa.Q
end
