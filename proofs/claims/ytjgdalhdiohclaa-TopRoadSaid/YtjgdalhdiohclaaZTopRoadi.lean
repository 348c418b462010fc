/- Part of the proof of TopRoad (text 9 of 33) -/
import Derived.Test.YtjgdalhdiohclaaZTopRoadg
import Derived.ProofKit
import Derived.OpenShut
import Derived.ChangeOld
import Derived.ChangeSlices
import Derived.Deep.Matrix
import Derived.Test.YtjgdalhdiohclaaZTopRoadh
import Derived.Test.YtjgdalhdiohclaaZTopRoade
set_option linter.unusedVariables false
set_option linter.unusedSimpArgs false
set_option linter.unusedSectionVars false
section
namespace Go.Proofs.Ytjgdalhdiohclaa.Q
open Go.RowKit Go.Proofs.YtjgdalhdiohclaaW.PrintWords Go.Proofs.YtjgdalhdiohclaaW.PrintLast Go.Proofs.YtjgdalhdiohclaaW.PrintMore
open Go.ChangeShapes Go.WideShapes
def IntsOk (l : List Int) : Prop := l.length ≤ 9223372036854775807 ∧ ∀ z ∈ l, -9223372036854775808 ≤ z ∧ z ≤ 9223372036854775807
def RowsOk (rows : List (List Int)) : Prop := rows.length ≤ 9223372036854775807 ∧ ∀ row ∈ rows, IntsOk row
theorem int_wf {z : Int} (h : (Lit.int .i64 z).wf = true) : -9223372036854775808 ≤ z ∧ z ≤ 9223372036854775807 := by
 have hmin : IntKind.i64.min = -9223372036854775808 := rfl
 have hmax : IntKind.i64.max = 9223372036854775807 := rfl
 simp only [Lit.wf, Bool.and_eq_true, decide_eq_true_eq] at h
 omega
section
variable {H : Type} {enc : TypeId × Value → H} {P : Program} {w : World} {held : Bool}
theorem cints {A : Addr} {n : Nat} {zs : List Int} (hz : n ≤ zs.length) (hn : n ≤ 9223372036854775807) (hc : ∀ i, i < n → w.cell? (A.add i) = some (.int .i64 (zs.getD i 0))) :
  Kd.C (Kd.int .i64) w (some A) (zs.take n).length (zs.take n) := by
 have hl : (zs.take n).length = n := by rw [List.length_take]; omega
 refine ⟨rfl, by omega, fun h => ⟨A, rfl, fun j p hj => ⟨[.int .i64 p], rfl, rfl, fun i u hu => ?_⟩⟩⟩
 cases i with
 | zero =>
  simp only [List.getElem?_cons_zero, Option.some.injEq] at hu
  subst hu
  have hj' : j < n := by have := (List.getElem?_eq_some_iff.1 hj).1; omega
  have := hc j hj'
  rw [List.getElem?_take_of_lt hj'] at hj
  simp only [Kd.int, Kd.scalar, Nat.mul_one, Nat.add_zero]
  rw [this, List.getD_eq_getElem?_getD, hj]
  rfl
 | succ i => simp at hu
theorem open_intsC {t e : TypeId} {a : Option Addr} {n c : Nat} {d : DataW H} {ps : List MemPlace} (ht : P.underlying t = some (.slice e)) (he : P.underlying e = some (.int .i64)) (hc : P.cellsOf e = 1)
  (h : DataW.Trod enc P w 0 (fun _ => true) held t (.slice a n c) d ps) : ∃ l : List Int, n = l.length ∧ l.length ≤ c ∧ Kd.C (Kd.int .i64) w a l.length l ∧ IntsOk l := by
 obtain ⟨fuel, hf⟩ := h
 rcases open_ints ht he hc hf with ⟨hcs, _⟩ | ⟨x, l, cc, zs, hcs, _, hl, hm, hz, _, hcell, hwz⟩
 ·simp [Value.cells] at hcs
  obtain ⟨rfl, rfl, rfl⟩ := hcs
  exact ⟨[], rfl, Nat.le_refl _, Kd.C_nil _ _, by simp [IntsOk], by simp⟩
 ·simp [Value.cells] at hcs
  obtain ⟨rfl, rfl, rfl⟩ := hcs
  simp only [if_true] at hz
  unfold maxLen at hm
  have hl2 : (zs.take n).length = n := by rw [List.length_take]; omega
  refine ⟨zs.take n, hl2.symm, by omega, cints (by omega) (by omega) (fun i hi => hcell i (by omega)), by omega, fun z hz => int_wf (hwz z (List.mem_of_mem_take hz))⟩
theorem open_rowsC {t e q : TypeId} {fuel : Nat} {cs : List Value} {x : DataW H × List MemPlace} (ht : P.underlying t = some (.slice e)) (he : P.underlying e = some (.slice q)) (hq : P.underlying q = some (.int .i64))
  (ce : P.cellsOf e = 1) (cq : P.cellsOf q = 1) (h : DataW.trod enc P w 0 (fun _ => true) held fuel t cs = some x) (h3 : q = 3) :
  ∃ (a : Option Addr) (c : Nat) (rows : List (List Int)), cs = [.slice a rows.length c] ∧ rows.length ≤ c ∧ Kd.C (Kd.slice 3 (Kd.int .i64)) w a rows.length rows ∧ RowsOk rows := by
 subst h3
 rcases Go.Deep.open_int_rows ht he hq ce cq h with ⟨rfl, _⟩ | ⟨a, len, cap, A, L, C, Z, rfl, _, hl, hm, _, hr⟩
 ·exact ⟨none, 0, [], rfl, Nat.le_refl _, Kd.C_nil _ _, by simp [RowsOk], by simp⟩
 ·unfold maxLen at hm
  have hlen : ((List.range len).map fun r => (Z r).take (L r)).length = len := by simp
  refine ⟨some a, cap, (List.range len).map fun r => (Z r).take (L r), by rw [hlen], by omega, ⟨rfl, by omega, fun _ => ⟨a, rfl, fun j p hj => ?_⟩⟩, by omega, ?_⟩
  ·have hj' : j < len := by have := (List.getElem?_eq_some_iff.1 hj).1; omega
   rw [List.getElem?_map, List.getElem?_range hj'] at hj
   simp only [Option.map_some, Option.some.injEq] at hj
   subst hj
   obtain ⟨h1, h2, h3, h4, h5, h6, h7⟩ := hr j (by omega)
   unfold maxLen at h3
   have hl2 : ((Z j).take (L j)).length = L j := by rw [List.length_take]; omega
   refine ⟨[.slice (A j) (L j) (C j)], rfl, ⟨A j, C j, by rw [hl2], by omega, ?_⟩, fun i u hu => ?_⟩
   ·cases hA : A j with
    | none =>
     have : (Z j).take (L j) = [] := List.eq_nil_of_length_eq_zero (by have := h6 hA; omega)
     rw [this]
     exact Kd.C_nil _ _
    | some a' => exact cints (by omega) (by omega) (fun i hi => (h7 a' hA).2 i (by omega))
   ·cases i with
    | zero =>
     simp only [List.getElem?_cons_zero, Option.some.injEq] at hu
     subst hu
     simpa [Kd.slice] using h1
    | succ i => simp at hu
  ·intro row hrow
   obtain ⟨r, hr2, rfl⟩ := List.mem_map.1 hrow
   have hr3 : r < len := by simpa using hr2
   obtain ⟨h1, h2, h3, h4, h5, h6, h7⟩ := hr r (by omega)
   unfold maxLen at h3
   exact ⟨by rw [List.length_take]; omega, fun z hz => int_wf (h5 z (List.mem_of_mem_take hz))⟩
theorem open_autoC {t tr e : TypeId} {f0 : Field} {v : Value} {r : Reach} {b0 : Nat} {d : DataW H} {ps : List MemPlace} (hs : P.underlying t = some (.struct #[f0])) (hf0 : f0.type = tr) (ho : f0.offset = 0) (hC : P.cellsOf t = 1) (hC0 : P.cellsOf tr = 1) (ht : P.underlying tr = some (.slice e)) (he : P.underlying e = some (.slice 3)) (hq : P.underlying 3 = some (.int .i64))
  (ce : P.cellsOf e = 1) (cq : P.cellsOf 3 = 1) (hv : Value.okWide P w r b0 t v) (h : DataW.Trod enc P w 0 (fun _ => true) held t v d ps) :
  ∃ (a : Option Addr) (c : Nat) (rows : List (List Int)), v = .agg #[.slice a rows.length c] ∧ rows.length ≤ c ∧ Kd.C (Kd.slice 3 (Kd.int .i64)) w a rows.length rows ∧ RowsOk rows := by
 obtain ⟨cs, rfl, hsz⟩ := okWide_struct hs hv
 obtain ⟨fuel, hf⟩ := h
 obtain ⟨y0, n, _, _, h0⟩ := trod_struct1 hs hf
 subst hf0
 rw [ho, hC0] at h0
 obtain ⟨l⟩ := cs
 match l, hsz.trans hC with
 | [c0], _ =>
  simp only [Value.cells, List.drop_zero] at h0
  obtain ⟨a', c', rows, hcs, r1, r2, r3⟩ := open_rowsC ht he hq ce cq h0 rfl
  simp at hcs
  subst hcs
  exact ⟨_, _, rows, rfl, r1, r2, r3⟩
end
end Go.Proofs.Ytjgdalhdiohclaa.Q
end
section
namespace Go.Proofs.Ytjgdalhdiohclaa.Q
open Go.RowKit Go.Proofs.YtjgdalhdiohclaaW.PrintWords Go.Proofs.YtjgdalhdiohclaaW.PrintLast Go.Proofs.YtjgdalhdiohclaaW.PrintMore
theorem wrapS {i : Nat} (h : i + 1 ≤ 9223372036854775807) : wrap64 ((i : Int) + 1) = ((i + 1 : Nat) : Int) := by
 unfold wrap64; omega
theorem wrapI {z : Int} (h0 : -9223372036854775808 ≤ z) (h : z ≤ 9223372036854775807) : wrap64 z = z := by
 unfold wrap64; omega
theorem rdN (l : List Int) (i : Nat) : rd l (i : Int) = l.getD i 0 := rfl
theorem rdE {l : List Int} {i : Nat} (h : i < l.length) : rd l (i : Int) = l[i] := by
 rw [rdN, List.getD_eq_getElem?_getD, List.getElem?_eq_getElem h]; rfl
theorem rdLN (l : List (List Int)) (i : Nat) : rd_L1 l (i : Int) = l.getD i [] := rfl
theorem rdLE {l : List (List Int)} {i : Nat} (h : i < l.length) : rd_L1 l (i : Int) = l[i] := by
 rw [rdLN, List.getD_eq_getElem?_getD, List.getElem?_eq_getElem h]; rfl
theorem rdBE {l : List Bool} {i : Nat} (h : i < l.length) : rdOf false l (i : Int) = l[i] := by
 show l.getD i false = _
 rw [List.getD_eq_getElem?_getD, List.getElem?_eq_getElem h]; rfl
theorem rd_in {l : List Int} {n x : Int} (h : inB n l = true) (h0 : 0 ≤ x) (h1 : x < l.length) : 0 ≤ rd l x ∧ rd l x < n := by
 obtain ⟨i, rfl⟩ := Int.eq_ofNat_of_zero_le h0
 rw [rdE (by omega)]
 unfold inB at h
 rw [List.all_eq_true] at h
 simpa using h _ (List.getElem_mem (by omega : i < l.length))
theorem Ev.eq {α : Type} {g : Nat → Option α} {r r' : α} (h : Ev g r) (e : r = r') : Ev g r' := e ▸ h
theorem Ev.next {α : Type} {g : Nat → Option α} {r : α} (h : Ev (fun k => g (k + 1)) r) : Ev g r := Ev.step (fun _ => rfl) h
theorem Ev.ret {α : Type} {r r' : α} (e : r = r') : Ev (fun _ => some r) r' := e ▸ Ev.now r
theorem Ev.every {α : Type} {g : Nat → Nat → Option α} {n : Nat} {yes no r : α} (p : Nat → Bool)
  (hy : (∀ i, i < n → p i = true) → r = yes) (hn : ∀ i, i < n → p i = false → r = no)
  (go : ∀ i, i < n → p i = true → Ev (fun k => g k (i + 1)) r → Ev (fun k => g k i) r)
  (stop : ∀ i, i < n → p i = false → Ev (fun k => g k i) no) (fin : Ev (fun k => g k n) yes) : Ev (fun k => g k 0) r := by
 have key : ∀ d i : Nat, i + d = n → (∀ j, j < i → p j = true) → Ev (fun k => g k i) r := by
  intro d
  induction d with
  | zero =>
   intro i hi hj
   obtain rfl : i = n := by omega
   rw [hy hj]; exact fin
  | succ d ih =>
   intro i hi hj
   cases hp : p i with
   | false => rw [hn i (by omega) hp]; exact stop i (by omega) hp
   | true =>
    refine go i (by omega) hp (ih (i + 1) (by omega) fun j h => ?_)
    rcases Nat.lt_or_ge j i with h4 | h4
    ·exact hj j h4
    ·obtain rfl : j = i := by omega
     exact hp
 exact key n 0 (by omega) fun j h => by omega
structure VA (rows : List (List Int)) (n m : Nat) : Prop where
 len : rows.length = n
 n0 : 0 < n
 n60 : n ≤ 60
 m0 : 0 < m
 m6 : m ≤ 6
 row : ∀ s, s < n → (rd_L1 rows (s : Int)).length = m
 ent : ∀ s, s < n → inB n (rd_L1 rows (s : Int)) = true
theorem any_bad {l : List (List Int)} {p : List Int → Bool} : l.any p = false ↔ ∀ i, i < l.length → p (rd_L1 l (i : Int)) = false := by
 rw [List.any_eq_false]
 refine ⟨fun h i hi => by rw [rdLE hi]; simpa using h _ (List.getElem_mem hi), fun h x hx => ?_⟩
 obtain ⟨i, hi, rfl⟩ := List.getElem_of_mem hx
 have := h i hi
 rw [rdLE hi] at this
 simp [this]
theorem validB_iff {rows : List (List Int)} : validB rows = true ↔ VA rows rows.length (rd_L1 rows 0).length := by
 unfold validB kOf badB
 rw [Bool.and_eq_true, decide_eq_true_eq, Bool.not_eq_true', any_bad]
 constructor
 ·rintro ⟨⟨h1, h2, h3, h4⟩, h5⟩
  have e := fun s (h : s < rows.length) => h5 s h
  simp only [Bool.or_eq_false_iff, decide_eq_false_iff_not, Bool.not_eq_false', Classical.not_not] at e
  exact ⟨rfl, by omega, by omega, by omega, by omega, fun s h => by have := (e s h).1; omega, fun s h => (e s h).2⟩
 ·intro V
  have := V.n0; have := V.n60; have := V.m0; have := V.m6
  refine ⟨⟨by omega, by omega, by omega, by omega⟩, fun i hi => ?_⟩
  have := V.row i hi
  simp only [Bool.or_eq_false_iff, decide_eq_false_iff_not, Bool.not_eq_false', Classical.not_not]
  exact ⟨by omega, V.ent i hi⟩
theorem validB_of {rows : List (List Int)} {n m : Nat} (V : VA rows n m) : validB rows = true := by
 refine validB_iff.2 ?_
 have h1 := V.len; subst h1
 have h2 : (rd_L1 rows 0).length = m := V.row 0 V.n0
 rw [h2]; exact V
def nx (rows : List (List Int)) (s x : Nat) : Nat := (rd (rd_L1 rows (s : Int)) (x : Int)).toNat
theorem VA.nxE {rows : List (List Int)} {n m : Nat} (V : VA rows n m) {s x : Nat} (hs : s < n) (hx : x < m) : rd (rd_L1 rows (s : Int)) (x : Int) = ((nx rows s x : Nat) : Int) := by
 have := rd_in (V.ent s hs) (Int.natCast_nonneg x) (by have := V.row s hs; omega)
 unfold nx; omega
theorem VA.nxLt {rows : List (List Int)} {n m : Nat} (V : VA rows n m) {s x : Nat} (hs : s < n) (hx : x < m) : nx rows s x < n := by
 have := rd_in (V.ent s hs) (Int.natCast_nonneg x) (by have := V.row s hs; omega)
 unfold nx; omega
end Go.Proofs.Ytjgdalhdiohclaa.Q
end
section
namespace Go.Proofs.Ytjgdalhdiohclaa.Q
open Go.RowKit Go.Proofs.YtjgdalhdiohclaaW.PrintWords Go.Proofs.YtjgdalhdiohclaaW.PrintLast Go.Proofs.YtjgdalhdiohclaaW.PrintMore
end Go.Proofs.Ytjgdalhdiohclaa.Q
end
section
namespace Go.Proofs.Ytjgdalhdiohclaa.Q
open Go.RowKit Go.Proofs.YtjgdalhdiohclaaW.PrintWords Go.Proofs.YtjgdalhdiohclaaW.PrintLast Go.Proofs.YtjgdalhdiohclaaW.PrintMore
end Go.Proofs.Ytjgdalhdiohclaa.Q
end
section
namespace Go.Proofs.Ytjgdalhdiohclaa.Q
open Go.RowKit Go.Proofs.YtjgdalhdiohclaaW.PrintWords Go.Proofs.YtjgdalhdiohclaaW.PrintLast Go.Proofs.YtjgdalhdiohclaaW.PrintMore
theorem VA.of5 {rows : List (List Int)} (h : validB rows = true) : VA rows rows.length (rd_L1 rows 0).length := validB_iff.1 h
theorem perm_of_sub : ∀ (l1 l2 : List Int), l1.Nodup → (∀ x ∈ l1, x ∈ l2) → l2.length ≤ l1.length → l1.Perm l2
 | [], l2, _, _, h => by
  have : l2 = [] := List.length_eq_zero_iff.1 (by simpa using h)
  subst this
  exact List.Perm.refl _
 | x :: l1, l2, hn, hs, hl => by
  obtain ⟨h1, h2⟩ := List.nodup_cons.1 hn
  have hx : x ∈ l2 := hs x List.mem_cons_self
  have hp := List.perm_cons_erase hx
  have hlen : (l2.erase x).length = l2.length - 1 := List.length_erase_of_mem hx
  simp only [List.length_cons] at hl
  have ih := perm_of_sub l1 (l2.erase x) h2 (fun y hy => (List.mem_erase_of_ne (fun e : y = x => h1 (by rw [← e]; exact hy))).2 (hs y (List.mem_cons_of_mem _ hy))) (by omega)
  exact (ih.cons x).trans hp.symm
def NamesP (p : List Int) (m : Nat) : Prop := p.length = m ∧ ∀ v : Nat, v < m → (v : Int) ∈ p
instance (p : List Int) (m : Nat) : Decidable (NamesP p m) := by unfold NamesP; infer_instance
def PermsP (a perms : List (List Int)) (m : Nat) : Prop := perms.length = a.length ∧ ∀ i, i < perms.length → NamesP (rd_L1 perms (i : Int)) m
instance (a perms : List (List Int)) (m : Nat) : Decidable (PermsP a perms m) := by unfold PermsP; infer_instance
end Go.Proofs.Ytjgdalhdiohclaa.Q
end
section
namespace Go.Proofs.Ytjgdalhdiohclaa.Q
open Go.RowKit Go.Proofs.YtjgdalhdiohclaaW.PrintWords Go.Proofs.YtjgdalhdiohclaaW.PrintLast Go.Proofs.YtjgdalhdiohclaaW.PrintMore
def run (f : Nat → Nat → Nat) : Nat → List Nat → Nat
 | s, [] => s
 | s, x :: w => run f (f s x) w
theorem run_app (f : Nat → Nat → Nat) : ∀ (v w : List Nat) s, run f s (v ++ w) = run f (run f s v) w
 | [], _, _ => rfl
 | _ :: v, w, s => run_app f v w _
theorem run_snoc (f : Nat → Nat → Nat) (v : List Nat) (x s : Nat) : run f s (v ++ [x]) = f (run f s v) x := run_app f v [x] s
def Wd (m : Nat) (w : List Nat) : Prop := ∀ x ∈ w, x < m
theorem Wd.nil (m : Nat) : Wd m [] := fun _ h => nomatch h
theorem Wd.app {m : Nat} {v w : List Nat} (h : Wd m v) (k : Wd m w) : Wd m (v ++ w) := fun x hx => (List.mem_append.1 hx).elim (h x) (k x)
theorem Wd.one {m x : Nat} (h : x < m) : Wd m [x] := fun y hy => by rw [List.mem_singleton.1 hy]; exact h
theorem Wd.left {m : Nat} {v w : List Nat} (h : Wd m (v ++ w)) : Wd m v := fun x hx => h x (List.mem_append.2 (Or.inl hx))
theorem Wd.right {m : Nat} {v w : List Nat} (h : Wd m (v ++ w)) : Wd m w := fun x hx => h x (List.mem_append.2 (Or.inr hx))
def Conn (f : Nat → Nat → Nat) (m s t : Nat) : Prop := ∃ w, Wd m w ∧ run f s w = t
theorem Conn.refl (f : Nat → Nat → Nat) (m s : Nat) : Conn f m s s := ⟨[], Wd.nil m, rfl⟩
theorem Conn.trans {f : Nat → Nat → Nat} {m s t u : Nat} (h : Conn f m s t) (k : Conn f m t u) : Conn f m s u := by
 obtain ⟨v, h1, rfl⟩ := h; obtain ⟨w, h2, rfl⟩ := k
 exact ⟨v ++ w, h1.app h2, run_app f v w s⟩
theorem Conn.step {f : Nat → Nat → Nat} {m s x : Nat} (h : x < m) : Conn f m s (f s x) := ⟨[x], Wd.one h, rfl⟩
theorem Conn.closed {f : Nat → Nat → Nat} {m s t : Nat} {P : Nat → Prop} (h : Conn f m s t) (hs : P s) (hc : ∀ u x, P u → x < m → P (f u x)) : P t := by
 obtain ⟨w, hw, rfl⟩ := h
 induction w generalizing s with
 | nil => exact hs
 | cons x w ih => exact ih (hc s x hs (hw x List.mem_cons_self)) fun y hy => hw y (List.mem_cons_of_mem _ hy)
theorem VA.runLt {rows : List (List Int)} {n m : Nat} (V : VA rows n m) {s : Nat} (hs : s < n) {w : List Nat} (hw : Wd m w) : run (nx rows) s w < n := by
 induction w generalizing s with
 | nil => exact hs
 | cons x w ih => exact ih (V.nxLt hs (hw x List.mem_cons_self)) fun y hy => hw y (List.mem_cons_of_mem _ hy)
theorem nodup_le : ∀ (n : Nat) (l : List Nat), l.Nodup → (∀ x ∈ l, x < n) → l.length ≤ n
 | 0, l, _, h => by
  cases l with
  | nil => exact Nat.le_refl 0
  | cons x l => exact absurd (h x List.mem_cons_self) (Nat.not_lt_zero x)
 | n + 1, l, hd, h => by
  by_cases hn : n ∈ l
  ·have h1 := nodup_le n (l.erase n) (hd.erase n) fun x hx => by
    have h2 := h x (List.mem_of_mem_erase hx)
    have h3 : x ≠ n := fun e => by subst e; exact hd.not_mem_erase hx
    omega
   rw [List.length_erase_of_mem hn] at h1; omega
  ·have := nodup_le n l hd fun x hx => by
    have h2 := h x hx
    have h3 : x ≠ n := fun e => hn (e ▸ hx)
    omega
   omega
theorem drawers {n : Nat} (f : Nat → Nat) (h : ∀ i, i ≤ n → f i < n) : ∃ i j, i < j ∧ j ≤ n ∧ f i = f j := by
 refine Classical.byContradiction fun hc => ?_
 have hd : ((List.range (n + 1)).map f).Nodup := by
  rw [List.nodup_iff_pairwise_ne, List.pairwise_map]
  refine List.Pairwise.imp_of_mem (R := fun a b => a < b) ?_ List.pairwise_lt_range
  intro a b ha hb hab e
  exact hc ⟨a, b, hab, by have := List.mem_range.1 hb; omega, e⟩
 have := nodup_le n _ hd (by
  intro x hx
  obtain ⟨i, hi, rfl⟩ := List.mem_map.1 hx
  exact h i (by have := List.mem_range.1 hi; omega))
 rw [List.length_map, List.length_range] at this; omega
theorem short_word {f : Nat → Nat → Nat} {n m : Nat} (hf : ∀ s x, s < n → x < m → f s x < n) : ∀ (d : Nat) (w : List Nat) (s : Nat), w.length ≤ d → s < n → Wd m w → ∃ v, Wd m v ∧ run f s v = run f s w ∧ v.length < n ∧ v.length ≤ w.length := by
 have rl : ∀ (w : List Nat) s, s < n → Wd m w → run f s w < n := by
  intro w
  induction w with
  | nil => intro s h _; exact h
  | cons x w ih => intro s h hw; exact ih _ (hf s x h (hw x List.mem_cons_self)) fun y hy => hw y (List.mem_cons_of_mem _ hy)
 intro d
 induction d with
 | zero => intro w s h hs hw; obtain rfl := List.eq_nil_of_length_eq_zero (by omega : w.length = 0); exact ⟨[], hw, rfl, by simp; omega, by simp⟩
 | succ d ih =>
  intro w s h hs hw
  by_cases hl : w.length < n
  ·exact ⟨w, hw, rfl, hl, Nat.le_refl _⟩
  ·have htk : ∀ i, Wd m (w.take i) := fun i x hx => hw x (List.mem_of_mem_take hx)
   have hdr : ∀ i, Wd m (w.drop i) := fun i x hx => hw x (List.mem_of_mem_drop hx)
   obtain ⟨i, j, hij, hj, e⟩ := drawers (n := n) (fun i => run f s (w.take i)) fun i _ => rl _ _ hs (htk i)
   obtain ⟨v, h1, h2, h3, h4⟩ := ih (w.take i ++ w.drop j) s (by rw [List.length_append, List.length_take, List.length_drop]; omega) hs ((htk i).app (hdr j))
   refine ⟨v, h1, h2.trans ?_, h3, by rw [List.length_append, List.length_take, List.length_drop] at h4; omega⟩
   rw [run_app, e, ← run_app, List.take_append_drop]
def Is (n : Nat) (l : List Bool) (P : Nat → Prop) : Prop := l.length = n ∧ ∀ t, t < n → (rdOf false l (t : Int) = true ↔ P t)
theorem Is.imp {n : Nat} {l : List Bool} {P P' : Nat → Prop} (h : Is n l P) (e : ∀ t, t < n → (P t ↔ P' t)) : Is n l P' := ⟨h.1, fun t ht => (h.2 t ht).trans (e t ht)⟩
theorem rdB_set {l : List Bool} {i j : Nat} {b : Bool} (hj : j < l.length) : rdOf false (l.set i b) (j : Int) = if i = j then b else rdOf false l (j : Int) := by
 rw [rdBE (by rw [List.length_set]; exact hj), rdBE hj, List.getElem_set]
theorem Is.set {n : Nat} {l : List Bool} {P : Nat → Prop} (h : Is n l P) {u : Nat} : Is n (l.set u true) (fun t => P t ∨ u = t) := by
 refine ⟨by rw [List.length_set]; exact h.1, fun t ht => ?_⟩
 rw [rdB_set (by rw [h.1]; exact ht)]
 by_cases e : u = t
 ·simp [e]
 ·simp [e, h.2 t ht]
theorem Is.none {n : Nat} : Is n (List.replicate n false) (fun _ => False) := by
 refine ⟨List.length_replicate, fun t ht => ?_⟩
 rw [rdBE (by rw [List.length_replicate]; exact ht), List.getElem_replicate]; simp
theorem Wd.tail {m x : Nat} {w : List Nat} (h : Wd m (x :: w)) : Wd m w := fun y hy => h y (List.mem_cons_of_mem _ hy)
theorem Wd.head {m x : Nat} {w : List Nat} (h : Wd m (x :: w)) : x < m := h x List.mem_cons_self
theorem Wd.cons {m x : Nat} {w : List Nat} (hx : x < m) (h : Wd m w) : Wd m (x :: w) := fun y hy => by
 rcases List.mem_cons.1 hy with rfl | h1
 ·exact hx
 ·exact h y h1
end Go.Proofs.Ytjgdalhdiohclaa.Q
end
section
namespace Go.Proofs.Ytjgdalhdiohclaa.Q
def code (m : Nat) (w : List Nat) : Nat := w.foldl (fun a x => m * a + (x + 1)) 0
theorem code_nil (m : Nat) : code m [] = 0 := rfl
theorem code_snoc (m : Nat) (w : List Nat) (x : Nat) : code m (w ++ [x]) = m * code m w + (x + 1) := by
 unfold code; rw [List.foldl_append]; rfl
theorem snoc_ind {P : List Nat → Prop} (h0 : P []) (h1 : ∀ v x, P v → P (v ++ [x])) (w : List Nat) : P w := by
 have : ∀ n (w : List Nat), w.length = n → P w := by
  intro n
  induction n with
  | zero => intro w h; rw [List.eq_nil_of_length_eq_zero h]; exact h0
  | succ n ih =>
   intro w h
   have hne : w ≠ [] := fun e => by subst e; simp at h
   rw [← List.dropLast_concat_getLast hne]
   exact h1 _ _ (ih _ (by rw [List.length_dropLast]; omega))
 exact this _ w rfl
def lo (m : Nat) : Nat → Nat
 | 0 => 0
 | k + 1 => m * lo m k + 1
theorem lo_pow (m : Nat) : ∀ k, lo m (k + 1) = lo m k + m ^ k
 | 0 => by simp [lo]
 | k + 1 => by
  have := lo_pow m k
  show m * lo m (k + 1) + 1 = (m * lo m k + 1) + m ^ (k + 1)
  rw [this, Nat.mul_add, Nat.pow_succ, Nat.mul_comm m (m ^ k)]; omega
theorem code_lo {m : Nat} (w : List Nat) (h : Wd m w) : lo m w.length ≤ code m w ∧ code m w + 1 ≤ lo m (w.length + 1) := by
 induction w using snoc_ind with
 | h0 => simp [lo, code_nil]
 | h1 w x ih =>
  obtain ⟨h1, h2⟩ := ih h.left
  have hx := h.right x (by simp)
  rw [code_snoc, List.length_append, List.length_singleton]
  have a := Nat.mul_le_mul_left m h1; have b := Nat.mul_le_mul_left m h2
  rw [Nat.mul_add] at b
  show m * lo m w.length + 1 ≤ _ ∧ _ ≤ m * lo m (w.length + 1) + 1
  omega
theorem lo_mono {m : Nat} (hm : 0 < m) {j k : Nat} (h : j ≤ k) : lo m j ≤ lo m k := by
 induction k with
 | zero => rw [Nat.le_zero.1 h]; exact Nat.le_refl _
 | succ k ih =>
  rcases Nat.lt_or_ge k j with h1 | h1
  ·rw [Nat.le_antisymm h h1]; exact Nat.le_refl _
  ·have := ih h1; rw [lo_pow]; omega
theorem code_len {m : Nat} (hm : 0 < m) {v w : List Nat} (hv : Wd m v) (hw : Wd m w) (h : v.length < w.length) : code m v < code m w := by
 have := code_lo v hv; have := code_lo w hw; have := lo_mono hm (j := v.length + 1) (k := w.length) h; omega
theorem code_cons (m x : Nat) (w : List Nat) : code m (x :: w) = (x + 1) * m ^ w.length + code m w := by
 induction w using snoc_ind with
 | h0 => simp [code]
 | h1 w y ih =>
  rw [← List.cons_append, code_snoc, ih, code_snoc, List.length_append, List.length_singleton, Nat.pow_succ, Nat.mul_add, Nat.mul_left_comm, Nat.mul_comm m (m ^ w.length)]; omega
theorem code_head {m x y : Nat} {v w : List Nat} (hv : Wd m v) (hw : Wd m w) (h : v.length = w.length) (hxy : x < y) : code m (x :: v) < code m (y :: w) := by
 have h1 := code_lo v hv; have h2 := code_lo w hw
 rw [code_cons, code_cons, h]
 rw [h, lo_pow] at h1
 have := Nat.mul_le_mul_right (m ^ w.length) (Nat.succ_le_of_lt hxy)
 rw [Nat.succ_eq_add_one, Nat.add_mul] at this
 rw [Nat.add_mul, Nat.add_mul]; omega
structure Least (f : Nat → Nat → Nat) (m s t : Nat) (w : List Nat) : Prop where
 wd : Wd m w
 ends : run f s w = t
 le : ∀ v, Wd m v → run f s v = t → code m w ≤ code m v
def toI (w : List Nat) : List Int := w.map fun (x : Nat) => (x : Int)
theorem toI_snoc (w : List Nat) (x : Nat) : toI (w ++ [x]) = toI w ++ [(x : Int)] := by simp [toI]
theorem toI_len (w : List Nat) : (toI w).length = w.length := by simp [toI]
end Go.Proofs.Ytjgdalhdiohclaa.Q
end
section
namespace Go.Proofs.Ytjgdalhdiohclaa.Q
def MDist (f : Nat → Nat → Nat) (m p q d : Nat) : Prop := (∃ w, Wd m w ∧ w.length = d ∧ run f p w = run f q w) ∧ ∀ w, Wd m w → run f p w = run f q w → d ≤ w.length
def Mg (f : Nat → Nat → Nat) (m p q : Nat) : Prop := ∃ w, Wd m w ∧ run f p w = run f q w
section
variable {f : Nat → Nat → Nat} {m n p q d e x : Nat}
theorem MDist.uniq (h : MDist f m p q d) (k : MDist f m p q e) : d = e := by
 obtain ⟨⟨v, h1, h2, h3⟩, h4⟩ := h; obtain ⟨⟨w, k1, k2, k3⟩, k4⟩ := k
 have := h4 w k1 k3; have := k4 v h1 h3; omega
theorem MDist.mg (h : MDist f m p q d) : Mg f m p q := by obtain ⟨⟨v, h1, h2, h3⟩, h4⟩ := h; exact ⟨v, h1, h3⟩
theorem MDist.symm (h : MDist f m p q d) : MDist f m q p d := by
 obtain ⟨⟨v, h1, h2, h3⟩, h4⟩ := h
 exact ⟨⟨v, h1, h2, h3.symm⟩, fun w hw hr => h4 w hw hr.symm⟩
theorem MDist.zero (f : Nat → Nat → Nat) (m p : Nat) : MDist f m p p 0 := ⟨⟨[], Wd.nil m, rfl, rfl⟩, fun _ _ _ => Nat.zero_le _⟩
theorem MDist.eq0 (h : MDist f m p q 0) : p = q := by
 obtain ⟨⟨v, h1, h2, h3⟩, h4⟩ := h
 rw [List.eq_nil_of_length_eq_zero h2] at h3; exact h3
theorem Mg.dist (h : Mg f m p q) : ∃ d, MDist f m p q d := by
 obtain ⟨w, h1, h2⟩ := h
 have key : ∀ k : Nat, (∃ w, Wd m w ∧ w.length ≤ k ∧ run f p w = run f q w) → ∃ d, MDist f m p q d := by
  intro k
  induction k with
  | zero => rintro ⟨w, a, b, c⟩; exact ⟨0, ⟨w, a, by omega, c⟩, fun _ _ _ => Nat.zero_le _⟩
  | succ k ih =>
   rintro ⟨w, a, b, c⟩
   by_cases hk : ∃ w, Wd m w ∧ w.length ≤ k ∧ run f p w = run f q w
   ·exact ih hk
   ·refine ⟨k + 1, ⟨w, a, ?_, c⟩, fun v hv hr => ?_⟩
    ·rcases Nat.lt_or_ge w.length (k + 1) with h | h
     ·exact absurd ⟨w, a, by omega, c⟩ hk
     ·omega
    ·rcases Nat.lt_or_ge v.length (k + 1) with h | h
     ·exact absurd ⟨v, hv, by omega, hr⟩ hk
     ·omega
 exact key w.length ⟨w, h1, Nat.le_refl _, h2⟩
theorem MDist.pred (h : MDist f m p q (d + 1)) : p ≠ q ∧ (∃ x, x < m ∧ MDist f m (f p x) (f q x) d) ∧ ∀ x e, x < m → MDist f m (f p x) (f q x) e → d ≤ e := by
 obtain ⟨⟨v, h1, h2, h3⟩, h4⟩ := h
 have low : ∀ x e, x < m → MDist f m (f p x) (f q x) e → d ≤ e := by
  rintro x e hx ⟨⟨w, k1, k2, k3⟩, _⟩
  have := h4 (x :: w) (Wd.cons hx k1) k3
  simp at this; omega
 refine ⟨?_, ?_, low⟩
 ·rintro rfl; have := h4 [] (Wd.nil m) rfl; simp at this
 ·cases v with
  | nil => simp at h2
  | cons y v =>
   refine ⟨y, h1.head, ⟨v, h1.tail, by simpa using h2, h3⟩, fun w hw hr => ?_⟩
   have := h4 (y :: w) (Wd.cons h1.head hw) hr
   simp at this; omega
theorem MDist.succ (hpq : p ≠ q) (hx : x < m) (h : MDist f m (f p x) (f q x) d) (hl : ∀ y e, y < m → MDist f m (f p y) (f q y) e → d ≤ e) : MDist f m p q (d + 1) := by
 obtain ⟨⟨v, h1, h2, h3⟩, h4⟩ := h
 refine ⟨⟨x :: v, Wd.cons hx h1, by simp [h2], h3⟩, fun w hw hr => ?_⟩
 cases w with
 | nil => exact absurd hr hpq
 | cons y w =>
  obtain ⟨e, he⟩ := Mg.dist ⟨w, hw.tail, hr⟩
  have h5 := hl y e hw.head he
  have h6 := he.2 w hw.tail hr
  simp; omega
theorem pair_run (hn : 0 < n) (hf : ∀ s x, s < n → x < m → f s x < n) : ∀ (w : List Nat) (p q : Nat), p < n → q < n → Wd m w → run (fun s x => f (s / n) x * n + f (s % n) x) (p * n + q) w = run f p w * n + run f q w
 | [], _, _, _, _, _ => rfl
 | x :: w, p, q, hp, hq, hw => by
  have e1 : (p * n + q) / n = p := by rw [Nat.add_comm, Nat.add_mul_div_right _ _ hn, Nat.div_eq_of_lt hq, Nat.zero_add]
  have e2 : (p * n + q) % n = q := by rw [Nat.add_comm, Nat.add_mul_mod_self_right, Nat.mod_eq_of_lt hq]
  simp only [run, e1, e2]
  exact pair_run hn hf w _ _ (hf p x hp hw.head) (hf q x hq hw.head) hw.tail
theorem pair_lt {a b : Nat} (ha : a < n) (hb : b < n) : a * n + b < n * n := by
 have := Nat.mul_le_mul_right n (Nat.succ_le_of_lt ha)
 rw [Nat.succ_mul] at this; omega
theorem pair_eq {a b c d : Nat} (hb : b < n) (hd : d < n) (h : a * n + b = c * n + d) : a = c ∧ b = d := by
 have hn : 0 < n := by omega
 have e1 : (a * n + b) / n = a := by rw [Nat.add_comm, Nat.add_mul_div_right _ _ hn, Nat.div_eq_of_lt hb, Nat.zero_add]
 have e2 : (c * n + d) / n = c := by rw [Nat.add_comm, Nat.add_mul_div_right _ _ hn, Nat.div_eq_of_lt hd, Nat.zero_add]
 rw [h, e2] at e1
 refine ⟨e1.symm, ?_⟩
 subst e1; omega
theorem runLt (hf : ∀ s x, s < n → x < m → f s x < n) : ∀ (w : List Nat) (s : Nat), s < n → Wd m w → run f s w < n
 | [], _, hs, _ => hs
 | x :: w, s, hs, hw => runLt hf w _ (hf s x hs hw.head) hw.tail
theorem MDist.lt (hf : ∀ s x, s < n → x < m → f s x < n) (hp : p < n) (hq : q < n) (h : MDist f m p q d) : d < n * n := by
 obtain ⟨⟨v, h1, h2, h3⟩, h4⟩ := h
 have hn : 0 < n := by omega
 obtain ⟨z, z1, z2, z3, z4⟩ := short_word (f := fun s x => f (s / n) x * n + f (s % n) x) (n := n * n) (m := m) (fun s x hs hx => by
  have e1 : s / n < n := Nat.div_lt_of_lt_mul hs
  have e2 : s % n < n := Nat.mod_lt _ hn
  exact pair_lt (hf _ x e1 hx) (hf _ x e2 hx)) _ v (p * n + q) (Nat.le_refl _) (pair_lt hp hq) h1
 rw [pair_run hn hf z p q hp hq z1, pair_run hn hf v p q hp hq h1] at z2
 obtain ⟨e1, e2⟩ := pair_eq (runLt hf z q hq z1) (runLt hf v q hq h1) z2
 have := h4 z z1 (by rw [e1, e2, h3])
 omega
end
structure LM (f : Nat → Nat → Nat) (m p q : Nat) (w : List Nat) : Prop where
 wd : Wd m w
 ends : run f p w = run f q w
 le : ∀ v, Wd m v → run f p v = run f q v → code m w ≤ code m v
section
variable {f : Nat → Nat → Nat} {m n p q d x : Nat} {v w : List Nat}
theorem LM.symm (h : LM f m p q w) : LM f m q p w := ⟨h.wd, h.ends.symm, fun v hv hr => h.le v hv hr.symm⟩
theorem LM.refl (f : Nat → Nat → Nat) (m p : Nat) : LM f m p p [] := ⟨Wd.nil m, rfl, fun v _ _ => Nat.zero_le _⟩
theorem LM.cons (hm : 0 < m) (hd : MDist f m p q (d + 1)) (hx : x < m) (hl : ∀ y, y < x → ¬ MDist f m (f p y) (f q y) d) (h : LM f m (f p x) (f q x) w) (hw : w.length = d) : LM f m p q (x :: w) := by
 obtain ⟨hne, _, hlow⟩ := hd.pred
 refine ⟨Wd.cons hx h.wd, h.ends, fun v hv hr => ?_⟩
 cases v with
 | nil => exact absurd hr hne
 | cons y v =>
  have hlen := hd.2 (y :: v) hv hr
  simp only [List.length_cons] at hlen
  rcases Nat.lt_or_ge (x :: w).length (y :: v).length with h1 | h1
  ·exact Nat.le_of_lt (code_len hm (Wd.cons hx h.wd) hv h1)
  ·simp only [List.length_cons] at h1
   have hvl : v.length = w.length := by omega
   have hyx : ¬ y < x := fun hlt => by
    refine hl y hlt ⟨⟨v, hv.tail, by omega, hr⟩, fun u hu hur => ?_⟩
    have := hd.2 (y :: u) (Wd.cons hv.head hu) hur
    simp at this; omega
   rcases Nat.lt_or_ge x y with h2 | h2
   ·exact Nat.le_of_lt (code_head h.wd hv.tail (by omega) h2)
   ·obtain rfl : x = y := by omega
    rw [code_cons, code_cons, hvl]
    have := h.le v hv.tail hr
    omega
theorem LM.dist (hm : 0 < m) (h : LM f m p q w) : MDist f m p q w.length := by
 refine ⟨⟨w, h.wd, rfl, h.ends⟩, fun v hv hr => ?_⟩
 rcases Nat.lt_or_ge v.length w.length with h1 | h1
 ·have := code_len hm hv h.wd h1; have := h.le v hv hr; omega
 ·exact h1
end
end Go.Proofs.Ytjgdalhdiohclaa.Q
end
section
namespace Go.Proofs.Ytjgdalhdiohclaa.Q
open Go.RowKit Go.Proofs.YtjgdalhdiohclaaW.PrintWords Go.Proofs.YtjgdalhdiohclaaW.PrintLast Go.Proofs.YtjgdalhdiohclaaW.PrintMore
def TT (tab : List (List Int)) (p q : Nat) : Int := rd (rd_L1 tab (p : Int)) (q : Int)
structure Shape (tab : List (List Int)) (n : Nat) : Prop where
 len : tab.length = n
 row : ∀ p, p < n → (rd_L1 tab (p : Int)).length = n
def Ent (f : Nat → Nat → Nat) (m : Nat) (tab : List (List Int)) (kk p q : Nat) : Prop := (∃ d : Nat, d < kk ∧ TT tab p q = (d : Int) ∧ MDist f m p q d) ∨ (TT tab p q = -1 ∧ ∀ d, d < kk → ¬ MDist f m p q d)
def bef (p q p0 q0 : Nat) : Prop := p < p0 ∨ p = p0 ∧ q < q0
instance (p q p0 q0 : Nat) : Decidable (bef p q p0 q0) := inferInstanceAs (Decidable (_ ∨ _))
structure InPass (f : Nat → Nat → Nat) (m n : Nat) (tab : List (List Int)) (kk p0 q0 : Nat) (more : Bool) : Prop where
 shape : Shape tab n
 ent : ∀ p q, p < n → q < n → Ent f m tab (if bef p q p0 q0 then kk + 1 else kk) p q
 more : more = true ↔ ∃ p q, p < n ∧ q < n ∧ bef p q p0 q0 ∧ MDist f m p q kk
section
variable {rows : List (List Int)} {n m : Nat} (V : VA rows n m)
include V
end
end Go.Proofs.Ytjgdalhdiohclaa.Q
end
section
namespace Go.Proofs.Ytjgdalhdiohclaa.Q
def compl (n : Nat) : List Nat → List Nat
 | [] => List.range n
 | s :: S => (compl n S).erase s
theorem compl_nodup (n : Nat) : ∀ S, (compl n S).Nodup
 | [] => List.nodup_range
 | s :: S => (compl_nodup n S).erase s
theorem compl_mem {n x : Nat} : ∀ {S : List Nat}, x ∈ compl n S ↔ x < n ∧ x ∉ S
 | [] => by simp [compl]
 | s :: S => by
  unfold compl
  rw [(compl_nodup n S).mem_erase_iff, compl_mem, List.mem_cons]
  constructor
  ·rintro ⟨h1, h2, h3⟩; exact ⟨h2, fun h => h.elim h1 h3⟩
  ·rintro ⟨h1, h2⟩; exact ⟨fun h => h2 (Or.inl h), h1, fun h => h2 (Or.inr h)⟩
theorem compl_len {n : Nat} : ∀ {S : List Nat}, S.Nodup → (∀ x ∈ S, x < n) → (compl n S).length + S.length = n
 | [], _, _ => by simp [compl]
 | s :: S, hn, hl => by
  rw [List.nodup_cons] at hn
  have ih := compl_len hn.2 fun x hx => hl x (List.mem_cons_of_mem _ hx)
  have hm : s ∈ compl n S := compl_mem.2 ⟨hl s List.mem_cons_self, hn.1⟩
  have hpos := List.length_pos_of_mem hm
  unfold compl
  rw [List.length_erase_of_mem hm, List.length_cons]; omega
theorem Wd.take {m : Nat} {w : List Nat} (h : Wd m w) (i : Nat) : Wd m (w.take i) := fun x hx => h x (List.mem_of_mem_take hx)
theorem Wd.drop {m : Nat} {w : List Nat} (h : Wd m w) (i : Nat) : Wd m (w.drop i) := fun x hx => h x (List.mem_of_mem_drop hx)
theorem near_bound {f : Nat → Nat → Nat} {m n : Nat} (hf : ∀ s x, s < n → x < m → f s x < n) {Q : List Nat} (hQ : Q.Nodup) (hlt : ∀ x ∈ Q, x < n) {p q d : Nat} (hp : p ∈ Q) (hq : q ∈ Q) (hd : MDist f m p q d)
  (hmin : ∀ a ∈ Q, ∀ b ∈ Q, a ≠ b → ∀ e, MDist f m a b e → d ≤ e) : 2 * d ≤ (n - Q.length + 1) * (n - Q.length + 2) := by
 obtain ⟨⟨w, hw, hwl, hwe⟩, hlow⟩ := hd
 have short : ∀ a ∈ Q, ∀ b ∈ Q, a ≠ b → ∀ v, Wd m v → run f a v = run f b v → d ≤ v.length := fun a ha b hb hab v hv hr => by
  obtain ⟨e, he⟩ := Mg.dist ⟨v, hv, hr⟩
  have h1 := hmin a ha b hb hab e he
  have h2 := he.2 v hv hr
  omega
 have hS : ∀ i, i < d → (Q.map fun s => run f s (w.take i)).Nodup := by
  intro i hi
  rw [List.nodup_iff_pairwise_ne, List.pairwise_map]
  refine List.Pairwise.imp_of_mem ?_ (List.nodup_iff_pairwise_ne.1 hQ)
  intro a b ha hb hab he
  have := short a ha b hb hab _ (hw.take i) he
  rw [List.length_take] at this; omega
 have hSl : ∀ i, ∀ x ∈ Q.map (fun s => run f s (w.take i)), x < n := by
  intro i x hx
  obtain ⟨s, hs, rfl⟩ := List.mem_map.1 hx
  exact runLt hf _ s (hlt s hs) (hw.take i)
 refine skew (L := d) (r := n - Q.length) (fun i => (compl n (Q.map fun s => run f s (w.take i))).map fun (x : Nat) => (x : Int)) (fun i => ((run f p (w.take i) : Nat) : Int)) (fun i => ((run f q (w.take i) : Nat) : Int)) ?_ ?_ ?_
 ·intro i hi
  have := compl_len (hS i hi) (hSl i)
  rw [List.length_map] at this ⊢; omega
 ·intro i hi
  have key : ∀ s ∈ Q, ((run f s (w.take i) : Nat) : Int) ∉ (compl n (Q.map fun s => run f s (w.take i))).map fun (x : Nat) => (x : Int) := by
   intro s hs hm
   obtain ⟨x, hx, he⟩ := List.mem_map.1 hm
   have e : x = run f s (w.take i) := by omega
   subst e
   exact (compl_mem.1 hx).2 (List.mem_map.2 ⟨s, hs, rfl⟩)
  exact ⟨key p hp, key q hq⟩
 ·intro i j hi hj
  apply Classical.byContradiction
  intro hn
  rw [not_or] at hn
  have get : ∀ s ∈ Q, ((run f s (w.take i) : Nat) : Int) ∉ (compl n (Q.map fun s => run f s (w.take j))).map (fun (x : Nat) => (x : Int)) → ∃ t ∈ Q, run f t (w.take j) = run f s (w.take i) := by
   intro s hs hm
   have h1 : run f s (w.take i) < n := runLt hf _ s (hlt s hs) (hw.take i)
   have h2 : run f s (w.take i) ∉ compl n (Q.map fun s => run f s (w.take j)) := fun h => hm (List.mem_map.2 ⟨_, h, rfl⟩)
   have h3 : run f s (w.take i) ∈ Q.map fun s => run f s (w.take j) := by
    apply Classical.byContradiction
    intro h; exact h2 (compl_mem.2 ⟨h1, h⟩)
   obtain ⟨t, ht, he⟩ := List.mem_map.1 h3
   exact ⟨t, ht, he⟩
  obtain ⟨s, hs, hse⟩ := get p hp hn.1
  obtain ⟨t, ht, hte⟩ := get q hq hn.2
  have hne : run f p (w.take i) ≠ run f q (w.take i) := fun h => by
   have := hlow _ (hw.take i) h
   rw [List.length_take] at this; omega
  have hst : s ≠ t := fun h => by subst h; exact hne (hse.symm.trans hte)
  have hend : ∀ s0, run f (run f s0 (w.take i)) (w.drop i) = run f s0 w := fun s0 => by
   rw [← run_app, List.take_append_drop]
  have := short s hs t ht hst (w.take j ++ w.drop i) ((hw.take j).app (hw.drop i)) (by rw [run_app, run_app, hse, hte, hend, hend, hwe])
  rw [List.length_append, List.length_take, List.length_drop] at this
  omega
end Go.Proofs.Ytjgdalhdiohclaa.Q
end
section
namespace Go.Proofs.Ytjgdalhdiohclaa.Q
open Go.RowKit Go.Proofs.YtjgdalhdiohclaaW.PrintWords Go.Proofs.YtjgdalhdiohclaaW.PrintLast Go.Proofs.YtjgdalhdiohclaaW.PrintMore
theorem toI_rd {w : List Nat} {i : Nat} (h : i < w.length) : rd (toI w) (i : Int) = ((w[i] : Nat) : Int) := by
 rw [rdE (by rw [toI_len]; exact h)]; simp [toI]
theorem auto_lead {rows : List (List Int)} {n m s : Nat} (V : VA rows n m) (hs : s < n) {w : List Nat} (hw : Wd m w) (hl : w.length ≤ 1000000) : Ev (fun k => auto_Lead.f k rows (s : Int) (toI w)) ((run (nx rows) s w : Nat) : Int) := by
 have hlen := V.len
 have key : ∀ (d i u : Nat), i + d = w.length → u < n → Ev (fun k => auto_Lead.l0 k (u : Int) (toI w) (w.length : Int) (i : Int) rows) ((run (nx rows) u (w.drop i) : Nat) : Int) := by
  intro d
  induction d with
  | zero =>
   intro i u hi hu
   refine Ev.next ?_
   simp only [auto_Lead.l0, if_neg (by omega : ¬ (i : Int) < (w.length : Int))]
   rw [List.drop_eq_nil_of_le (by omega)]
   exact Ev.now _
  | succ d ih =>
   intro i u hi hu
   have hil : i < w.length := by omega
   have hx := hw w[i] (List.getElem_mem hil)
   have hrow := V.row u hu
   refine Ev.next ?_
   simp only [auto_Lead.l0, if_pos (by omega : (i : Int) < (w.length : Int)), if_pos (by omega : (0 : Int) ≤ (i : Int)), toI_len, if_pos (by omega : (0 : Int) ≤ (u : Int)), if_pos (by omega : (u : Int) < (rows.length : Int)), toI_rd hil, if_pos (by omega : (0 : Int) ≤ ((w[i] : Nat) : Int)), if_pos (by omega : ((w[i] : Nat) : Int) < ((rd_L1 rows (u : Int)).length : Int)), V.nxE hu hx, wrapS (by omega : i + 1 ≤ 9223372036854775807)]
   rw [List.drop_eq_getElem_cons hil]
   exact ih (i + 1) _ (by omega) (V.nxLt hu hx)
 unfold auto_Lead.f
 rw [toI_len]
 exact key w.length 0 s (by omega) hs
end Go.Proofs.Ytjgdalhdiohclaa.Q
end
section
namespace Go.Proofs.Ytjgdalhdiohclaa.RoadZ
open Classical
def it {σ : Type} (f : σ → σ) : Nat → σ → σ
 | 0, s => s
 | k + 1, s => it f k (f s)
section
variable {σ : Type} {f g : σ → σ}
theorem it_add (f : σ → σ) : ∀ (i j : Nat) (s : σ), it f (i + j) s = it f j (it f i s)
 | 0, j, s => by simp [it]
 | i + 1, j, s => by
  have := it_add f i j (f s)
  rw [show i + 1 + j = (i + j) + 1 by omega]
  exact this
theorem it_succ (f : σ → σ) (k : Nat) (s : σ) : it f (k + 1) s = f (it f k s) := it_add f k 1 s
theorem least {P : Nat → Prop} (h : ∃ n, P n) : ∃ n, P n ∧ ∀ m, m < n → ¬ P m := by
 obtain ⟨n, hn⟩ := h
 induction n using Nat.strongRecOn with
 | ind n ih =>
  by_cases h : ∃ m, m < n ∧ P m
  ·obtain ⟨m, hm, hp⟩ := h; exact ih m hm hp
  ·exact ⟨n, hn, fun m hm hp => h ⟨m, hm, hp⟩⟩
def Cyc (f : σ → σ) (s : σ) : Prop := ∃ i, it f (i + 1) s = s
theorem Cyc.next {s : σ} (h : Cyc f s) : Cyc f (f s) := by
 obtain ⟨i, hi⟩ := h
 refine ⟨i, ?_⟩
 have : it f (i + 1) (f s) = f (it f (i + 1) s) := (it_succ f (i + 1) s)
 rw [this, hi]
theorem Cyc.it {s : σ} (h : Cyc f s) : ∀ i, Cyc f (it f i s)
 | 0 => h
 | i + 1 => by rw [it_succ]; exact (Cyc.it h i).next
theorem Cyc.mul {s : σ} {p : Nat} (h : RoadZ.it f p s = s) : ∀ k, RoadZ.it f (k * p) s = s
 | 0 => by simp [RoadZ.it]
 | k + 1 => by rw [show (k + 1) * p = p + k * p by rw [Nat.succ_mul, Nat.add_comm], it_add, h]; exact Cyc.mul h k
def Lv (f : σ → σ) (s : σ) (j : Nat) : Prop := Cyc f (it f j s) ∧ ∀ i, i < j → ¬ Cyc f (it f i s)
theorem Cyc.later {s : σ} {i j : Nat} (h : Cyc f (RoadZ.it f i s)) (hij : i ≤ j) : Cyc f (RoadZ.it f j s) := by
 rw [show j = i + (j - i) by omega, it_add]; exact h.it _
theorem Lv.uniq {s : σ} {i j : Nat} (h : Lv f s i) (h' : Lv f s j) : i = j := by
 rcases Nat.lt_trichotomy i j with hl | hl | hl
 ·exact absurd h.1 (h'.2 i hl)
 ·exact hl
 ·exact absurd h'.1 (h.2 j hl)
theorem Lv.shift {s u : σ} {t j : Nat} (hu : RoadZ.it f t s = u) (hn : ¬ Cyc f u ∨ t = 0) (h : Lv f u j) : Lv f s (t + j) := by
 subst hu
 refine ⟨by rw [it_add]; exact h.1, fun i hi hc => ?_⟩
 rcases hn with hn | rfl
 ·by_cases hit : i ≤ t
  ·exact hn (hc.later hit)
  ·rw [show i = t + (i - t) by omega, it_add] at hc
   exact h.2 _ (by omega) hc
 ·rw [show i = 0 + i by omega, it_add] at hc
  exact h.2 i (by omega) hc
theorem Lv.tail {s : σ} {t j : Nat} (h : Lv f s (t + j)) : Lv f (RoadZ.it f t s) j :=
 ⟨by rw [← it_add]; exact h.1, fun i hi hc => h.2 (t + i) (by omega) (by rw [it_add]; exact hc)⟩
theorem nodup_sub : ∀ (l1 l2 : List σ), l1.Nodup → (∀ x ∈ l1, x ∈ l2) → l1.length ≤ l2.length
 | [], l2, _, _ => Nat.zero_le _
 | x :: l1, l2, hn, hs => by
  obtain ⟨h1, h2⟩ := List.nodup_cons.1 hn
  have hx : x ∈ l2 := hs x List.mem_cons_self
  have hlen : (l2.erase x).length = l2.length - 1 := List.length_erase_of_mem hx
  have := nodup_sub l1 (l2.erase x) h2 (fun y hy => (List.mem_erase_of_ne (fun e : y = x => h1 (by rw [← e]; exact hy))).2 (hs y (List.mem_cons_of_mem _ hy)))
  have := List.length_pos_of_mem hx
  simp only [List.length_cons]; omega
theorem pigeon (l : List σ) (hl : ∀ s, s ∈ l) (h : Nat → σ) : ∃ i j, i < j ∧ j ≤ l.length ∧ h i = h j := by
 apply Classical.byContradiction
 intro hne
 have hnd : ((List.range (l.length + 1)).map h).Nodup := by
  rw [List.nodup_iff_pairwise_ne, List.pairwise_map]
  have hr : (List.range (l.length + 1)).Pairwise (· < ·) := List.pairwise_lt_range
  refine List.Pairwise.imp_of_mem ?_ hr
  intro a b ha hb hab he
  exact hne ⟨a, b, hab, by have := List.mem_range.1 hb; omega, he⟩
 have := nodup_sub _ l hnd (fun x _ => hl x)
 simp at this
 omega
theorem Lv.exists (l : List σ) (hl : ∀ s, s ∈ l) (f : σ → σ) (s : σ) : ∃ j, Lv f s j := by
 obtain ⟨i, j, hij, _, he⟩ := pigeon l hl (fun i => RoadZ.it f i s)
 have : ∃ n, Cyc f (RoadZ.it f n s) := ⟨i, j - i - 1, by
  rw [← it_add, show i + (j - i - 1 + 1) = j by omega]; exact he.symm⟩
 obtain ⟨n, h1, h2⟩ := least this
 exact ⟨n, h1, h2⟩
def Uniq (f : σ → σ) : Prop := ∃ L r, 1 ≤ L ∧ (∃ p, Lv f p L) ∧ (∀ s j, Lv f s j → j ≤ L) ∧ ∀ s, Lv f s L → it f L s = r
theorem max_of (P : σ → Nat → Prop) (hu : ∀ s i j, P s i → P s j → i = j) : ∀ (l : List σ), (∃ s ∈ l, ∃ j, P s j) → ∃ s ∈ l, ∃ L, P s L ∧ ∀ t ∈ l, ∀ j, P t j → j ≤ L
 | [], h => by obtain ⟨s, hs, _⟩ := h; cases hs
 | x :: l, h => by
  by_cases hl : ∃ s ∈ l, ∃ j, P s j
  ·obtain ⟨s, hs, L, h1, h2⟩ := max_of P hu l hl
   by_cases hx : ∃ j, P x j ∧ L < j
   ·obtain ⟨j, hj, hlt⟩ := hx
    refine ⟨x, List.mem_cons_self, j, hj, fun t ht i hi => ?_⟩
    rcases List.mem_cons.1 ht with rfl | ht
    ·exact Nat.le_of_eq (hu _ _ _ hi hj)
    ·have := h2 t ht i hi; omega
   ·refine ⟨s, List.mem_cons_of_mem _ hs, L, h1, fun t ht i hi => ?_⟩
    rcases List.mem_cons.1 ht with rfl | ht
    ·rcases Nat.lt_or_ge L i with h | h
     ·exact absurd ⟨i, hi, h⟩ hx
     ·exact h
    ·exact h2 t ht i hi
  ·obtain ⟨s, hs, j, hj⟩ := h
   rcases List.mem_cons.1 hs with rfl | hs
   ·refine ⟨s, List.mem_cons_self, j, hj, fun t ht i hi => ?_⟩
    rcases List.mem_cons.1 ht with rfl | ht
    ·exact Nat.le_of_eq (hu _ _ _ hi hj)
    ·exact absurd ⟨t, ht, i, hi⟩ hl
   ·exact absurd ⟨s, hs, j, hj⟩ hl
theorem Uniq.of (l : List σ) (hl : ∀ s, s ∈ l) {L : Nat} {r : σ} (h : ∃ p j, Lv f p j ∧ L < j) (hr : ∀ s j, Lv f s j → L < j → RoadZ.it f j s = r) : Uniq f := by
 obtain ⟨p, j, hp, hj⟩ := h
 obtain ⟨s, _, M, h1, h2⟩ := max_of (Lv f) (fun s i j => Lv.uniq) l ⟨p, hl p, j, hp⟩
 have hM : j ≤ M := h2 p (hl p) j hp
 exact ⟨M, r, by omega, ⟨s, h1⟩, fun t i hi => h2 t (hl t) i hi, fun t ht => hr t M ht (by omega)⟩
noncomputable def upd (f : σ → σ) (u p : σ) : σ → σ := fun s => if s = u then p else f s
theorem upd_at (f : σ → σ) (u p : σ) : upd f u p u = p := if_pos rfl
theorem upd_ne {u p s : σ} (h : s ≠ u) : upd f u p s = f s := if_neg h
theorem upd_it {u p : σ} : ∀ (k : Nat) (s : σ), (∀ i, i < k → RoadZ.it f i s ≠ u) → RoadZ.it (upd f u p) k s = RoadZ.it f k s
 | 0, s, _ => rfl
 | k + 1, s, h => by
  have h0 : s ≠ u := h 0 (by omega)
  show RoadZ.it (upd f u p) k (upd f u p s) = RoadZ.it f k (f s)
  rw [upd_ne h0]
  exact upd_it k (f s) fun i hi => h (i + 1) (by omega)
theorem cyc_off {u p s : σ} (h : ∀ i, RoadZ.it f i s ≠ u) : Cyc (upd f u p) s ↔ Cyc f s := by
 unfold Cyc
 constructor <;> rintro ⟨i, hi⟩ <;> refine ⟨i, ?_⟩
 ·rw [← upd_it (u := u) (p := p) (i + 1) s fun j _ => h j]; exact hi
 ·rw [upd_it (i + 1) s fun j _ => h j]; exact hi
theorem lv_off {u p s : σ} (h : ∀ i, RoadZ.it f i s ≠ u) (j : Nat) : Lv (upd f u p) s j ↔ Lv f s j := by
 have key : ∀ i, Cyc (upd f u p) (RoadZ.it (upd f u p) i s) ↔ Cyc f (RoadZ.it f i s) := fun i => by
  rw [upd_it i s fun j _ => h j]
  exact cyc_off fun k => by rw [← it_add]; exact h _
 unfold Lv
 rw [key]
 exact ⟨fun ⟨h1, h2⟩ => ⟨h1, fun i hi hc => h2 i hi ((key i).2 hc)⟩, fun ⟨h1, h2⟩ => ⟨h1, fun i hi hc => h2 i hi ((key i).1 hc)⟩⟩
theorem first_at {u s : σ} (h : ∃ i, RoadZ.it f i s = u) : ∃ t, RoadZ.it f t s = u ∧ ∀ i, i < t → RoadZ.it f i s ≠ u := least h
theorem lv_turned {u p : σ} {L : Nat} (hp : Lv f p L) (ho : ∀ i, RoadZ.it f i p ≠ u) : Lv (upd f u p) u (L + 1) := by
 have hit : ∀ i, RoadZ.it (upd f u p) (i + 1) u = RoadZ.it f i p := fun i => by
  show RoadZ.it (upd f u p) i (upd f u p u) = _
  rw [upd_at]; exact upd_it i p fun j _ => ho j
 have hL := (lv_off (u := u) (p := p) ho L).2 hp
 have hn : ¬ Cyc (upd f u p) u := by rintro ⟨i, hi⟩; rw [hit] at hi; exact ho i hi
 refine ⟨?_, fun i hi => ?_⟩
 ·rw [hit, ← upd_it (u := u) (p := p) L p fun j _ => ho j]; exact hL.1
 ·cases i with
  | zero => exact hn
  | succ i => rw [hit, ← upd_it (u := u) (p := p) i p fun j _ => ho j]; exact hL.2 i (by omega)
theorem turn_levels {u p : σ} {L : Nat} (hp : Lv f p L) (ho : ∀ i, RoadZ.it f i p ≠ u) {s : σ} {t : Nat} (ht : RoadZ.it f t s = u) (hf : ∀ i, i < t → RoadZ.it f i s ≠ u) :
  Lv (upd f u p) s (t + (L + 1)) ∧ RoadZ.it (upd f u p) (t + (L + 1)) s = RoadZ.it f L p := by
 have h1 : RoadZ.it (upd f u p) t s = u := by rw [upd_it t s hf]; exact ht
 have hit : ∀ i, RoadZ.it (upd f u p) (i + 1) u = RoadZ.it f i p := fun i => by
  show RoadZ.it (upd f u p) i (upd f u p u) = _
  rw [upd_at]; exact upd_it i p fun j _ => ho j
 have hn : ¬ Cyc (upd f u p) u := by rintro ⟨i, hi⟩; rw [hit] at hi; exact ho i hi
 exact ⟨Lv.shift h1 (Or.inl hn) (lv_turned hp ho), by rw [it_add, h1, hit]⟩
theorem uniq_away (l : List σ) (hl : ∀ s, s ∈ l) {u p : σ} {L : Nat} (hmax : ∀ s j, Lv f s j → j ≤ L) (hp : Lv f p L) (ho : ∀ i, RoadZ.it f i p ≠ u) : Uniq (upd f u p) := by
 refine Uniq.of l hl (L := L) (r := RoadZ.it f L p) ⟨u, L + 1, lv_turned hp ho, by omega⟩ fun s j hj hlt => ?_
 by_cases h : ∃ i, RoadZ.it f i s = u
 ·obtain ⟨t, ht, hf⟩ := first_at h
  obtain ⟨h1, h2⟩ := turn_levels hp ho ht hf
  obtain rfl := hj.uniq h1
  exact h2
 ·have := hmax s j ((lv_off (fun i hi => h ⟨i, hi⟩) j).1 hj)
  omega
noncomputable def many (l : List σ) (f : σ → σ) : Nat := (l.filter fun s => decide (Cyc f s)).length
theorem many_le (l : List σ) (hl : ∀ s, s ∈ l) (hn : l.Nodup) (X A : List σ) (hX : X.Nodup) (hXc : ∀ x ∈ X, ¬ Cyc f x ∧ Cyc g x) (hA : ∀ s, Cyc f s → Cyc g s ∨ s ∈ A) : many l f + X.length ≤ many l g + A.length := by
 have := nodup_sub ((l.filter fun s => decide (Cyc f s)) ++ X) ((l.filter fun s => decide (Cyc g s)) ++ A) ?_ ?_
 ·simpa [many] using this
 ·rw [List.nodup_append]
  refine ⟨List.Nodup.sublist List.filter_sublist hn, hX, fun a ha b hb e => ?_⟩
  subst e
  exact (hXc a hb).1 (of_decide_eq_true (List.mem_filter.1 ha).2)
 ·intro x hx
  rw [List.mem_append] at hx ⊢
  rcases hx with hx | hx
  ·rcases hA x (of_decide_eq_true (List.mem_filter.1 hx).2) with h | h
   ·exact Or.inl (List.mem_filter.2 ⟨hl x, decide_eq_true h⟩)
   ·exact Or.inr h
  ·exact Or.inl (List.mem_filter.2 ⟨hl x, decide_eq_true (hXc x hx).2⟩)
end
section
variable {σ : Type} {f : σ → σ}
theorem period {r : σ} (h : Cyc f r) : ∃ P, 0 < P ∧ it f P r = r ∧ ∀ i, 0 < i → i < P → it f i r ≠ r := by
 obtain ⟨n, h1, h2⟩ := least h
 exact ⟨n + 1, by omega, h1, fun i h0 hi he => h2 (i - 1) (by omega) (by rw [show i - 1 + 1 = i by omega]; exact he)⟩
theorem inj_cycle {r : σ} {P : Nat} (hP : it f P r = r) (hm : ∀ i, 0 < i → i < P → it f i r ≠ r) : ∀ i j, i < P → j < P → it f i r = it f j r → i = j := by
 have key : ∀ i j, i < j → j < P → it f i r ≠ it f j r := fun i j hij hj he => by
  refine hm (i + (P - j)) (by omega) (by omega) ?_
  rw [it_add, he, ← it_add, show j + (P - j) = P by omega]; exact hP
 intro i j hi hj he
 rcases Nat.lt_trichotomy i j with h | h | h
 ·exact absurd he (key i j h hj)
 ·exact h
 ·exact absurd he.symm (key j i h hi)
theorem it_mod {r : σ} {P : Nat} (hP : it f P r = r) (k : Nat) : it f (k % P) r = it f k r := by
 have h := Nat.div_add_mod k P
 rw [show it f k r = it f (k / P * P + k % P) r by rw [Nat.mul_comm (k / P)]; rw [h], it_add, Cyc.mul hP]
theorem cyc_back {s : σ} {k : Nat} (h : Cyc f s) : ∃ M, it f M (it f k s) = s := by
 obtain ⟨i, hi⟩ := h
 refine ⟨k * (i + 1) - k, ?_⟩
 rw [← it_add, show k + (k * (i + 1) - k) = k * (i + 1) by have : k ≤ k * (i + 1) := Nat.le_mul_of_pos_right _ (by omega); omega]
 exact Cyc.mul hi k
theorem cyc_of_path {u p : σ} {t : Nat} (ht : it f t p = u) (hf : ∀ i, i < t → it f i p ≠ u) : it (upd f u p) (t + 1) p = p ∧ ∀ i, i ≤ t → it (upd f u p) i p = it f i p := by
 refine ⟨by rw [it_succ, upd_it t p hf, ht, upd_at], fun i hi => upd_it i p fun j hj => hf j (by omega)⟩
theorem more_back (l : List σ) (hl : ∀ s, s ∈ l) (hn : l.Nodup) {u p : σ} (hu : ¬ Cyc f u) (h : ∃ t, it f t p = u) : many l f + 1 ≤ many l (upd f u p) := by
 obtain ⟨t, ht, hf⟩ := first_at h
 obtain ⟨h1, h2⟩ := cyc_of_path ht hf
 have hp : ¬ Cyc f p := fun hc => hu (by rw [← ht]; exact hc.it t)
 have := many_le (f := f) (g := upd f u p) l hl hn [p] [] (by simp) (by
  intro x hx
  rw [List.mem_singleton] at hx; subst hx
  exact ⟨hp, t, h1⟩) (fun s hs => Or.inl ((cyc_off fun i hi => hu (by rw [← hi]; exact hs.it i)).2 hs))
 simpa using this
section
variable {u p r : σ} {L d P : Nat} (hp : Lv f p L) (hr : it f L p = r) (hP : it f P r = r) (hm : ∀ i, 0 < i → i < P → it f i r ≠ r) (hd : d < P) (hu : it f d r = u)
include hp hr hP hm hd hu
theorem tc_first : ∀ i, i < L + d → it f i p ≠ u := by
 intro i hi he
 have hcr : Cyc f r := by rw [← hr]; exact hp.1
 by_cases hiL : i < L
 ·exact hp.2 i hiL (by rw [he, ← hu]; exact hcr.it d)
 ·rw [show i = L + (i - L) by omega, it_add, hr, ← hu] at he
  have := inj_cycle hP hm _ _ (by omega) hd he
  omega
theorem tc_path : it (upd f u p) (L + d + 1) p = p ∧ ∀ i, i ≤ L + d → it (upd f u p) i p = it f i p :=
 cyc_of_path (by rw [it_add, hr]; exact hu) (tc_first hp hr hP hm hd hu)
theorem tc_cyc : ∀ i, i ≤ L + d → Cyc (upd f u p) (it f i p) := by
 intro i hi
 obtain ⟨h1, h2⟩ := tc_path hp hr hP hm hd hu
 rw [← h2 i hi]
 exact (show Cyc (upd f u p) p from ⟨_, h1⟩).it i
theorem tc_succ : f u = it f (d + 1) r := by rw [it_succ, hu]
theorem tc_arc : ∀ k i, d + 1 + i + k ≤ P → it (upd f u p) k (it f (d + 1 + i) r) = it f (d + 1 + i + k) r := by
 intro k i h
 rw [upd_it k _ fun j hj he => ?_, ← it_add]
 rw [← it_add, ← hu] at he
 have := inj_cycle hP hm _ _ (by omega) hd he
 omega
theorem tc_orbit : ∀ M i, i ≤ L + d → ∃ j, j ≤ L + d ∧ it (upd f u p) M (it f i p) = it f j p := by
 obtain ⟨h1, h2⟩ := tc_path hp hr hP hm hd hu
 intro M
 induction M with
 | zero => exact fun i hi => ⟨i, hi, rfl⟩
 | succ M ih =>
  intro i hi
  obtain ⟨j, hj, he⟩ := ih i hi
  rw [it_succ, he, ← h2 j hj, ← it_succ (upd f u p)]
  by_cases hj2 : j = L + d
  ·subst hj2; exact ⟨0, by omega, h1⟩
  ·exact ⟨j + 1, by omega, h2 (j + 1) (by omega)⟩
theorem tc_not : ∀ i, d + 1 + i < P → ¬ Cyc (upd f u p) (it f (d + 1 + i) r) := by
 intro i hi hc
 have hcr : Cyc f r := by rw [← hr]; exact hp.1
 have h1 := tc_arc hp hr hP hm hd hu (P - (d + 1 + i)) i (by omega)
 rw [show d + 1 + i + (P - (d + 1 + i)) = P by omega, hP] at h1
 obtain ⟨M, hM⟩ := cyc_back (k := P - (d + 1 + i)) hc
 rw [h1, ← hr] at hM
 obtain ⟨j, hj, he⟩ := tc_orbit hp hr hP hm hd hu M L (by omega)
 rw [he, hr] at hM
 by_cases hjL : j < L
 ·exact hp.2 j hjL (by rw [hM]; exact hcr.it _)
 ·rw [show j = L + (j - L) by omega, it_add, hr] at hM
  have := inj_cycle hP hm _ _ (by omega) hi hM
  omega
theorem tc_or (s : σ) (hs : Cyc f s) : Cyc (upd f u p) s ∨ ∃ i, d + 1 + i < P ∧ s = it f (d + 1 + i) r := by
 have hcr : Cyc f r := by rw [← hr]; exact hp.1
 by_cases h : ∃ i, it f i s = u
 ·obtain ⟨i, hi⟩ := h
  obtain ⟨M, hM⟩ := cyc_back (k := i) hs
  rw [hi, ← hu, ← it_add] at hM
  have hlt : (d + M) % P < P := Nat.mod_lt _ (by omega)
  rw [← it_mod hP] at hM
  by_cases hj : (d + M) % P ≤ d
  ·left
   have := tc_cyc hp hr hP hm hd hu (L + (d + M) % P) (by omega)
   rw [it_add, hr, hM] at this
   exact this
  ·exact Or.inr ⟨(d + M) % P - (d + 1), by omega, by rw [show d + 1 + ((d + M) % P - (d + 1)) = (d + M) % P by omega]; exact hM.symm⟩
 ·exact Or.inl ((cyc_off fun i hi => h ⟨i, hi⟩).2 hs)
theorem tc_lv : ∀ i, d + 1 + i ≤ P → Lv (upd f u p) (it f (d + 1 + i) r) (P - (d + 1 + i)) ∧ it (upd f u p) (P - (d + 1 + i)) (it f (d + 1 + i) r) = r := by
 intro i hi
 have h1 := tc_arc hp hr hP hm hd hu (P - (d + 1 + i)) i (by omega)
 rw [show d + 1 + i + (P - (d + 1 + i)) = P by omega, hP] at h1
 refine ⟨⟨?_, fun k hk => ?_⟩, h1⟩
 ·rw [h1, ← hr]; exact tc_cyc hp hr hP hm hd hu L (by omega)
 ·rw [tc_arc hp hr hP hm hd hu k i (by omega)]
  have := tc_not hp hr hP hm hd hu (i + k) (by omega)
  rwa [← Nat.add_assoc] at this
theorem tc_levels (l : List σ) (hl : ∀ s, s ∈ l) (hmax : ∀ s j, Lv f s j → j ≤ L) (s : σ) (j : Nat) (hj : Lv (upd f u p) s j) (hlt : L < j) : it (upd f u p) j s = r := by
 have hcr : Cyc f r := by rw [← hr]; exact hp.1
 obtain ⟨j0, h0⟩ := Lv.exists l hl f s
 have hle := hmax s j0 h0
 have hcu : Cyc f u := by rw [← hu]; exact hcr.it d
 have hs : it (upd f u p) j0 s = it f j0 s := upd_it j0 s fun i hi he => h0.2 i hi (by rw [he]; exact hcu)
 rcases tc_or hp hr hP hm hd hu _ h0.1 with h | ⟨i, hi, he⟩
 ·exact absurd (by rw [hs]; exact h) (hj.2 j0 (by omega))
 ·obtain ⟨h1, h2⟩ := tc_lv hp hr hP hm hd hu i (by omega)
  rw [← he, ← hs] at h1 h2
  have hn : ¬ Cyc (upd f u p) (it (upd f u p) j0 s) := by rw [hs, he]; exact tc_not hp hr hP hm hd hu i hi
  have h3 := Lv.shift rfl (Or.inl hn) h1
  obtain rfl := hj.uniq h3
  rw [it_add]; exact h2
theorem tc_many (l : List σ) (hl : ∀ s, s ∈ l) (hn : l.Nodup) : many l f + L ≤ many l (upd f u p) + (P - 1 - d) := by
 have hcr : Cyc f r := by rw [← hr]; exact hp.1
 have := many_le (f := f) (g := upd f u p) l hl hn ((List.range L).map fun i => it f i p) ((List.range (P - 1 - d)).map fun i => it f (d + 1 + i) r) ?_ ?_ ?_
 ·simpa using this
 ·rw [List.nodup_iff_pairwise_ne, List.pairwise_map]
  refine List.Pairwise.imp_of_mem ?_ (List.pairwise_lt_range (n := L))
  intro a b ha hb hab he
  have hbL := List.mem_range.1 hb
  refine hp.2 a (by omega) ⟨b - a - 1, ?_⟩
  rw [← it_add, show a + (b - a - 1 + 1) = b by omega]; exact he.symm
 ·intro x hx
  obtain ⟨i, hi, rfl⟩ := List.mem_map.1 hx
  have := List.mem_range.1 hi
  exact ⟨hp.2 i this, tc_cyc hp hr hP hm hd hu i (by omega)⟩
 ·intro s hs
  rcases tc_or hp hr hP hm hd hu s hs with h | ⟨i, hi, he⟩
  ·exact Or.inl h
  ·exact Or.inr (List.mem_map.2 ⟨i, List.mem_range.2 (by omega), he.symm⟩)
end
theorem turn_step (l : List σ) (hl : ∀ s, s ∈ l) (hn : l.Nodup) {u p : σ} {L : Nat} (hmax : ∀ s j, Lv f s j → j ≤ L) (hp : Lv f p L) (hne : f u ≠ p) (hN : many l (upd f u p) ≤ many l f) :
  Uniq (upd f u p) ∨ (1 ≤ L ∧ Cyc f u ∧ it f L (f u) = it f L p ∧ many l f ≤ many l (upd f u p) ∧ (∀ s j, Lv (upd f u p) s j → j ≤ L) ∧ Lv (upd f u p) (f u) L ∧ Cyc (upd f u p) u ∧ it (upd f u p) L (f u) = it f L p ∧ it (upd f u p) L p = it f L p ∧ it (upd f u p) (L - 1) (f u) = it f (L - 1) (f u)) := by
 by_cases ho : ∃ t, it f t p = u
 rotate_left
 ·exact Or.inl (uniq_away l hl hmax hp fun i hi => ho ⟨i, hi⟩)
 by_cases hc : Cyc f u
 rotate_left
 ·have := more_back l hl hn hc ho; omega
 obtain ⟨t, ht⟩ := ho
 have hcr := hp.1
 obtain ⟨r, hr⟩ : ∃ r, it f L p = r := ⟨_, rfl⟩
 rw [hr] at hcr
 obtain ⟨P, hP0, hP, hm⟩ := period hcr
 have htr : ∃ t, it f t r = u := by
  by_cases h : L ≤ t
  ·exact ⟨t - L, by rw [← hr, ← it_add, show L + (t - L) = t by omega]; exact ht⟩
  ·exact absurd hc (by rw [← ht]; exact hp.2 t (by omega))
 obtain ⟨t0, ht0⟩ := htr
 rw [← it_mod hP] at ht0
 have hd : t0 % P < P := Nat.mod_lt _ hP0
 generalize t0 % P = d at hd ht0
 have hM := tc_many hp hr hP hm hd ht0 l hl hn
 have hlv := tc_levels hp hr hP hm hd ht0 l hl hmax
 have hsu := tc_succ hp hr hP hm hd ht0
 obtain ⟨h1, h2⟩ := tc_lv hp hr hP hm hd ht0 0 (by omega)
 rw [Nat.add_zero, ← hsu] at h1 h2
 by_cases hlt : L < P - (d + 1)
 ·exact Or.inl (Uniq.of l hl ⟨f u, _, h1, hlt⟩ hlv)
 have hLe : P - (d + 1) = L := by omega
 rw [hLe] at h1 h2
 by_cases hup : ∃ s j, Lv (upd f u p) s j ∧ L < j
 ·exact Or.inl (Uniq.of l hl hup hlv)
 have hL1 : 1 ≤ L := by
  apply Classical.byContradiction
  intro h
  obtain rfl : L = 0 := by omega
  exact hne (show f u = p from h2.trans hr.symm)
 refine Or.inr ⟨hL1, hc, ?_, by omega, fun s j hj => ?_, h1, ?_, ?_, ?_, ?_⟩
 ·rw [hsu, hr, ← it_add, show d + 1 + L = P by omega]; exact hP
 ·rcases Nat.lt_or_ge L j with h | h
  ·exact absurd ⟨s, j, hj, h⟩ hup
  ·exact h
 ·have := tc_cyc hp hr hP hm hd ht0 (L + d) (by omega)
  rwa [it_add, hr, ht0] at this
 ·rw [h2, hr]
 ·exact (tc_path hp hr hP hm hd ht0).2 L (by omega)
 ·have := tc_arc hp hr hP hm hd ht0 (L - 1) 0 (by omega)
  rw [Nat.add_zero, ← hsu] at this
  rw [this, hsu, ← it_add]
end
section
variable {σ : Type} (Out : σ → σ → Prop)
def Choice (f : σ → σ) : Prop := ∀ s, Out s (f s)
theorem Choice.upd {f : σ → σ} (h : Choice Out f) {u p : σ} (hu : Out u p) : Choice Out (upd f u p) := by
 intro s
 by_cases e : s = u
 ·subst e; rw [upd_at]; exact hu
 ·rw [upd_ne e]; exact h s
theorem max_choice (l : List σ) (f0 : σ → σ) (h0 : Choice Out f0) : ∃ f, Choice Out f ∧ ∀ g, Choice Out g → many l g ≤ many l f := by
 have key : ∀ d f, Choice Out f → l.length ≤ many l f + d → ∃ f, Choice Out f ∧ ∀ g, Choice Out g → many l g ≤ many l f := by
  intro d
  induction d with
  | zero =>
   intro f hf hd
   exact ⟨f, hf, fun g _ => Nat.le_trans (List.length_filter_le _ _) (by simpa using hd)⟩
  | succ d ih =>
   intro f hf hd
   by_cases h : ∃ g, Choice Out g ∧ many l f < many l g
   ·obtain ⟨g, hg, hlt⟩ := h
    exact ih g hg (by omega)
   ·refine ⟨f, hf, fun g hg => ?_⟩
    rcases Nat.lt_or_ge (many l f) (many l g) with h1 | h1
    ·exact absurd ⟨g, hg, h1⟩ h
    ·exact h1
 exact key l.length f0 h0 (by omega)
variable (l : List σ) (hl : ∀ s, s ∈ l) (hn : l.Nodup)
include hl hn
theorem case_other {f : σ → σ} (hf : Choice Out f) (hM : ∀ g, Choice Out g → many l g ≤ many l f) {L : Nat} (hmax : ∀ s j, Lv f s j → j ≤ L) (hL : 1 ≤ L) {u p v : σ} (hp : Lv f p L) (hu : Out u p) (hcu : Cyc f u)
  (he : it f L (f u) = it f L p) (hv : Out (it f (L - 1) p) v) (hvr : v ≠ it f L p) : ∃ g, Choice Out g ∧ Uniq g := by
 obtain ⟨x, hx⟩ : ∃ x, it f (L - 1) p = x := ⟨_, rfl⟩
 rw [hx] at hv
 have hnx : ¬ Cyc f x := by rw [← hx]; exact hp.2 (L - 1) (by omega)
 have hx1 : Lv f x 1 := by
  rw [← hx]
  exact Lv.tail (by rw [show L - 1 + 1 = L by omega]; exact hp)
 have hf1 := hf.upd Out hv
 by_cases hb : ∃ t, it f t v = x
 ·have := more_back l hl hn hnx hb
  have := hM _ hf1
  omega
 have ho : ∀ i, it f i v ≠ x := fun i hi => hb ⟨i, hi⟩
 obtain ⟨j, hj⟩ := Lv.exists l hl f v
 have hfirst : ∀ i, i < L - 1 → it f i p ≠ x := fun i hi hxi => by
  have h1 : Lv f (it f i p) (L - i) := Lv.tail (by rw [show i + (L - i) = L by omega]; exact hp)
  rw [hxi] at h1
  have := h1.uniq hx1
  omega
 obtain ⟨hp1, hp2⟩ := turn_levels hj ho hx hfirst
 rcases Nat.eq_zero_or_pos j with rfl | hj1
 rotate_left
 ·refine ⟨_, hf1, Uniq.of l hl (L := L) (r := it f j v) ⟨p, _, hp1, by omega⟩ fun s i hi hlt => ?_⟩
  by_cases h : ∃ i, it f i s = x
  ·obtain ⟨t, ht, hft⟩ := first_at h
   obtain ⟨h1, h2⟩ := turn_levels hj ho ht hft
   obtain rfl := hi.uniq h1
   exact h2
  ·have := hmax s i ((lv_off (fun i hi => h ⟨i, hi⟩) i).1 hi)
   omega
 rw [show L - 1 + (0 + 1) = L by omega] at hp1 hp2
 have hp2 : it (upd f x v) L p = v := hp2
 have hmax1 : ∀ s i, Lv (upd f x v) s i → i ≤ L := by
  intro s i hi
  by_cases h : ∃ i, it f i s = x
  ·obtain ⟨t, ht, hft⟩ := first_at h
   obtain ⟨h1, _⟩ := turn_levels hj ho ht hft
   obtain rfl := hi.uniq h1
   exact hmax s (t + 1) (Lv.shift ht (Or.inl hnx) hx1)
  ·exact hmax s i ((lv_off (fun i hi => h ⟨i, hi⟩) i).1 hi)
 have hcoff : ∀ s, Cyc f s → ∀ i, it f i s ≠ x := fun s hs i hi => hnx (by rw [← hi]; exact hs.it i)
 have hmany : many l f ≤ many l (upd f x v) := by
  have := many_le (f := f) (g := upd f x v) l hl hn [] [] List.nodup_nil (fun x hx => absurd hx List.not_mem_nil) (fun s hs => Or.inl ((cyc_off (hcoff s hs)).2 hs))
  simpa using this
 have hux : u ≠ x := fun e => hnx (e ▸ hcu)
 have hfu : upd f x v u = f u := upd_ne hux
 have hnp : ¬ Cyc f p := hp.2 0 (by omega)
 have hg := hf1.upd Out hu
 rcases turn_step l hl hn hmax1 hp1 (u := u) (by rw [hfu]; exact fun e => hnp (e ▸ hcu.next)) (Nat.le_trans (hM _ hg) hmany) with h | ⟨_, _, h, _⟩
 ·exact ⟨_, hg, h⟩
 ·rw [hfu, hp2, upd_it L (f u) fun i _ => hcoff _ hcu.next i, he] at h
  exact absurd h.symm hvr
theorem exists_uniq (f0 : σ → σ) (h0 : Choice Out f0) (hin : ∀ p, ∃ u, Out u p) (hne : ∀ f, Choice Out f → ∃ u q, Out u q ∧ q ≠ f u)
  (hb : ∀ x y r, x ≠ y → (∀ t, Out x t → t = r) → (∀ t, Out y t → t = r) → False) : ∃ g, Choice Out g ∧ Uniq g := by
 obtain ⟨f, hf, hM⟩ := max_choice Out l f0 h0
 obtain ⟨u0, q0, hu0, hq0⟩ := hne f hf
 obtain ⟨p, _, L, hp, hmax0⟩ := max_of (Lv f) (fun s i j => Lv.uniq) l ⟨u0, hl u0, Lv.exists l hl f u0⟩
 have hmax : ∀ s j, Lv f s j → j ≤ L := fun s j => hmax0 s (hl s) j
 rcases Nat.eq_zero_or_pos L with rfl | hL
 ·have hq : Lv f q0 0 := by
   obtain ⟨j, hj⟩ := Lv.exists l hl f q0
   obtain rfl : j = 0 := by have := hmax q0 j hj; omega
   exact hj
  have hg := hf.upd Out hu0
  rcases turn_step l hl hn hmax hq (u := u0) (fun e => hq0 e.symm) (hM _ hg) with h | ⟨h, _⟩
  ·exact ⟨_, hg, h⟩
  ·omega
 ·have hnp : ¬ Cyc f p := hp.2 0 hL
  obtain ⟨u, hu⟩ := hin p
  have hfu : f u ≠ p := fun e => by
   have := hmax u (1 + L) (Lv.shift (t := 1) e (Or.inl hnp) hp)
   omega
  have hg := hf.upd Out hu
  rcases turn_step l hl hn hmax hp hfu (hM _ hg) with h | ⟨_, hcu, he, hmany, hmaxg, hpg, hcug, heg, hgp, hgc⟩
  ·exact ⟨_, hg, h⟩
  have hx : f (it f (L - 1) p) = it f L p := by rw [← it_succ f, show L - 1 + 1 = L by omega]
  have hc : f (it f (L - 1) (f u)) = it f L p := by rw [← it_succ f, show L - 1 + 1 = L by omega]; exact he
  by_cases h1 : ∃ v, Out (it f (L - 1) p) v ∧ v ≠ it f L p
  ·obtain ⟨v, hv, hvr⟩ := h1
   exact case_other Out l hl hn hf hM hmax hL hp hu hcu he hv hvr
  by_cases h2 : ∃ v, Out (it f (L - 1) (f u)) v ∧ v ≠ it f L p
  ·obtain ⟨v, hv, hvr⟩ := h2
   refine case_other Out l hl hn hg (fun g hgg => Nat.le_trans (hM g hgg) hmany) hmaxg hL hpg (hf u) hcug ?_ (v := v) (by rw [hgc]; exact hv) (by rw [heg]; exact hvr)
   rw [upd_at, hgp, heg]
  ·exfalso
   refine hb (it f (L - 1) p) (it f (L - 1) (f u)) (it f L p) (fun e => hp.2 (L - 1) (by omega) (by rw [e]; exact hcu.next.it _)) (fun t ht => ?_) (fun t ht => ?_)
   ·exact Classical.byContradiction fun h => h1 ⟨t, ht, h⟩
   ·exact Classical.byContradiction fun h => h2 ⟨t, ht, h⟩
end
end Go.Proofs.Ytjgdalhdiohclaa.RoadZ
end
section
namespace Go.Proofs.Ytjgdalhdiohclaa.RoadZ
open Classical
section
variable {σ α : Type}
def run (δ : σ → α → σ) (s : σ) (w : List α) : σ := w.foldl δ s
theorem run_app (δ : σ → α → σ) (s : σ) (u v : List α) : run δ s (u ++ v) = run δ (run δ s u) v := List.foldl_append
theorem run_cons (δ : σ → α → σ) (s : σ) (x : α) (w : List α) : run δ s (x :: w) = run δ (δ s x) w := rfl
theorem run_rep (δ : σ → α → σ) (a : α) : ∀ (k : Nat) (s : σ), run δ s (List.replicate k a) = it (fun s => δ s a) k s
 | 0, s => rfl
 | k + 1, s => run_rep δ a k (δ s a)
def Recol (δ δ' : σ → α → σ) : Prop := ∀ s, ∃ π ρ : α → α, (∀ x, π (ρ x) = x) ∧ (∀ x, ρ (π x) = x) ∧ ∀ x, δ' s x = δ s (π x)
def Sync (δ : σ → α → σ) : Prop := ∃ w, ∀ s t, run δ s w = run δ t w
def Prim (δ : σ → α → σ) : Prop := ∃ K, ∀ s t, ∃ w, w.length = K ∧ run δ s w = t
theorem Recol.trans {δ δ' δ'' : σ → α → σ} (h : Recol δ δ') (h' : Recol δ' δ'') : Recol δ δ'' := by
 intro s
 obtain ⟨π, ρ, h1, h2, h3⟩ := h s
 obtain ⟨π', ρ', g1, g2, g3⟩ := h' s
 exact ⟨fun x => π (π' x), fun x => ρ' (ρ x), fun x => (congrArg π (g1 (ρ x))).trans (h1 x), fun x => (congrArg ρ' (h2 (π' x))).trans (g2 x), fun x => by rw [g3, h3]⟩
theorem Recol.way {δ δ' : σ → α → σ} (h : Recol δ δ') : ∀ (w : List α) (s : σ), ∃ w', w'.length = w.length ∧ run δ' s w' = run δ s w
 | [], s => ⟨[], rfl, rfl⟩
 | x :: w, s => by
  obtain ⟨π, ρ, h1, h2, h3⟩ := h s
  obtain ⟨w', hl, hw⟩ := Recol.way h w (δ s x)
  exact ⟨ρ x :: w', by simp [hl], by rw [run_cons, h3, h1, hw]; rfl⟩
theorem Recol.prim {δ δ' : σ → α → σ} (h : Recol δ δ') (hp : Prim δ) : Prim δ' := by
 obtain ⟨K, hK⟩ := hp
 refine ⟨K, fun s t => ?_⟩
 obtain ⟨w, hl, hw⟩ := hK s t
 obtain ⟨w', hl', hw'⟩ := h.way w s
 exact ⟨w', by omega, by rw [hw', hw]⟩
def St (δ : σ → α → σ) (s t : σ) : Prop := ∀ u, ∃ v, run δ s (u ++ v) = run δ t (u ++ v)
theorem St.refl (δ : σ → α → σ) (s : σ) : St δ s s := fun u => ⟨[], rfl⟩
theorem St.symm {δ : σ → α → σ} {s t : σ} (h : St δ s t) : St δ t s := fun u => by obtain ⟨v, hv⟩ := h u; exact ⟨v, hv.symm⟩
theorem St.trans {δ : σ → α → σ} {s t q : σ} (h : St δ s t) (h' : St δ t q) : St δ s q := fun u => by
 obtain ⟨v, hv⟩ := h u
 obtain ⟨v', hv'⟩ := h' (u ++ v)
 refine ⟨v ++ v', ?_⟩
 rw [← List.append_assoc, run_app, hv, ← run_app, hv']
theorem St.next {δ : σ → α → σ} {s t : σ} (h : St δ s t) (x : α) : St δ (δ s x) (δ t x) := fun u => by
 obtain ⟨v, hv⟩ := h (x :: u)
 exact ⟨v, hv⟩
theorem two_maps [DecidableEq σ] (I : List σ) (hI : I.Nodup) (φ ψ : σ → σ) (hφ : ∀ x ∈ I, φ x ∈ I) (hψ : ∀ x ∈ I, ψ x ∈ I) (iφ : ∀ x ∈ I, ∀ y ∈ I, φ x = φ y → x = y) (iψ : ∀ x ∈ I, ∀ y ∈ I, ψ x = ψ y → x = y)
  (z : σ) (hz : z ∈ I) (he : ∀ x ∈ I, x ≠ z → φ x = ψ x) : φ z = ψ z := by
 apply Classical.byContradiction
 intro hne
 have hnd : (ψ z :: I.map φ).Nodup := by
  refine List.nodup_cons.2 ⟨fun hm => ?_, ?_⟩
  ·obtain ⟨x, hx, hxe⟩ := List.mem_map.1 hm
   by_cases hxz : x = z
   ·subst hxz; exact hne hxe
   ·rw [he x hx hxz] at hxe
    exact hxz (iψ x hx z hz hxe)
  ·rw [List.nodup_iff_pairwise_ne, List.pairwise_map]
   rw [List.nodup_iff_pairwise_ne] at hI
   exact List.Pairwise.imp_of_mem (fun {a b} ha hb hab e => hab (iφ a ha b hb e)) hI
 have := nodup_sub _ I hnd (fun x hx => by
  rcases List.mem_cons.1 hx with rfl | hx
  ·exact hψ z hz
  ·obtain ⟨y, hy, rfl⟩ := List.mem_map.1 hx; exact hφ y hy)
 simp at this
 omega
theorem dedup (l : List σ) : ∃ m : List σ, m.Nodup ∧ ∀ x, x ∈ m ↔ x ∈ l := by
 induction l with
 | nil => exact ⟨[], List.nodup_nil, fun x => Iff.rfl⟩
 | cons a l ih =>
  obtain ⟨m, h1, h2⟩ := ih
  by_cases h : a ∈ m
  ·refine ⟨m, h1, fun x => ?_⟩
   rw [h2, List.mem_cons]
   exact ⟨Or.inr, fun hx => hx.elim (fun e => by subst e; exact (h2 x).1 h) id⟩
  ·exact ⟨a :: m, List.nodup_cons.2 ⟨h, h1⟩, fun x => by rw [List.mem_cons, List.mem_cons, h2]⟩
theorem least_rank (l : List σ) (hl : ∀ s, s ∈ l) (δ : σ → α → σ) : ∃ w, ∀ v s t, run δ s (w ++ v) = run δ t (w ++ v) → run δ s w = run δ t w := by
 let N : List α → Nat := fun w => ((l.flatMap fun s => l.map fun t => (s, t)).filter fun q => decide (run δ q.1 w = run δ q.2 w)).length
 have hb : ∀ w, N w ≤ (l.flatMap fun s => l.map fun t => (s, t)).length := fun w => List.length_filter_le _ _
 have key : ∀ d w, (l.flatMap fun s => l.map fun t => (s, t)).length ≤ N w + d → ∃ w, ∀ v, N (w ++ v) ≤ N w := by
  intro d
  induction d with
  | zero => exact fun w hw => ⟨w, fun v => Nat.le_trans (hb _) hw⟩
  | succ d ih =>
   intro w hw
   by_cases h : ∃ v, N w < N (w ++ v)
   ·obtain ⟨v, hv⟩ := h; exact ih (w ++ v) (by omega)
   ·exact ⟨w, fun v => Nat.le_of_not_lt fun hlt => h ⟨v, hlt⟩⟩
 obtain ⟨w, hw⟩ := key _ [] (Nat.le_add_left _ _)
 refine ⟨w, fun v s t he => ?_⟩
 apply Classical.byContradiction
 intro hne
 have hlt : N w < N (w ++ v) := by
  have hsub : ∀ (L : List (σ × σ)), (s, t) ∈ L → (L.filter fun q => decide (run δ q.1 w = run δ q.2 w)).length < (L.filter fun q => decide (run δ q.1 (w ++ v) = run δ q.2 (w ++ v))).length := by
   have hle : ∀ (L : List (σ × σ)), (L.filter fun q => decide (run δ q.1 w = run δ q.2 w)).length ≤ (L.filter fun q => decide (run δ q.1 (w ++ v) = run δ q.2 (w ++ v))).length := by
    intro L
    induction L with
    | nil => exact Nat.le_refl _
    | cons q L ih =>
     by_cases h1 : run δ q.1 w = run δ q.2 w
     ·have h2 : run δ q.1 (w ++ v) = run δ q.2 (w ++ v) := by rw [run_app, run_app, h1]
      rw [List.filter_cons_of_pos (by simpa using h1), List.filter_cons_of_pos (by simpa using h2)]
      simp only [List.length_cons]; omega
     ·rw [List.filter_cons_of_neg (by simpa using h1)]
      by_cases h2 : run δ q.1 (w ++ v) = run δ q.2 (w ++ v)
      ·rw [List.filter_cons_of_pos (by simpa using h2)]; simp only [List.length_cons]; omega
      ·rw [List.filter_cons_of_neg (by simpa using h2)]; exact ih
   intro L hL
   induction L with
   | nil => cases hL
   | cons q L ih =>
    rcases List.mem_cons.1 hL with rfl | hL
    ·rw [List.filter_cons_of_neg (by simpa using hne), List.filter_cons_of_pos (by simpa using he)]
     have := hle L
     simp only [List.length_cons]; omega
    ·have := ih hL
     by_cases h1 : run δ q.1 w = run δ q.2 w
     ·have h2 : run δ q.1 (w ++ v) = run δ q.2 (w ++ v) := by rw [run_app, run_app, h1]
      rw [List.filter_cons_of_pos (by simpa using h1), List.filter_cons_of_pos (by simpa using h2)]
      simp only [List.length_cons]; omega
     ·rw [List.filter_cons_of_neg (by simpa using h1)]
      by_cases h2 : run δ q.1 (w ++ v) = run δ q.2 (w ++ v)
      ·rw [List.filter_cons_of_pos (by simpa using h2)]; simp only [List.length_cons]; omega
      ·rw [List.filter_cons_of_neg (by simpa using h2)]; exact this
  exact hsub _ (List.mem_flatMap.2 ⟨s, hl s, List.mem_map.2 ⟨t, hl t, rfl⟩⟩)
 have := hw v
 omega
theorem common (f : σ → σ) : ∀ (l : List σ), ∃ m, 1 ≤ m ∧ ∀ s ∈ l, Cyc f s → it f m s = s
 | [] => ⟨1, Nat.le_refl _, fun s hs => absurd hs List.not_mem_nil⟩
 | x :: l => by
  obtain ⟨m, h1, h2⟩ := common f l
  by_cases hc : Cyc f x
  ·obtain ⟨i, hi⟩ := hc
   refine ⟨m * (i + 1), Nat.le_trans h1 (Nat.le_mul_of_pos_right _ (by omega)), fun s hs hcs => ?_⟩
   rcases List.mem_cons.1 hs with rfl | hs
   ·exact Cyc.mul hi m
   ·rw [Nat.mul_comm]; exact Cyc.mul (h2 s hs hcs) (i + 1)
  ·refine ⟨m, h1, fun s hs hcs => ?_⟩
   rcases List.mem_cons.1 hs with rfl | hs
   ·exact absurd hcs hc
   ·exact h2 s hs hcs
theorem stable_pair (l : List σ) (hl : ∀ s, s ∈ l) (δ : σ → α → σ) (a : α) (hc : ∀ s t, ∃ w, run δ s w = t) (hU : Uniq fun s => δ s a) : ∃ s t, s ≠ t ∧ St δ s t := by
 obtain ⟨L, r, hL, ⟨p, hp⟩, hmax, hr⟩ := hU
 obtain ⟨w0, hw0⟩ := least_rank l hl δ
 obtain ⟨v, hv⟩ := hc (run δ p w0) p
 obtain ⟨m, hm1, hm⟩ := common (fun s => δ s a) l
 have hm : ∀ s, Cyc (fun s => δ s a) s → it (fun s => δ s a) m s = s := fun s => hm s (hl s)
 obtain ⟨I, hI, hmem⟩ := dedup (l.map fun s => run δ s w0)
 have inI : ∀ s, run δ s w0 ∈ I := fun s => (hmem _).2 (List.mem_map.2 ⟨s, hl s, rfl⟩)
 have ofI : ∀ x ∈ I, ∃ s, run δ s w0 = x := fun x hx => by obtain ⟨s, _, h⟩ := List.mem_map.1 ((hmem x).1 hx); exact ⟨s, h⟩
 have inj : ∀ g x y, x ∈ I → y ∈ I → run δ x g = run δ y g → x = y := by
  intro g x y hx hy he
  obtain ⟨s, rfl⟩ := ofI x hx
  obtain ⟨t, rfl⟩ := ofI y hy
  exact hw0 g s t (by rw [run_app, run_app]; exact he)
 obtain ⟨x, hx⟩ : ∃ x, it (fun s => δ s a) (L - 1) p = x := ⟨_, rfl⟩
 obtain ⟨y, hy⟩ : ∃ y, it (fun s => δ s a) m x = y := ⟨_, rfl⟩
 have hnx : ¬ Cyc (fun s => δ s a) x := by rw [← hx]; exact hp.2 _ (by omega)
 have hcy : Cyc (fun s => δ s a) y := by
  rw [← hy, ← hx, ← it_add]
  exact Cyc.later hp.1 (by omega)
 refine ⟨x, y, fun e => hnx (e ▸ hcy), fun u => ?_⟩
 refine ⟨w0, ?_⟩
 have hφ : ∀ z, run δ z ((v ++ List.replicate (L - 1) a) ++ (u ++ w0)) = run δ (it (fun s => δ s a) (L - 1) (run δ z v)) (u ++ w0) := fun z => by simp only [run_app, run_rep]
 have hψ : ∀ z, run δ z ((v ++ List.replicate (L - 1) a) ++ (List.replicate m a ++ (u ++ w0))) = run δ (it (fun s => δ s a) m (it (fun s => δ s a) (L - 1) (run δ z v))) (u ++ w0) := fun z => by simp only [run_app, run_rep]
 have := two_maps I hI (fun z => run δ z ((v ++ List.replicate (L - 1) a) ++ (u ++ w0))) (fun z => run δ z ((v ++ List.replicate (L - 1) a) ++ (List.replicate m a ++ (u ++ w0)))) ?_ ?_ ?_ ?_ (run δ p w0) (inI p) ?_
 ·simp only [hφ, hψ, hv, hx, hy] at this
  exact this
 ·intro z _
  show run δ z _ ∈ I
  rw [← List.append_assoc, run_app]; exact inI _
 ·intro z _
  show run δ z _ ∈ I
  rw [← List.append_assoc, ← List.append_assoc, run_app]; exact inI _
 ·exact fun z hz t ht => inj _ z t hz ht
 ·exact fun z hz t ht => inj _ z t hz ht
 ·intro z hz hne
  simp only [hφ, hψ]
  have hzc : Cyc (fun s => δ s a) (it (fun s => δ s a) (L - 1) (run δ z v)) := by
   obtain ⟨j, hj⟩ := Lv.exists l hl (fun s => δ s a) (run δ z v)
   have hjL := hmax _ _ hj
   by_cases e : j = L
   ·subst e
    exfalso
    refine hne (inj (v ++ List.replicate j a) z (run δ p w0) hz (inI p) ?_)
    rw [run_app, run_app, run_rep, run_rep, hv, hr _ hj, hr _ hp]
   ·exact Cyc.later hj.1 (by omega)
  rw [hm _ hzc]
end
section
variable {σ α : Type}
noncomputable def swapL (a b : α) : α → α := fun x => if x = a then b else if x = b then a else x
theorem swapL_twice (a b x : α) : swapL a b (swapL a b x) = x := by
 unfold swapL
 by_cases h1 : x = a
 ·subst h1
  by_cases h : b = x
  ·subst h; simp
  ·simp [h]
 ·by_cases h2 : x = b
  ·subst h2; simp [h1]
  ·simp [h1, h2]
theorem swapL_a (a b : α) : swapL a b a = b := by simp [swapL]
theorem recol_choice (δ : σ → α → σ) (a : α) (f : σ → σ) (hf : ∀ s, ∃ x, δ s x = f s) : ∃ δ', Recol δ δ' ∧ ∀ s, δ' s a = f s := by
 refine ⟨fun s x => δ s (swapL a (Classical.choose (hf s)) x), fun s => ⟨_, _, swapL_twice a (Classical.choose (hf s)), swapL_twice a (Classical.choose (hf s)), fun x => rfl⟩, fun s => ?_⟩
 show δ s (swapL a (Classical.choose (hf s)) a) = f s
 rw [swapL_a]; exact Classical.choose_spec (hf s)
theorem stable_coloring (l : List σ) (hl : ∀ s, s ∈ l) (hn : l.Nodup) (δ : σ → α → σ) (a : α) (hP : Prim δ) (h2 : ∃ s t : σ, s ≠ t) : ∃ δ', Recol δ δ' ∧ ∃ s t, s ≠ t ∧ St δ' s t := by
 by_cases hb : ∃ x y r, x ≠ y ∧ (∀ t, (∃ b, δ x b = t) → t = r) ∧ (∀ t, (∃ b, δ y b = t) → t = r)
 ·obtain ⟨x, y, r, hxy, h1, h3⟩ := hb
  have e1 : ∀ b, δ x b = r := fun b => h1 _ ⟨b, rfl⟩
  have e2 : ∀ b, δ y b = r := fun b => h3 _ ⟨b, rfl⟩
  refine ⟨δ, fun s => ⟨id, id, fun _ => rfl, fun _ => rfl, fun _ => rfl⟩, x, y, hxy, fun u => ?_⟩
  cases u with
  | nil => exact ⟨[a], by show δ x a = δ y a; rw [e1, e2]⟩
  | cons b u => exact ⟨[], by rw [List.cons_append, run_cons, run_cons, e1, e2]⟩
 ·obtain ⟨K, hK⟩ := hP
  have hin : ∀ p, ∃ u, ∃ b, δ u b = p := by
   intro p
   obtain ⟨s, t, hst⟩ := h2
   obtain ⟨q, hq⟩ : ∃ q, q ≠ p := by
    by_cases h : s = p
    ·exact ⟨t, fun e => hst (h.trans e.symm)⟩
    ·exact ⟨s, h⟩
   obtain ⟨w, _, hw⟩ := hK q p
   rcases List.eq_nil_or_concat w with rfl | ⟨w', b, rfl⟩
   ·exact absurd hw hq
   ·refine ⟨run δ q w', b, ?_⟩
    rw [List.concat_eq_append, run_app] at hw
    exact hw
  have hne : ∀ f : σ → σ, Choice (fun s t => ∃ b, δ s b = t) f → ∃ u q, (∃ b, δ u b = q) ∧ q ≠ f u := by
   intro f hf
   apply Classical.byContradiction
   intro hno
   have he : ∀ s b, δ s b = f s := fun s b => Classical.byContradiction fun h => hno ⟨s, _, ⟨b, rfl⟩, h⟩
   have hrun : ∀ (w : List α) s, run δ s w = it f w.length s := by
    intro w
    induction w with
    | nil => exact fun s => rfl
    | cons b w ih => exact fun s => by rw [run_cons, he, ih]; rfl
   obtain ⟨s, t, hst⟩ := h2
   obtain ⟨w, hw, e⟩ := hK s s
   obtain ⟨w', hw', e'⟩ := hK s t
   rw [hrun, hw] at e
   rw [hrun, hw'] at e'
   exact hst (e.symm.trans e')
  obtain ⟨f, hf, hU⟩ := exists_uniq (fun s t => ∃ b, δ s b = t) l hl hn (fun s => δ s a) (fun s => ⟨a, rfl⟩) hin hne (fun x y r hxy h1 h3 => hb ⟨x, y, r, hxy, h1, h3⟩)
  obtain ⟨δ', hR, ha⟩ := recol_choice δ a f hf
  have hfa : (fun s => δ' s a) = f := funext ha
  obtain ⟨s, t, hst, h⟩ := stable_pair l hl δ' a (fun s t => by
   obtain ⟨w, _, hw⟩ := hK s t
   obtain ⟨w', _, hw'⟩ := hR.way w s
   exact ⟨w', by rw [hw', hw]⟩) (by rw [hfa]; exact hU)
  exact ⟨δ', hR, s, t, hst, h⟩
def stSetoid (δ : σ → α → σ) : Setoid σ := ⟨St δ, ⟨St.refl δ, St.symm, St.trans⟩⟩
def qδ (δ : σ → α → σ) : Quotient (stSetoid δ) → α → Quotient (stSetoid δ) := fun c x => Quotient.lift (fun s => Quotient.mk (stSetoid δ) (δ s x)) (fun s t h => Quotient.sound (St.next h x)) c
theorem qδ_run (δ : σ → α → σ) : ∀ (w : List α) (s : σ), run (qδ δ) (Quotient.mk (stSetoid δ) s) w = Quotient.mk (stSetoid δ) (run δ s w)
 | [], s => rfl
 | x :: w, s => qδ_run δ w (δ s x)
theorem lift_sync (l : List σ) (hl : ∀ s, s ∈ l) (δ : σ → α → σ) (B : Quotient (stSetoid δ) → α → Quotient (stSetoid δ)) (hR : Recol (qδ δ) B) (hS : Sync B) : ∃ δ', Recol δ δ' ∧ Sync δ' := by
 let π : Quotient (stSetoid δ) → α → α := fun c => Classical.choose (hR c)
 have hπ : ∀ c, ∃ ρ : α → α, (∀ x, π c (ρ x) = x) ∧ (∀ x, ρ (π c x) = x) ∧ ∀ x, B c x = qδ δ c (π c x) := fun c => Classical.choose_spec (hR c)
 let δ' : σ → α → σ := fun s x => δ s (π (Quotient.mk (stSetoid δ) s) x)
 have hrec : Recol δ δ' := fun s => by
  obtain ⟨ρ, h1, h2, _⟩ := hπ (Quotient.mk (stSetoid δ) s)
  exact ⟨_, ρ, h1, h2, fun x => rfl⟩
 have hB : ∀ s x, Quotient.mk (stSetoid δ) (δ' s x) = B (Quotient.mk (stSetoid δ) s) x := fun s x => by
  obtain ⟨ρ, _, _, h⟩ := hπ (Quotient.mk (stSetoid δ) s)
  rw [h]; rfl
 have hrun : ∀ (w : List α) (s : σ), Quotient.mk (stSetoid δ) (run δ' s w) = run B (Quotient.mk (stSetoid δ) s) w := by
  intro w
  induction w with
  | nil => exact fun s => rfl
  | cons x w ih => exact fun s => by rw [run_cons, run_cons, ih, hB]
 have hway : ∀ (v : List α) (s t : σ), St δ s t → ∃ v', run δ' s v' = run δ s v ∧ run δ' t v' = run δ t v := by
  intro v
  induction v with
  | nil => exact fun s t _ => ⟨[], rfl, rfl⟩
  | cons x v ih =>
   intro s t h
   obtain ⟨v', h1, h2⟩ := ih (δ s x) (δ t x) (h.next x)
   obtain ⟨ρ, r1, _, _⟩ := hπ (Quotient.mk (stSetoid δ) s)
   have e : Quotient.mk (stSetoid δ) t = Quotient.mk (stSetoid δ) s := Quotient.sound (St.symm h)
   refine ⟨ρ x :: v', ?_, ?_⟩
   ·show run δ' (δ s (π (Quotient.mk (stSetoid δ) s) (ρ x))) v' = _
    rw [r1]; exact h1
   ·show run δ' (δ t (π (Quotient.mk (stSetoid δ) t) (ρ x))) v' = _
    rw [e, r1]; exact h2
 have hmerge : ∀ s t, St δ s t → ∃ v', run δ' s v' = run δ' t v' := fun s t h => by
  obtain ⟨v, hv⟩ := h []
  obtain ⟨v', h1, h2⟩ := hway _ s t h
  exact ⟨v', by rw [h1, h2, hv]⟩
 obtain ⟨w0, hw0⟩ := hS
 have key : ∀ l1 : List σ, ∃ w, ∀ s ∈ l1, ∀ t ∈ l1, run δ' s (w0 ++ w) = run δ' t (w0 ++ w) := by
  intro l1
  induction l1 with
  | nil => exact ⟨[], fun s hs => absurd hs List.not_mem_nil⟩
  | cons a l1 ih =>
   obtain ⟨w, hw⟩ := ih
   cases l1 with
   | nil => exact ⟨[], fun s hs t ht => by rw [List.mem_singleton] at hs ht; rw [hs, ht]⟩
   | cons b l2 =>
    have hst : St δ (run δ' a (w0 ++ w)) (run δ' b (w0 ++ w)) := by
     have : Quotient.mk (stSetoid δ) (run δ' a (w0 ++ w)) = Quotient.mk (stSetoid δ) (run δ' b (w0 ++ w)) := by
      rw [hrun, hrun, run_app, run_app, hw0 (Quotient.mk _ a) (Quotient.mk _ b)]
     exact Quotient.exact this
    obtain ⟨v, hv⟩ := hmerge _ _ hst
    have hall : ∀ s ∈ a :: b :: l2, run δ' s (w0 ++ (w ++ v)) = run δ' b (w0 ++ (w ++ v)) := by
     intro s hs
     rw [← List.append_assoc, run_app, run_app δ' b]
     rcases List.mem_cons.1 hs with rfl | hs
     ·exact hv
     ·rw [hw s hs b List.mem_cons_self]
    exact ⟨w ++ v, fun s hs t ht => by rw [hall s hs, hall t ht]⟩
 obtain ⟨w, hw⟩ := key l
 exact ⟨δ', hrec, w0 ++ w, fun s t => hw s (hl s) t (hl t)⟩
end
theorem road_coloring {α : Type} (a : α) : ∀ (n : Nat) (σ : Type) (l : List σ), (∀ s, s ∈ l) → l.Nodup → l.length ≤ n → ∀ δ : σ → α → σ, Prim δ → ∃ δ', Recol δ δ' ∧ Sync δ' := by
 intro n
 induction n with
 | zero =>
  intro σ l hl _ hlen δ _
  refine ⟨δ, fun s => ⟨id, id, fun _ => rfl, fun _ => rfl, fun _ => rfl⟩, [], fun s t => ?_⟩
  have := List.length_pos_of_mem (hl s)
  omega
 | succ n ih =>
  intro σ l hl hn hlen δ hP
  by_cases h2 : ∃ s t : σ, s ≠ t
  ·obtain ⟨δ1, hR1, s, t, hst, hSt⟩ := stable_coloring l hl hn δ a hP h2
   obtain ⟨l2, hn2, hm2⟩ := dedup ((l.erase s).map (Quotient.mk (stSetoid δ1)))
   have hlen2 : l2.length ≤ n := by
    have := nodup_sub l2 _ hn2 (fun x hx => (hm2 x).1 hx)
    rw [List.length_map, List.length_erase_of_mem (hl s)] at this
    omega
   have hl2 : ∀ c, c ∈ l2 := by
    intro c
    rw [hm2]
    obtain ⟨q, rfl⟩ := Quotient.exists_rep c
    by_cases e : q = s
    ·subst e
     exact List.mem_map.2 ⟨t, (List.mem_erase_of_ne (fun e => hst e.symm)).2 (hl t), Quotient.sound (St.symm hSt)⟩
    ·exact List.mem_map.2 ⟨q, (List.mem_erase_of_ne e).2 (hl q), rfl⟩
   have hPq : Prim (qδ δ1) := by
    obtain ⟨K, hK⟩ := hR1.prim hP
    refine ⟨K, fun c d => ?_⟩
    obtain ⟨q, rfl⟩ := Quotient.exists_rep c
    obtain ⟨r, rfl⟩ := Quotient.exists_rep d
    obtain ⟨w, hw, e⟩ := hK q r
    exact ⟨w, hw, by rw [qδ_run, e]⟩
   obtain ⟨B, hRB, hSB⟩ := ih _ l2 hl2 hn2 hlen2 (qδ δ1) hPq
   obtain ⟨δ', hR', hS'⟩ := lift_sync l hl δ1 B hRB hSB
   exact ⟨δ', hR1.trans hR', hS'⟩
  ·exact ⟨δ, fun s => ⟨id, id, fun _ => rfl, fun _ => rfl, fun _ => rfl⟩, [], fun s t => Classical.byContradiction fun h => h2 ⟨_, _, h⟩⟩
end Go.Proofs.Ytjgdalhdiohclaa.RoadZ
end
