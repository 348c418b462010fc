/- The law TopHome holds: any automaton has a reset word of at most (n^3 - n) / 6 letters that is found, and with whatever letters before it and after it it leads all states to one, or there are pairs of states that are found and that no word merges; no bound on the arguments beyond their types'. (text 7 of 26) -/
import Derived.Test.YtogoppejcmaocaaZTopHomef
import Derived.ProofKit
import Derived.OpenShut
import Derived.ChangeOld
import Derived.ChangeSlices
import Derived.Deep.Matrix
import Derived.Test.YtogoppejcmaocaaZTopHomed
/-! Part XOpen -/
section
namespace Go.Proofs.Ytogoppejcmaocaa.Q
open Go.RowKit Go.Proofs.YtogoppejcmaocaaW.PrintWords Go.Proofs.YtogoppejcmaocaaW.PrintLast Go.Proofs.YtogoppejcmaocaaW.PrintMore
open Go.ChangeShapes Go.WideShapes
set_option linter.unusedVariables false
set_option linter.unusedSimpArgs false

/-- The numbers of a list are int's. -/
def IntsOk (l : List Int) : Prop := l.length ≤ 9223372036854775807 ∧ ∀ z ∈ l, -9223372036854775808 ≤ z ∧ z ≤ 9223372036854775807
def RowsOk (rows : List (List Int)) : Prop := rows.length ≤ 9223372036854775807 ∧ ∀ row ∈ rows, IntsOk row
theorem int_wf {z : Int} (h : (Lit.int .i64 z).wf = true) : -9223372036854775808 ≤ z ∧ z ≤ 9223372036854775807 := by
  have hmin : IntKind.i64.min = -9223372036854775808 := rfl
  have hmax : IntKind.i64.max = 9223372036854775807 := rfl
  simp only [Lit.wf, Bool.and_eq_true, decide_eq_true_eq] at h
  omega

section
variable {H : Type} {enc : TypeId × Value → H} {P : Program} {w : World} {held : Bool}
theorem cints {A : Addr} {n : Nat} {zs : List Int} (hz : n ≤ zs.length) (hn : n ≤ 9223372036854775807) (hc : ∀ i, i < n → w.cell? (A.add i) = some (.int .i64 (zs.getD i 0))) :
    Kd.C (Kd.int .i64) w (some A) (zs.take n).length (zs.take n) := by
  have hl : (zs.take n).length = n := by rw [List.length_take]; omega
  refine ⟨rfl, by omega, fun h => ⟨A, rfl, fun j p hj => ⟨[.int .i64 p], rfl, rfl, fun i u hu => ?_⟩⟩⟩
  cases i with
  | zero =>
    simp only [List.getElem?_cons_zero, Option.some.injEq] at hu
    subst hu
    have hj' : j < n := by have := (List.getElem?_eq_some_iff.1 hj).1; omega
    have := hc j hj'
    rw [List.getElem?_take_of_lt hj'] at hj
    simp only [Kd.int, Kd.scalar, Nat.mul_one, Nat.add_zero]
    rw [this, List.getD_eq_getElem?_getD, hj]
    rfl
  | succ i => simp at hu
theorem open_intsC {t e : TypeId} {a : Option Addr} {n c : Nat} {d : DataW H} {ps : List MemPlace} (ht : P.underlying t = some (.slice e)) (he : P.underlying e = some (.int .i64)) (hc : P.cellsOf e = 1)
    (h : DataW.Trod enc P w 0 (fun _ => true) held t (.slice a n c) d ps) : ∃ l : List Int, n = l.length ∧ l.length ≤ c ∧ Kd.C (Kd.int .i64) w a l.length l ∧ IntsOk l := by
  obtain ⟨fuel, hf⟩ := h
  rcases open_ints ht he hc hf with ⟨hcs, _⟩ | ⟨x, l, cc, zs, hcs, _, hl, hm, hz, _, hcell, hwz⟩
  · simp [Value.cells] at hcs
    obtain ⟨rfl, rfl, rfl⟩ := hcs
    exact ⟨[], rfl, Nat.le_refl _, Kd.C_nil _ _, by simp [IntsOk], by simp⟩
  · simp [Value.cells] at hcs
    obtain ⟨rfl, rfl, rfl⟩ := hcs
    simp only [if_true] at hz
    unfold maxLen at hm
    have hl2 : (zs.take n).length = n := by rw [List.length_take]; omega
    refine ⟨zs.take n, hl2.symm, by omega, cints (by omega) (by omega) (fun i hi => hcell i (by omega)), by omega, fun z hz => int_wf (hwz z (List.mem_of_mem_take hz))⟩
theorem open_rowsC {t e q : TypeId} {fuel : Nat} {cs : List Value} {x : DataW H × List MemPlace} (ht : P.underlying t = some (.slice e)) (he : P.underlying e = some (.slice q)) (hq : P.underlying q = some (.int .i64))
    (ce : P.cellsOf e = 1) (cq : P.cellsOf q = 1) (h : DataW.trod enc P w 0 (fun _ => true) held fuel t cs = some x) (h3 : q = 3) :
    ∃ (a : Option Addr) (c : Nat) (rows : List (List Int)), cs = [.slice a rows.length c] ∧ rows.length ≤ c ∧ Kd.C (Kd.slice 3 (Kd.int .i64)) w a rows.length rows ∧ RowsOk rows := by
  subst h3
  rcases Go.Deep.open_int_rows ht he hq ce cq h with ⟨rfl, _⟩ | ⟨a, len, cap, A, L, C, Z, rfl, _, hl, hm, _, hr⟩
  · exact ⟨none, 0, [], rfl, Nat.le_refl _, Kd.C_nil _ _, by simp [RowsOk], by simp⟩
  · unfold maxLen at hm
    have hlen : ((List.range len).map fun r => (Z r).take (L r)).length = len := by simp
    refine ⟨some a, cap, (List.range len).map fun r => (Z r).take (L r), by rw [hlen], by omega, ⟨rfl, by omega, fun _ => ⟨a, rfl, fun j p hj => ?_⟩⟩, by omega, ?_⟩
    · have hj' : j < len := by have := (List.getElem?_eq_some_iff.1 hj).1; omega
      rw [List.getElem?_map, List.getElem?_range hj'] at hj
      simp only [Option.map_some, Option.some.injEq] at hj
      subst hj
      obtain ⟨h1, h2, h3, h4, h5, h6, h7⟩ := hr j (by omega)
      unfold maxLen at h3
      have hl2 : ((Z j).take (L j)).length = L j := by rw [List.length_take]; omega
      refine ⟨[.slice (A j) (L j) (C j)], rfl, ⟨A j, C j, by rw [hl2], by omega, ?_⟩, fun i u hu => ?_⟩
      · cases hA : A j with
        | none =>
          have : (Z j).take (L j) = [] := List.eq_nil_of_length_eq_zero (by have := h6 hA; omega)
          rw [this]
          exact Kd.C_nil _ _
        | some a' => exact cints (by omega) (by omega) (fun i hi => (h7 a' hA).2 i (by omega))
      · cases i with
        | zero =>
          simp only [List.getElem?_cons_zero, Option.some.injEq] at hu
          subst hu
          simpa [Kd.slice] using h1
        | succ i => simp at hu
    · intro row hrow
      obtain ⟨r, hr2, rfl⟩ := List.mem_map.1 hrow
      have hr3 : r < len := by simpa using hr2
      obtain ⟨h1, h2, h3, h4, h5, h6, h7⟩ := hr r (by omega)
      unfold maxLen at h3
      exact ⟨by rw [List.length_take]; omega, fun z hz => int_wf (h5 z (List.mem_of_mem_take hz))⟩
/-- A struct of one field, rows of numbers, by value. -/
theorem open_autoC {t tr e : TypeId} {f0 : Field} {v : Value} {r : Reach} {b0 : Nat} {d : DataW H} {ps : List MemPlace} (hs : P.underlying t = some (.struct #[f0])) (hf0 : f0.type = tr) (ho : f0.offset = 0) (hC : P.cellsOf t = 1) (hC0 : P.cellsOf tr = 1) (ht : P.underlying tr = some (.slice e)) (he : P.underlying e = some (.slice 3)) (hq : P.underlying 3 = some (.int .i64))
    (ce : P.cellsOf e = 1) (cq : P.cellsOf 3 = 1) (hv : Value.okWide P w r b0 t v) (h : DataW.Trod enc P w 0 (fun _ => true) held t v d ps) :
    ∃ (a : Option Addr) (c : Nat) (rows : List (List Int)), v = .agg #[.slice a rows.length c] ∧ rows.length ≤ c ∧ Kd.C (Kd.slice 3 (Kd.int .i64)) w a rows.length rows ∧ RowsOk rows := by
  obtain ⟨cs, rfl, hsz⟩ := okWide_struct hs hv
  obtain ⟨fuel, hf⟩ := h
  obtain ⟨y0, n, _, _, h0⟩ := trod_struct1 hs hf
  subst hf0
  rw [ho, hC0] at h0
  obtain ⟨l⟩ := cs
  match l, hsz.trans hC with
  | [c0], _ =>
    simp only [Value.cells, List.drop_zero] at h0
    obtain ⟨a', c', rows, hcs, r1, r2, r3⟩ := open_rowsC ht he hq ce cq h0 rfl
    simp at hcs
    subst hcs
    exact ⟨_, _, rows, rfl, r1, r2, r3⟩
end
end Go.Proofs.Ytogoppejcmaocaa.Q
end
/-! Part MBase -/
section
namespace Go.Proofs.Ytogoppejcmaocaa.Q
open Go.RowKit Go.Proofs.YtogoppejcmaocaaW.PrintWords Go.Proofs.YtogoppejcmaocaaW.PrintLast Go.Proofs.YtogoppejcmaocaaW.PrintMore
set_option linter.unusedVariables false

/-! ### numbers and lists -/
theorem wrapS {i : Nat} (h : i + 1 ≤ 9223372036854775807) : wrap64 ((i : Int) + 1) = ((i + 1 : Nat) : Int) := by
  unfold wrap64; omega
theorem wrapI {z : Int} (h0 : -9223372036854775808 ≤ z) (h : z ≤ 9223372036854775807) : wrap64 z = z := by
  unfold wrap64; omega
theorem rdN (l : List Int) (i : Nat) : rd l (i : Int) = l.getD i 0 := rfl
theorem rdE {l : List Int} {i : Nat} (h : i < l.length) : rd l (i : Int) = l[i] := by
  rw [rdN, List.getD_eq_getElem?_getD, List.getElem?_eq_getElem h]; rfl
theorem rdLN (l : List (List Int)) (i : Nat) : rd_L1 l (i : Int) = l.getD i [] := rfl
theorem rdLE {l : List (List Int)} {i : Nat} (h : i < l.length) : rd_L1 l (i : Int) = l[i] := by
  rw [rdLN, List.getD_eq_getElem?_getD, List.getElem?_eq_getElem h]; rfl
theorem rdBE {l : List Bool} {i : Nat} (h : i < l.length) : rdOf false l (i : Int) = l[i] := by
  show l.getD i false = _
  rw [List.getD_eq_getElem?_getD, List.getElem?_eq_getElem h]; rfl
theorem rd_in {l : List Int} {n x : Int} (h : inB n l = true) (h0 : 0 ≤ x) (h1 : x < l.length) : 0 ≤ rd l x ∧ rd l x < n := by
  obtain ⟨i, rfl⟩ := Int.eq_ofNat_of_zero_le h0
  rw [rdE (by omega)]
  unfold inB at h
  rw [List.all_eq_true] at h
  simpa using h _ (List.getElem_mem (by omega : i < l.length))
theorem Ev.eq {α : Type} {g : Nat → Option α} {r r' : α} (h : Ev g r) (e : r = r') : Ev g r' := e ▸ h

/-! ### reference 1 -/
theorem Ev.next {α : Type} {g : Nat → Option α} {r : α} (h : Ev (fun k => g (k + 1)) r) : Ev g r := Ev.step (fun _ => rfl) h
theorem Ev.ret {α : Type} {r r' : α} (e : r = r') : Ev (fun _ => some r) r' := e ▸ Ev.now r
/-- A loop that asks a question of each number below n. -/
theorem Ev.every {α : Type} {g : Nat → Nat → Option α} {n : Nat} {yes no r : α} (p : Nat → Bool)
    (hy : (∀ i, i < n → p i = true) → r = yes) (hn : ∀ i, i < n → p i = false → r = no)
    (go : ∀ i, i < n → p i = true → Ev (fun k => g k (i + 1)) r → Ev (fun k => g k i) r)
    (stop : ∀ i, i < n → p i = false → Ev (fun k => g k i) no) (fin : Ev (fun k => g k n) yes) : Ev (fun k => g k 0) r := by
  have key : ∀ d i : Nat, i + d = n → (∀ j, j < i → p j = true) → Ev (fun k => g k i) r := by
    intro d
    induction d with
    | zero =>
      intro i hi hj
      obtain rfl : i = n := by omega
      rw [hy hj]; exact fin
    | succ d ih =>
      intro i hi hj
      cases hp : p i with
      | false => rw [hn i (by omega) hp]; exact stop i (by omega) hp
      | true =>
        refine go i (by omega) hp (ih (i + 1) (by omega) fun j h => ?_)
        rcases Nat.lt_or_ge j i with h4 | h4
        · exact hj j h4
        · obtain rfl : j = i := by omega
          exact hp
  exact key n 0 (by omega) fun j h => by omega
/-- What a valid automaton is. -/
structure VA (rows : List (List Int)) (n m : Nat) : Prop where
  len : rows.length = n
  n0 : 0 < n
  n60 : n ≤ 60
  m0 : 0 < m
  m6 : m ≤ 6
  row : ∀ s, s < n → (rd_L1 rows (s : Int)).length = m
  ent : ∀ s, s < n → inB n (rd_L1 rows (s : Int)) = true
theorem any_bad {l : List (List Int)} {p : List Int → Bool} : l.any p = false ↔ ∀ i, i < l.length → p (rd_L1 l (i : Int)) = false := by
  rw [List.any_eq_false]
  refine ⟨fun h i hi => by rw [rdLE hi]; simpa using h _ (List.getElem_mem hi), fun h x hx => ?_⟩
  obtain ⟨i, hi, rfl⟩ := List.getElem_of_mem hx
  have := h i hi
  rw [rdLE hi] at this
  simp [this]
theorem validB_iff {rows : List (List Int)} : validB rows = true ↔ VA rows rows.length (rd_L1 rows 0).length := by
  unfold validB kOf badB
  rw [Bool.and_eq_true, decide_eq_true_eq, Bool.not_eq_true', any_bad]
  constructor
  · rintro ⟨⟨h1, h2, h3, h4⟩, h5⟩
    have e := fun s (h : s < rows.length) => h5 s h
    simp only [Bool.or_eq_false_iff, decide_eq_false_iff_not, Bool.not_eq_false', Classical.not_not] at e
    exact ⟨rfl, by omega, by omega, by omega, by omega, fun s h => by have := (e s h).1; omega, fun s h => (e s h).2⟩
  · intro V
    have := V.n0; have := V.n60; have := V.m0; have := V.m6
    refine ⟨⟨by omega, by omega, by omega, by omega⟩, fun i hi => ?_⟩
    have := V.row i hi
    simp only [Bool.or_eq_false_iff, decide_eq_false_iff_not, Bool.not_eq_false', Classical.not_not]
    exact ⟨by omega, V.ent i hi⟩
theorem validB_of {rows : List (List Int)} {n m : Nat} (V : VA rows n m) : validB rows = true := by
  refine validB_iff.2 ?_
  have h1 := V.len; subst h1
  have h2 : (rd_L1 rows 0).length = m := V.row 0 V.n0
  rw [h2]; exact V
/-- The state to which a letter leads. -/
def nx (rows : List (List Int)) (s x : Nat) : Nat := (rd (rd_L1 rows (s : Int)) (x : Int)).toNat
theorem VA.nxE {rows : List (List Int)} {n m : Nat} (V : VA rows n m) {s x : Nat} (hs : s < n) (hx : x < m) : rd (rd_L1 rows (s : Int)) (x : Int) = ((nx rows s x : Nat) : Int) := by
  have := rd_in (V.ent s hs) (Int.natCast_nonneg x) (by have := V.row s hs; omega)
  unfold nx; omega
theorem VA.nxLt {rows : List (List Int)} {n m : Nat} (V : VA rows n m) {s x : Nat} (hs : s < n) (hx : x < m) : nx rows s x < n := by
  have := rd_in (V.ent s hs) (Int.natCast_nonneg x) (by have := V.row s hs; omega)
  unfold nx; omega
theorem VA.letters {rows : List (List Int)} {n m : Nat} (V : VA rows n m) : mizmazeref01_Letters.f rows = some (m : Int) := by
  unfold mizmazeref01_Letters.f
  have := V.n0; have := V.len; have := V.row 0 V.n0
  rw [if_pos (by omega)]; congr 1; exact congrArg _ this
end Go.Proofs.Ytogoppejcmaocaa.Q
end
/-! Part MGen -/
section
namespace Go.Proofs.Ytogoppejcmaocaa.Q
open Go.RowKit Go.Proofs.YtogoppejcmaocaaW.PrintWords Go.Proofs.YtogoppejcmaocaaW.PrintLast Go.Proofs.YtogoppejcmaocaaW.PrintMore
set_option linter.unusedVariables false

/-! ### words and where they lead, over a step function f -/
/-- The state to which a word leads. -/
def run (f : Nat → Nat → Nat) : Nat → List Nat → Nat
  | s, [] => s
  | s, x :: w => run f (f s x) w
theorem run_app (f : Nat → Nat → Nat) : ∀ (v w : List Nat) s, run f s (v ++ w) = run f (run f s v) w
  | [], _, _ => rfl
  | _ :: v, w, s => run_app f v w _
/-- A word over m letters. -/
def Wd (m : Nat) (w : List Nat) : Prop := ∀ x ∈ w, x < m
theorem Wd.nil (m : Nat) : Wd m [] := fun _ h => nomatch h
theorem Wd.app {m : Nat} {v w : List Nat} (h : Wd m v) (k : Wd m w) : Wd m (v ++ w) := fun x hx => (List.mem_append.1 hx).elim (h x) (k x)
theorem Wd.one {m x : Nat} (h : x < m) : Wd m [x] := fun y hy => by rw [List.mem_singleton.1 hy]; exact h
theorem Wd.left {m : Nat} {v w : List Nat} (h : Wd m (v ++ w)) : Wd m v := fun x hx => h x (List.mem_append.2 (Or.inl hx))
theorem Wd.right {m : Nat} {v w : List Nat} (h : Wd m (v ++ w)) : Wd m w := fun x hx => h x (List.mem_append.2 (Or.inr hx))
theorem VA.runLt {rows : List (List Int)} {n m : Nat} (V : VA rows n m) {s : Nat} (hs : s < n) {w : List Nat} (hw : Wd m w) : run (nx rows) s w < n := by
  induction w generalizing s with
  | nil => exact hs
  | cons x w ih => exact ih (V.nxLt hs (hw x List.mem_cons_self)) fun y hy => hw y (List.mem_cons_of_mem _ hy)
/-! ### the drawers -/
theorem nodup_le : ∀ (n : Nat) (l : List Nat), l.Nodup → (∀ x ∈ l, x < n) → l.length ≤ n
  | 0, l, _, h => by
    cases l with
    | nil => exact Nat.le_refl 0
    | cons x l => exact absurd (h x List.mem_cons_self) (Nat.not_lt_zero x)
  | n + 1, l, hd, h => by
    by_cases hn : n ∈ l
    · have h1 := nodup_le n (l.erase n) (hd.erase n) fun x hx => by
        have h2 := h x (List.mem_of_mem_erase hx)
        have h3 : x ≠ n := fun e => by subst e; exact hd.not_mem_erase hx
        omega
      rw [List.length_erase_of_mem hn] at h1; omega
    · have := nodup_le n l hd fun x hx => by
        have h2 := h x hx
        have h3 : x ≠ n := fun e => hn (e ▸ hx)
        omega
      omega
theorem drawers {n : Nat} (f : Nat → Nat) (h : ∀ i, i ≤ n → f i < n) : ∃ i j, i < j ∧ j ≤ n ∧ f i = f j := by
  refine Classical.byContradiction fun hc => ?_
  have hd : ((List.range (n + 1)).map f).Nodup := by
    rw [List.nodup_iff_pairwise_ne, List.pairwise_map]
    refine List.Pairwise.imp_of_mem (R := fun a b => a < b) ?_ List.pairwise_lt_range
    intro a b ha hb hab e
    exact hc ⟨a, b, hab, by have := List.mem_range.1 hb; omega, e⟩
  have := nodup_le n _ hd (by
    intro x hx
    obtain ⟨i, hi, rfl⟩ := List.mem_map.1 hx
    exact h i (by have := List.mem_range.1 hi; omega))
  rw [List.length_map, List.length_range] at this; omega
/-- Some word of fewer than n letters leads where a word leads. -/
theorem short_word {f : Nat → Nat → Nat} {n m : Nat} (hf : ∀ s x, s < n → x < m → f s x < n) : ∀ (d : Nat) (w : List Nat) (s : Nat), w.length ≤ d → s < n → Wd m w → ∃ v, Wd m v ∧ run f s v = run f s w ∧ v.length < n ∧ v.length ≤ w.length := by
  have rl : ∀ (w : List Nat) s, s < n → Wd m w → run f s w < n := by
    intro w
    induction w with
    | nil => intro s h _; exact h
    | cons x w ih => intro s h hw; exact ih _ (hf s x h (hw x List.mem_cons_self)) fun y hy => hw y (List.mem_cons_of_mem _ hy)
  intro d
  induction d with
  | zero => intro w s h hs hw; obtain rfl := List.eq_nil_of_length_eq_zero (by omega : w.length = 0); exact ⟨[], hw, rfl, by simp; omega, by simp⟩
  | succ d ih =>
    intro w s h hs hw
    by_cases hl : w.length < n
    · exact ⟨w, hw, rfl, hl, Nat.le_refl _⟩
    · have htk : ∀ i, Wd m (w.take i) := fun i x hx => hw x (List.mem_of_mem_take hx)
      have hdr : ∀ i, Wd m (w.drop i) := fun i x hx => hw x (List.mem_of_mem_drop hx)
      obtain ⟨i, j, hij, hj, e⟩ := drawers (n := n) (fun i => run f s (w.take i)) fun i _ => rl _ _ hs (htk i)
      obtain ⟨v, h1, h2, h3, h4⟩ := ih (w.take i ++ w.drop j) s (by rw [List.length_append, List.length_take, List.length_drop]; omega) hs ((htk i).app (hdr j))
      refine ⟨v, h1, h2.trans ?_, h3, by rw [List.length_append, List.length_take, List.length_drop] at h4; omega⟩
      rw [run_app, e, ← run_app, List.take_append_drop]

/-! ### lists of bools -/
theorem rdB_set {l : List Bool} {i j : Nat} {b : Bool} (hj : j < l.length) : rdOf false (l.set i b) (j : Int) = if i = j then b else rdOf false l (j : Int) := by
  rw [rdBE (by rw [List.length_set]; exact hj), rdBE hj, List.getElem_set]
theorem Wd.tail {m x : Nat} {w : List Nat} (h : Wd m (x :: w)) : Wd m w := fun y hy => h y (List.mem_cons_of_mem _ hy)
theorem Wd.head {m x : Nat} {w : List Nat} (h : Wd m (x :: w)) : x < m := h x List.mem_cons_self
theorem Wd.cons {m x : Nat} {w : List Nat} (hx : x < m) (h : Wd m w) : Wd m (x :: w) := fun y hy => by
  rcases List.mem_cons.1 hy with rfl | h1
  · exact hx
  · exact h y h1
end Go.Proofs.Ytogoppejcmaocaa.Q
end
/-! Part MCode -/
section
namespace Go.Proofs.Ytogoppejcmaocaa.Q
set_option linter.unusedVariables false
/-! ### words in order: the shorter one first, then by letters -/
/-- The number of a word in this order. -/
def code (m : Nat) (w : List Nat) : Nat := w.foldl (fun a x => m * a + (x + 1)) 0
theorem code_nil (m : Nat) : code m [] = 0 := rfl
theorem code_snoc (m : Nat) (w : List Nat) (x : Nat) : code m (w ++ [x]) = m * code m w + (x + 1) := by
  unfold code; rw [List.foldl_append]; rfl
theorem snoc_ind {P : List Nat → Prop} (h0 : P []) (h1 : ∀ v x, P v → P (v ++ [x])) (w : List Nat) : P w := by
  have : ∀ n (w : List Nat), w.length = n → P w := by
    intro n
    induction n with
    | zero => intro w h; rw [List.eq_nil_of_length_eq_zero h]; exact h0
    | succ n ih =>
      intro w h
      have hne : w ≠ [] := fun e => by subst e; simp at h
      rw [← List.dropLast_concat_getLast hne]
      exact h1 _ _ (ih _ (by rw [List.length_dropLast]; omega))
  exact this _ w rfl
theorem digits_inj {m a b x y : Nat} (hx : x < m) (hy : y < m) (h : m * a + (x + 1) = m * b + (y + 1)) : a = b ∧ x = y := by
  have key : ∀ a b x y : Nat, x < m → a < b → m * a + (x + 1) = m * b + (y + 1) → False := fun a b x y hx hab h => by
    have := Nat.mul_le_mul_left m (Nat.succ_le_of_lt hab)
    rw [Nat.mul_succ] at this; omega
  rcases Nat.lt_trichotomy a b with h1 | h1 | h1
  · exact (key a b x y hx h1 h).elim
  · subst h1; omega
  · exact (key b a y x hy h1 h.symm).elim
theorem code_inj {m : Nat} : ∀ (v w : List Nat), Wd m v → Wd m w → code m v = code m w → v = w := by
  intro v
  induction v using snoc_ind with
  | h0 =>
    intro w _ hw h
    induction w using snoc_ind with
    | h0 => rfl
    | h1 w x _ => rw [code_snoc, code_nil] at h; omega
  | h1 v x ih =>
    intro w hv hw h
    induction w using snoc_ind with
    | h0 => rw [code_snoc, code_nil] at h; omega
    | h1 w y _ =>
      rw [code_snoc, code_snoc] at h
      obtain ⟨h1, rfl⟩ := digits_inj (hv.right x (by simp)) (hw.right y (by simp)) h
      rw [ih w hv.left hw.left h1]
/-- The number of the first word of k letters. -/
def lo (m : Nat) : Nat → Nat
  | 0 => 0
  | k + 1 => m * lo m k + 1
theorem lo_pow (m : Nat) : ∀ k, lo m (k + 1) = lo m k + m ^ k
  | 0 => by simp [lo]
  | k + 1 => by
    have := lo_pow m k
    show m * lo m (k + 1) + 1 = (m * lo m k + 1) + m ^ (k + 1)
    rw [this, Nat.mul_add, Nat.pow_succ, Nat.mul_comm m (m ^ k)]; omega
theorem code_lo {m : Nat} (w : List Nat) (h : Wd m w) : lo m w.length ≤ code m w ∧ code m w + 1 ≤ lo m (w.length + 1) := by
  induction w using snoc_ind with
  | h0 => simp [lo, code_nil]
  | h1 w x ih =>
    obtain ⟨h1, h2⟩ := ih h.left
    have hx := h.right x (by simp)
    rw [code_snoc, List.length_append, List.length_singleton]
    have a := Nat.mul_le_mul_left m h1; have b := Nat.mul_le_mul_left m h2
    rw [Nat.mul_add] at b
    show m * lo m w.length + 1 ≤ _ ∧ _ ≤ m * lo m (w.length + 1) + 1
    omega
theorem lo_mono {m : Nat} (hm : 0 < m) {j k : Nat} (h : j ≤ k) : lo m j ≤ lo m k := by
  induction k with
  | zero => rw [Nat.le_zero.1 h]; exact Nat.le_refl _
  | succ k ih =>
    rcases Nat.lt_or_ge k j with h1 | h1
    · rw [Nat.le_antisymm h h1]; exact Nat.le_refl _
    · have := ih h1; rw [lo_pow]; omega
theorem code_len {m : Nat} (hm : 0 < m) {v w : List Nat} (hv : Wd m v) (hw : Wd m w) (h : v.length < w.length) : code m v < code m w := by
  have := code_lo v hv; have := code_lo w hw; have := lo_mono hm (j := v.length + 1) (k := w.length) h; omega
theorem code_cons (m x : Nat) (w : List Nat) : code m (x :: w) = (x + 1) * m ^ w.length + code m w := by
  induction w using snoc_ind with
  | h0 => simp [code]
  | h1 w y ih =>
    rw [← List.cons_append, code_snoc, ih, code_snoc, List.length_append, List.length_singleton, Nat.pow_succ, Nat.mul_add, Nat.mul_left_comm, Nat.mul_comm m (m ^ w.length)]; omega
theorem code_head {m x y : Nat} {v w : List Nat} (hv : Wd m v) (hw : Wd m w) (h : v.length = w.length) (hxy : x < y) : code m (x :: v) < code m (y :: w) := by
  have h1 := code_lo v hv; have h2 := code_lo w hw
  rw [code_cons, code_cons, h]
  rw [h, lo_pow] at h1
  have := Nat.mul_le_mul_right (m ^ w.length) (Nat.succ_le_of_lt hxy)
  rw [Nat.succ_eq_add_one, Nat.add_mul] at this
  rw [Nat.add_mul, Nat.add_mul]; omega
/-- The first shortest word that leads from s to t. -/
structure Least (f : Nat → Nat → Nat) (m s t : Nat) (w : List Nat) : Prop where
  wd : Wd m w
  ends : run f s w = t
  le : ∀ v, Wd m v → run f s v = t → code m w ≤ code m v
theorem Least.uniq {f : Nat → Nat → Nat} {m s t : Nat} {v w : List Nat} (h : Least f m s t v) (k : Least f m s t w) : v = w :=
  code_inj v w h.wd k.wd (Nat.le_antisymm (h.le w k.wd k.ends) (k.le v h.wd h.ends))
/-- A word as the program has it. -/
def toI (w : List Nat) : List Int := w.map fun (x : Nat) => (x : Int)
theorem toI_snoc (w : List Nat) (x : Nat) : toI (w ++ [x]) = toI w ++ [(x : Int)] := by simp [toI]
theorem toI_len (w : List Nat) : (toI w).length = w.length := by simp [toI]
end Go.Proofs.Ytogoppejcmaocaa.Q
end
/-! Part MPair -/
section
namespace Go.Proofs.Ytogoppejcmaocaa.Q
set_option linter.unusedVariables false
set_option linter.unusedSectionVars false
set_option linter.unusedSimpArgs false
/-! ### words that merge two states -/
/-- The shortest words that merge p and q have d letters. -/
def MDist (f : Nat → Nat → Nat) (m p q d : Nat) : Prop := (∃ w, Wd m w ∧ w.length = d ∧ run f p w = run f q w) ∧ ∀ w, Wd m w → run f p w = run f q w → d ≤ w.length
/-- Some word merges p and q. -/
def Mg (f : Nat → Nat → Nat) (m p q : Nat) : Prop := ∃ w, Wd m w ∧ run f p w = run f q w
section
variable {f : Nat → Nat → Nat} {m n p q d e x : Nat}
theorem MDist.uniq (h : MDist f m p q d) (k : MDist f m p q e) : d = e := by
  obtain ⟨⟨v, h1, h2, h3⟩, h4⟩ := h; obtain ⟨⟨w, k1, k2, k3⟩, k4⟩ := k
  have := h4 w k1 k3; have := k4 v h1 h3; omega
theorem MDist.mg (h : MDist f m p q d) : Mg f m p q := by obtain ⟨⟨v, h1, h2, h3⟩, h4⟩ := h; exact ⟨v, h1, h3⟩
theorem MDist.symm (h : MDist f m p q d) : MDist f m q p d := by
  obtain ⟨⟨v, h1, h2, h3⟩, h4⟩ := h
  exact ⟨⟨v, h1, h2, h3.symm⟩, fun w hw hr => h4 w hw hr.symm⟩
theorem Mg.symm (h : Mg f m p q) : Mg f m q p := by obtain ⟨v, h1, h2⟩ := h; exact ⟨v, h1, h2.symm⟩
theorem Mg.refl (f : Nat → Nat → Nat) (m p : Nat) : Mg f m p p := ⟨[], Wd.nil m, rfl⟩
theorem MDist.zero (f : Nat → Nat → Nat) (m p : Nat) : MDist f m p p 0 := ⟨⟨[], Wd.nil m, rfl, rfl⟩, fun _ _ _ => Nat.zero_le _⟩
theorem MDist.eq0 (h : MDist f m p q 0) : p = q := by
  obtain ⟨⟨v, h1, h2, h3⟩, h4⟩ := h
  rw [List.eq_nil_of_length_eq_zero h2] at h3; exact h3
theorem Mg.dist (h : Mg f m p q) : ∃ d, MDist f m p q d := by
  obtain ⟨w, h1, h2⟩ := h
  have key : ∀ k : Nat, (∃ w, Wd m w ∧ w.length ≤ k ∧ run f p w = run f q w) → ∃ d, MDist f m p q d := by
    intro k
    induction k with
    | zero => rintro ⟨w, a, b, c⟩; exact ⟨0, ⟨w, a, by omega, c⟩, fun _ _ _ => Nat.zero_le _⟩
    | succ k ih =>
      rintro ⟨w, a, b, c⟩
      by_cases hk : ∃ w, Wd m w ∧ w.length ≤ k ∧ run f p w = run f q w
      · exact ih hk
      · refine ⟨k + 1, ⟨w, a, ?_, c⟩, fun v hv hr => ?_⟩
        · rcases Nat.lt_or_ge w.length (k + 1) with h | h
          · exact absurd ⟨w, a, by omega, c⟩ hk
          · omega
        · rcases Nat.lt_or_ge v.length (k + 1) with h | h
          · exact absurd ⟨v, hv, by omega, hr⟩ hk
          · omega
  exact key w.length ⟨w, h1, Nat.le_refl _, h2⟩
theorem Mg.step (hx : x < m) (h : Mg f m (f p x) (f q x)) : Mg f m p q := by
  obtain ⟨w, h1, h2⟩ := h; exact ⟨x :: w, Wd.cons hx h1, h2⟩
/-- One letter nearer, and nothing nearer than that. -/
theorem MDist.pred (h : MDist f m p q (d + 1)) : p ≠ q ∧ (∃ x, x < m ∧ MDist f m (f p x) (f q x) d) ∧ ∀ x e, x < m → MDist f m (f p x) (f q x) e → d ≤ e := by
  obtain ⟨⟨v, h1, h2, h3⟩, h4⟩ := h
  have low : ∀ x e, x < m → MDist f m (f p x) (f q x) e → d ≤ e := by
    rintro x e hx ⟨⟨w, k1, k2, k3⟩, _⟩
    have := h4 (x :: w) (Wd.cons hx k1) k3
    simp at this; omega
  refine ⟨?_, ?_, low⟩
  · rintro rfl; have := h4 [] (Wd.nil m) rfl; simp at this
  · cases v with
    | nil => simp at h2
    | cons y v =>
      refine ⟨y, h1.head, ⟨v, h1.tail, by simpa using h2, h3⟩, fun w hw hr => ?_⟩
      have := h4 (y :: w) (Wd.cons h1.head hw) hr
      simp at this; omega
theorem MDist.succ (hpq : p ≠ q) (hx : x < m) (h : MDist f m (f p x) (f q x) d) (hl : ∀ y e, y < m → MDist f m (f p y) (f q y) e → d ≤ e) : MDist f m p q (d + 1) := by
  obtain ⟨⟨v, h1, h2, h3⟩, h4⟩ := h
  refine ⟨⟨x :: v, Wd.cons hx h1, by simp [h2], h3⟩, fun w hw hr => ?_⟩
  cases w with
  | nil => exact absurd hr hpq
  | cons y w =>
    obtain ⟨e, he⟩ := Mg.dist ⟨w, hw.tail, hr⟩
    have h5 := hl y e hw.head he
    have h6 := he.2 w hw.tail hr
    simp; omega
/-- A pair as one state. -/
theorem pair_run (hn : 0 < n) (hf : ∀ s x, s < n → x < m → f s x < n) : ∀ (w : List Nat) (p q : Nat), p < n → q < n → Wd m w → run (fun s x => f (s / n) x * n + f (s % n) x) (p * n + q) w = run f p w * n + run f q w
  | [], _, _, _, _, _ => rfl
  | x :: w, p, q, hp, hq, hw => by
    have e1 : (p * n + q) / n = p := by rw [Nat.add_comm, Nat.add_mul_div_right _ _ hn, Nat.div_eq_of_lt hq, Nat.zero_add]
    have e2 : (p * n + q) % n = q := by rw [Nat.add_comm, Nat.add_mul_mod_self_right, Nat.mod_eq_of_lt hq]
    simp only [run, e1, e2]
    exact pair_run hn hf w _ _ (hf p x hp hw.head) (hf q x hq hw.head) hw.tail
theorem pair_lt {a b : Nat} (ha : a < n) (hb : b < n) : a * n + b < n * n := by
  have := Nat.mul_le_mul_right n (Nat.succ_le_of_lt ha)
  rw [Nat.succ_mul] at this; omega
theorem pair_eq {a b c d : Nat} (hb : b < n) (hd : d < n) (h : a * n + b = c * n + d) : a = c ∧ b = d := by
  have hn : 0 < n := by omega
  have e1 : (a * n + b) / n = a := by rw [Nat.add_comm, Nat.add_mul_div_right _ _ hn, Nat.div_eq_of_lt hb, Nat.zero_add]
  have e2 : (c * n + d) / n = c := by rw [Nat.add_comm, Nat.add_mul_div_right _ _ hn, Nat.div_eq_of_lt hd, Nat.zero_add]
  rw [h, e2] at e1
  refine ⟨e1.symm, ?_⟩
  subst e1; omega
theorem runLt (hf : ∀ s x, s < n → x < m → f s x < n) : ∀ (w : List Nat) (s : Nat), s < n → Wd m w → run f s w < n
  | [], _, hs, _ => hs
  | x :: w, s, hs, hw => runLt hf w _ (hf s x hs hw.head) hw.tail
theorem MDist.lt (hf : ∀ s x, s < n → x < m → f s x < n) (hp : p < n) (hq : q < n) (h : MDist f m p q d) : d < n * n := by
  obtain ⟨⟨v, h1, h2, h3⟩, h4⟩ := h
  have hn : 0 < n := by omega
  obtain ⟨z, z1, z2, z3, z4⟩ := short_word (f := fun s x => f (s / n) x * n + f (s % n) x) (n := n * n) (m := m) (fun s x hs hx => by
    have e1 : s / n < n := Nat.div_lt_of_lt_mul hs
    have e2 : s % n < n := Nat.mod_lt _ hn
    exact pair_lt (hf _ x e1 hx) (hf _ x e2 hx)) _ v (p * n + q) (Nat.le_refl _) (pair_lt hp hq) h1
  rw [pair_run hn hf z p q hp hq z1, pair_run hn hf v p q hp hq h1] at z2
  obtain ⟨e1, e2⟩ := pair_eq (runLt hf z q hq z1) (runLt hf v q hq h1) z2
  have := h4 z z1 (by rw [e1, e2, h3])
  omega
end
/-- The first shortest word that merges p and q. -/
structure LM (f : Nat → Nat → Nat) (m p q : Nat) (w : List Nat) : Prop where
  wd : Wd m w
  ends : run f p w = run f q w
  le : ∀ v, Wd m v → run f p v = run f q v → code m w ≤ code m v
section
variable {f : Nat → Nat → Nat} {m n p q d x : Nat} {v w : List Nat}
theorem LM.uniq (h : LM f m p q v) (k : LM f m p q w) : v = w := code_inj v w h.wd k.wd (Nat.le_antisymm (h.le w k.wd k.ends) (k.le v h.wd h.ends))
theorem LM.symm (h : LM f m p q w) : LM f m q p w := ⟨h.wd, h.ends.symm, fun v hv hr => h.le v hv hr.symm⟩
theorem LM.refl (f : Nat → Nat → Nat) (m p : Nat) : LM f m p p [] := ⟨Wd.nil m, rfl, fun v _ _ => Nat.zero_le _⟩
theorem LM.cons (hm : 0 < m) (hd : MDist f m p q (d + 1)) (hx : x < m) (hl : ∀ y, y < x → ¬ MDist f m (f p y) (f q y) d) (h : LM f m (f p x) (f q x) w) (hw : w.length = d) : LM f m p q (x :: w) := by
  obtain ⟨hne, _, hlow⟩ := hd.pred
  refine ⟨Wd.cons hx h.wd, h.ends, fun v hv hr => ?_⟩
  cases v with
  | nil => exact absurd hr hne
  | cons y v =>
    have hlen := hd.2 (y :: v) hv hr
    simp only [List.length_cons] at hlen
    rcases Nat.lt_or_ge (x :: w).length (y :: v).length with h1 | h1
    · exact Nat.le_of_lt (code_len hm (Wd.cons hx h.wd) hv h1)
    · simp only [List.length_cons] at h1
      have hvl : v.length = w.length := by omega
      have hyx : ¬ y < x := fun hlt => by
        refine hl y hlt ⟨⟨v, hv.tail, by omega, hr⟩, fun u hu hur => ?_⟩
        have := hd.2 (y :: u) (Wd.cons hv.head hu) hur
        simp at this; omega
      rcases Nat.lt_or_ge x y with h2 | h2
      · exact Nat.le_of_lt (code_head h.wd hv.tail (by omega) h2)
      · obtain rfl : x = y := by omega
        rw [code_cons, code_cons, hvl]
        have := h.le v hv.tail hr
        omega
theorem LM.dist (hm : 0 < m) (h : LM f m p q w) : MDist f m p q w.length := by
  refine ⟨⟨w, h.wd, rfl, h.ends⟩, fun v hv hr => ?_⟩
  rcases Nat.lt_or_ge v.length w.length with h1 | h1
  · have := code_len hm hv h.wd h1; have := h.le v hv hr; omega
  · exact h1
end
end Go.Proofs.Ytogoppejcmaocaa.Q
end
/-! Part MNear -/
section
namespace Go.Proofs.Ytogoppejcmaocaa.Q
set_option linter.unusedVariables false
set_option linter.unusedSectionVars false
set_option linter.unusedSimpArgs false
/-! ### the nearest pair of a set is near (Frankl; Pin) -/
/-- The numbers below n that are not in a list. -/
def compl (n : Nat) : List Nat → List Nat
  | [] => List.range n
  | s :: S => (compl n S).erase s
theorem compl_nodup (n : Nat) : ∀ S, (compl n S).Nodup
  | [] => List.nodup_range
  | s :: S => (compl_nodup n S).erase s
theorem compl_mem {n x : Nat} : ∀ {S : List Nat}, x ∈ compl n S ↔ x < n ∧ x ∉ S
  | [] => by simp [compl]
  | s :: S => by
    unfold compl
    rw [(compl_nodup n S).mem_erase_iff, compl_mem, List.mem_cons]
    constructor
    · rintro ⟨h1, h2, h3⟩; exact ⟨h2, fun h => h.elim h1 h3⟩
    · rintro ⟨h1, h2⟩; exact ⟨fun h => h2 (Or.inl h), h1, fun h => h2 (Or.inr h)⟩
theorem compl_len {n : Nat} : ∀ {S : List Nat}, S.Nodup → (∀ x ∈ S, x < n) → (compl n S).length + S.length = n
  | [], _, _ => by simp [compl]
  | s :: S, hn, hl => by
    rw [List.nodup_cons] at hn
    have ih := compl_len hn.2 fun x hx => hl x (List.mem_cons_of_mem _ hx)
    have hm : s ∈ compl n S := compl_mem.2 ⟨hl s List.mem_cons_self, hn.1⟩
    have hpos := List.length_pos_of_mem hm
    unfold compl
    rw [List.length_erase_of_mem hm, List.length_cons]; omega
theorem Wd.take {m : Nat} {w : List Nat} (h : Wd m w) (i : Nat) : Wd m (w.take i) := fun x hx => h x (List.mem_of_mem_take hx)
theorem Wd.drop {m : Nat} {w : List Nat} (h : Wd m w) (i : Nat) : Wd m (w.drop i) := fun x hx => h x (List.mem_of_mem_drop hx)
theorem near_bound {f : Nat → Nat → Nat} {m n : Nat} (hf : ∀ s x, s < n → x < m → f s x < n) {Q : List Nat} (hQ : Q.Nodup) (hlt : ∀ x ∈ Q, x < n) {p q d : Nat} (hp : p ∈ Q) (hq : q ∈ Q) (hd : MDist f m p q d)
    (hmin : ∀ a ∈ Q, ∀ b ∈ Q, a ≠ b → ∀ e, MDist f m a b e → d ≤ e) : 2 * d ≤ (n - Q.length + 1) * (n - Q.length + 2) := by
  obtain ⟨⟨w, hw, hwl, hwe⟩, hlow⟩ := hd
  have short : ∀ a ∈ Q, ∀ b ∈ Q, a ≠ b → ∀ v, Wd m v → run f a v = run f b v → d ≤ v.length := fun a ha b hb hab v hv hr => by
    obtain ⟨e, he⟩ := Mg.dist ⟨v, hv, hr⟩
    have h1 := hmin a ha b hb hab e he
    have h2 := he.2 v hv hr
    omega
  have hS : ∀ i, i < d → (Q.map fun s => run f s (w.take i)).Nodup := by
    intro i hi
    rw [List.nodup_iff_pairwise_ne, List.pairwise_map]
    refine List.Pairwise.imp_of_mem ?_ (List.nodup_iff_pairwise_ne.1 hQ)
    intro a b ha hb hab he
    have := short a ha b hb hab _ (hw.take i) he
    rw [List.length_take] at this; omega
  have hSl : ∀ i, ∀ x ∈ Q.map (fun s => run f s (w.take i)), x < n := by
    intro i x hx
    obtain ⟨s, hs, rfl⟩ := List.mem_map.1 hx
    exact runLt hf _ s (hlt s hs) (hw.take i)
  refine skew (L := d) (r := n - Q.length) (fun i => (compl n (Q.map fun s => run f s (w.take i))).map fun (x : Nat) => (x : Int)) (fun i => ((run f p (w.take i) : Nat) : Int)) (fun i => ((run f q (w.take i) : Nat) : Int)) ?_ ?_ ?_
  · intro i hi
    have := compl_len (hS i hi) (hSl i)
    rw [List.length_map] at this ⊢; omega
  · intro i hi
    have key : ∀ s ∈ Q, ((run f s (w.take i) : Nat) : Int) ∉ (compl n (Q.map fun s => run f s (w.take i))).map fun (x : Nat) => (x : Int) := by
      intro s hs hm
      obtain ⟨x, hx, he⟩ := List.mem_map.1 hm
      have e : x = run f s (w.take i) := by omega
      subst e
      exact (compl_mem.1 hx).2 (List.mem_map.2 ⟨s, hs, rfl⟩)
    exact ⟨key p hp, key q hq⟩
  · intro i j hi hj
    apply Classical.byContradiction
    intro hn
    rw [not_or] at hn
    have get : ∀ s ∈ Q, ((run f s (w.take i) : Nat) : Int) ∉ (compl n (Q.map fun s => run f s (w.take j))).map (fun (x : Nat) => (x : Int)) → ∃ t ∈ Q, run f t (w.take j) = run f s (w.take i) := by
      intro s hs hm
      have h1 : run f s (w.take i) < n := runLt hf _ s (hlt s hs) (hw.take i)
      have h2 : run f s (w.take i) ∉ compl n (Q.map fun s => run f s (w.take j)) := fun h => hm (List.mem_map.2 ⟨_, h, rfl⟩)
      have h3 : run f s (w.take i) ∈ Q.map fun s => run f s (w.take j) := by
        apply Classical.byContradiction
        intro h; exact h2 (compl_mem.2 ⟨h1, h⟩)
      obtain ⟨t, ht, he⟩ := List.mem_map.1 h3
      exact ⟨t, ht, he⟩
    obtain ⟨s, hs, hse⟩ := get p hp hn.1
    obtain ⟨t, ht, hte⟩ := get q hq hn.2
    have hne : run f p (w.take i) ≠ run f q (w.take i) := fun h => by
      have := hlow _ (hw.take i) h
      rw [List.length_take] at this; omega
    have hst : s ≠ t := fun h => by subst h; exact hne (hse.symm.trans hte)
    have hend : ∀ s0, run f (run f s0 (w.take i)) (w.drop i) = run f s0 w := fun s0 => by
      rw [← run_app, List.take_append_drop]
    have := short s hs t ht hst (w.take j ++ w.drop i) ((hw.take j).app (hw.drop i)) (by rw [run_app, run_app, hse, hte, hend, hend, hwe])
    rw [List.length_append, List.length_take, List.length_drop] at this
    omega
end Go.Proofs.Ytogoppejcmaocaa.Q
end
/-! Part MRun -/
section
namespace Go.Proofs.Ytogoppejcmaocaa.Q
open Go.RowKit Go.Proofs.YtogoppejcmaocaaW.PrintWords Go.Proofs.YtogoppejcmaocaaW.PrintLast Go.Proofs.YtogoppejcmaocaaW.PrintMore
set_option linter.unusedVariables false
theorem Least.short {rows : List (List Int)} {n m s t : Nat} {w : List Nat} (h : Least (nx rows) m s t w) (V : VA rows n m) (hs : s < n) : w.length < n := by
  obtain ⟨z, hz1, hz2, hz3, _⟩ := short_word (fun s x => V.nxLt) _ w s (Nat.le_refl _) hs h.wd
  rcases Nat.lt_or_ge z.length w.length with h1 | h1
  · have := code_len V.m0 hz1 h.wd h1
    have := h.le z hz1 (hz2.trans h.ends); omega
  · omega
theorem toI_rd {w : List Nat} {i : Nat} (h : i < w.length) : rd (toI w) (i : Int) = ((w[i] : Nat) : Int) := by
  rw [rdE (by rw [toI_len]; exact h)]; simp [toI]
theorem auto_lead {rows : List (List Int)} {n m s : Nat} (V : VA rows n m) (hs : s < n) {w : List Nat} (hw : Wd m w) (hl : w.length ≤ 1000000) : Ev (fun k => auto_Lead.f k rows (s : Int) (toI w)) ((run (nx rows) s w : Nat) : Int) := by
  have hlen := V.len
  have key : ∀ (d i u : Nat), i + d = w.length → u < n → Ev (fun k => auto_Lead.l0 k (u : Int) (toI w) (w.length : Int) (i : Int) rows) ((run (nx rows) u (w.drop i) : Nat) : Int) := by
    intro d
    induction d with
    | zero =>
      intro i u hi hu
      refine Ev.next ?_
      simp only [auto_Lead.l0, if_neg (by omega : ¬ (i : Int) < (w.length : Int))]
      rw [List.drop_eq_nil_of_le (by omega)]
      exact Ev.now _
    | succ d ih =>
      intro i u hi hu
      have hil : i < w.length := by omega
      have hx := hw w[i] (List.getElem_mem hil)
      have hrow := V.row u hu
      refine Ev.next ?_
      simp only [auto_Lead.l0, if_pos (by omega : (i : Int) < (w.length : Int)), if_pos (by omega : (0 : Int) ≤ (i : Int)), toI_len, if_pos (by omega : (0 : Int) ≤ (u : Int)), if_pos (by omega : (u : Int) < (rows.length : Int)), toI_rd hil, if_pos (by omega : (0 : Int) ≤ ((w[i] : Nat) : Int)), if_pos (by omega : ((w[i] : Nat) : Int) < ((rd_L1 rows (u : Int)).length : Int)), V.nxE hu hx, wrapS (by omega : i + 1 ≤ 9223372036854775807)]
      rw [List.drop_eq_getElem_cons hil]
      exact ih (i + 1) _ (by omega) (V.nxLt hu hx)
  unfold auto_Lead.f
  rw [toI_len]
  exact key w.length 0 s (by omega) hs
end Go.Proofs.Ytogoppejcmaocaa.Q
end
