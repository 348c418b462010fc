/- Eulerian, Circular and Bound return the documented results, or the documented errors, for any automaton. (text 9 of 23) -/
import Derived.Test.YtcpmmkennnjalaaZEulerKindsg
import Derived.ProofKit
import Derived.OpenShut
import Derived.ChangeOld
import Derived.ChangeSlices
import Derived.Deep.Matrix
import Derived.Test.YtcpmmkennnjalaaZEulerKindsh
import Derived.Test.YtcpmmkennnjalaaZEulerKindsd
section
namespace Go.Proofs.Ytcpmmkennnjalaa.Q
open Go.RowKit Go.Proofs.YtcpmmkennnjalaaW.PrintWords Go.Proofs.YtcpmmkennnjalaaW.PrintLast Go.Proofs.YtcpmmkennnjalaaW.PrintMore
open Go.ChangeShapes Go.WideShapes
set_option linter.unusedVariables false
set_option linter.unusedSimpArgs false

/-- The numbers of a list are int's. -/
def IntsOk (l : List Int) : Prop := l.length ≤ 9223372036854775807 ∧ ∀ z ∈ l, -9223372036854775808 ≤ z ∧ z ≤ 9223372036854775807
def RowsOk (rows : List (List Int)) : Prop := rows.length ≤ 9223372036854775807 ∧ ∀ row ∈ rows, IntsOk row
theorem int_wf {z : Int} (h : (Lit.int .i64 z).wf = true) : -9223372036854775808 ≤ z ∧ z ≤ 9223372036854775807 := by
  have hmin : IntKind.i64.min = -9223372036854775808 := rfl
  have hmax : IntKind.i64.max = 9223372036854775807 := rfl
  simp only [Lit.wf, Bool.and_eq_true, decide_eq_true_eq] at h
  omega

section
variable {H : Type} {enc : TypeId × Value → H} {P : Program} {w : World} {held : Bool}
theorem cints {A : Addr} {n : Nat} {zs : List Int} (hz : n ≤ zs.length) (hn : n ≤ 9223372036854775807) (hc : ∀ i, i < n → w.cell? (A.add i) = some (.int .i64 (zs.getD i 0))) :
    Kd.C (Kd.int .i64) w (some A) (zs.take n).length (zs.take n) := by
  have hl : (zs.take n).length = n := by rw [List.length_take]; omega
  refine ⟨rfl, by omega, fun h => ⟨A, rfl, fun j p hj => ⟨[.int .i64 p], rfl, rfl, fun i u hu => ?_⟩⟩⟩
  cases i with
  | zero =>
    simp only [List.getElem?_cons_zero, Option.some.injEq] at hu
    subst hu
    have hj' : j < n := by have := (List.getElem?_eq_some_iff.1 hj).1; omega
    have := hc j hj'
    rw [List.getElem?_take_of_lt hj'] at hj
    simp only [Kd.int, Kd.scalar, Nat.mul_one, Nat.add_zero]
    rw [this, List.getD_eq_getElem?_getD, hj]
    rfl
  | succ i => simp at hu
theorem open_rowsC {t e q : TypeId} {fuel : Nat} {cs : List Value} {x : DataW H × List MemPlace} (ht : P.underlying t = some (.slice e)) (he : P.underlying e = some (.slice q)) (hq : P.underlying q = some (.int .i64))
    (ce : P.cellsOf e = 1) (cq : P.cellsOf q = 1) (h : DataW.trod enc P w 0 (fun _ => true) held fuel t cs = some x) (h3 : q = 3) :
    ∃ (a : Option Addr) (c : Nat) (rows : List (List Int)), cs = [.slice a rows.length c] ∧ rows.length ≤ c ∧ Kd.C (Kd.slice 3 (Kd.int .i64)) w a rows.length rows ∧ RowsOk rows := by
  subst h3
  rcases Go.Deep.open_int_rows ht he hq ce cq h with ⟨rfl, _⟩ | ⟨a, len, cap, A, L, C, Z, rfl, _, hl, hm, _, hr⟩
  · exact ⟨none, 0, [], rfl, Nat.le_refl _, Kd.C_nil _ _, by simp [RowsOk], by simp⟩
  · unfold maxLen at hm
    have hlen : ((List.range len).map fun r => (Z r).take (L r)).length = len := by simp
    refine ⟨some a, cap, (List.range len).map fun r => (Z r).take (L r), by rw [hlen], by omega, ⟨rfl, by omega, fun _ => ⟨a, rfl, fun j p hj => ?_⟩⟩, by omega, ?_⟩
    · have hj' : j < len := by have := (List.getElem?_eq_some_iff.1 hj).1; omega
      rw [List.getElem?_map, List.getElem?_range hj'] at hj
      simp only [Option.map_some, Option.some.injEq] at hj
      subst hj
      obtain ⟨h1, h2, h3, h4, h5, h6, h7⟩ := hr j (by omega)
      unfold maxLen at h3
      have hl2 : ((Z j).take (L j)).length = L j := by rw [List.length_take]; omega
      refine ⟨[.slice (A j) (L j) (C j)], rfl, ⟨A j, C j, by rw [hl2], by omega, ?_⟩, fun i u hu => ?_⟩
      · cases hA : A j with
        | none =>
          have : (Z j).take (L j) = [] := List.eq_nil_of_length_eq_zero (by have := h6 hA; omega)
          rw [this]
          exact Kd.C_nil _ _
        | some a' => exact cints (by omega) (by omega) (fun i hi => (h7 a' hA).2 i (by omega))
      · cases i with
        | zero =>
          simp only [List.getElem?_cons_zero, Option.some.injEq] at hu
          subst hu
          simpa [Kd.slice] using h1
        | succ i => simp at hu
    · intro row hrow
      obtain ⟨r, hr2, rfl⟩ := List.mem_map.1 hrow
      have hr3 : r < len := by simpa using hr2
      obtain ⟨h1, h2, h3, h4, h5, h6, h7⟩ := hr r (by omega)
      unfold maxLen at h3
      exact ⟨by rw [List.length_take]; omega, fun z hz => int_wf (h5 z (List.mem_of_mem_take hz))⟩
/-- A struct of one field, rows of numbers, by value. -/
theorem open_autoC {t tr e : TypeId} {f0 : Field} {v : Value} {r : Reach} {b0 : Nat} {d : DataW H} {ps : List MemPlace} (hs : P.underlying t = some (.struct #[f0])) (hf0 : f0.type = tr) (ho : f0.offset = 0) (hC : P.cellsOf t = 1) (hC0 : P.cellsOf tr = 1) (ht : P.underlying tr = some (.slice e)) (he : P.underlying e = some (.slice 3)) (hq : P.underlying 3 = some (.int .i64))
    (ce : P.cellsOf e = 1) (cq : P.cellsOf 3 = 1) (hv : Value.okWide P w r b0 t v) (h : DataW.Trod enc P w 0 (fun _ => true) held t v d ps) :
    ∃ (a : Option Addr) (c : Nat) (rows : List (List Int)), v = .agg #[.slice a rows.length c] ∧ rows.length ≤ c ∧ Kd.C (Kd.slice 3 (Kd.int .i64)) w a rows.length rows ∧ RowsOk rows := by
  obtain ⟨cs, rfl, hsz⟩ := okWide_struct hs hv
  obtain ⟨fuel, hf⟩ := h
  obtain ⟨y0, n, _, _, h0⟩ := trod_struct1 hs hf
  subst hf0
  rw [ho, hC0] at h0
  obtain ⟨l⟩ := cs
  match l, hsz.trans hC with
  | [c0], _ =>
    simp only [Value.cells, List.drop_zero] at h0
    obtain ⟨a', c', rows, hcs, r1, r2, r3⟩ := open_rowsC ht he hq ce cq h0 rfl
    simp at hcs
    subst hcs
    exact ⟨_, _, rows, rfl, r1, r2, r3⟩
end
end Go.Proofs.Ytcpmmkennnjalaa.Q
end
section
namespace Go.Proofs.Ytcpmmkennnjalaa.Q
open Go.RowKit Go.Proofs.YtcpmmkennnjalaaW.PrintWords Go.Proofs.YtcpmmkennnjalaaW.PrintLast Go.Proofs.YtcpmmkennnjalaaW.PrintMore
set_option linter.unusedVariables false

/-! ### numbers and lists -/
theorem wrapS {i : Nat} (h : i + 1 ≤ 9223372036854775807) : wrap64 ((i : Int) + 1) = ((i + 1 : Nat) : Int) := by
  unfold wrap64; omega
theorem wrapI {z : Int} (h0 : -9223372036854775808 ≤ z) (h : z ≤ 9223372036854775807) : wrap64 z = z := by
  unfold wrap64; omega
theorem rdN (l : List Int) (i : Nat) : rd l (i : Int) = l.getD i 0 := rfl
theorem rdE {l : List Int} {i : Nat} (h : i < l.length) : rd l (i : Int) = l[i] := by
  rw [rdN, List.getD_eq_getElem?_getD, List.getElem?_eq_getElem h]; rfl
theorem rdLN (l : List (List Int)) (i : Nat) : rd_L1 l (i : Int) = l.getD i [] := rfl
theorem rdLE {l : List (List Int)} {i : Nat} (h : i < l.length) : rd_L1 l (i : Int) = l[i] := by
  rw [rdLN, List.getD_eq_getElem?_getD, List.getElem?_eq_getElem h]; rfl
theorem rd_in {l : List Int} {n x : Int} (h : inB n l = true) (h0 : 0 ≤ x) (h1 : x < l.length) : 0 ≤ rd l x ∧ rd l x < n := by
  obtain ⟨i, rfl⟩ := Int.eq_ofNat_of_zero_le h0
  rw [rdE (by omega)]
  unfold inB at h
  rw [List.all_eq_true] at h
  simpa using h _ (List.getElem_mem (by omega : i < l.length))
theorem Ev.eq {α : Type} {g : Nat → Option α} {r r' : α} (h : Ev g r) (e : r = r') : Ev g r' := e ▸ h

/-! ### reference 1 -/
theorem ref_below (l : List Int) (n : Int) (hl : l.length ≤ 9223372036854775806) : Ev (fun k => mizmazeref01_Below.f k l n) (inB n l) := by
  have key : ∀ d i : Nat, i + d = l.length → Ev (fun k => mizmazeref01_Below.l0 k l n (i : Int)) (inB n (l.drop i)) := by
    intro d
    induction d with
    | zero =>
      intro i hi
      refine Ev.step (f := fun _ => some true) (fun k => by rw [mizmazeref01_Below.l0, if_neg (by omega)]) ?_
      rw [List.drop_eq_nil_of_le (by omega)]
      exact Ev.now true
    | succ d ih =>
      intro i hi
      have hlt : i < l.length := by omega
      have e : inB n (l.drop i) = (decide (0 ≤ l[i] ∧ l[i] < n) && inB n (l.drop (i + 1))) := by
        rw [List.drop_eq_getElem_cons hlt]; rfl
      rw [e]
      by_cases h1 : l[i] < 0
      · refine Ev.step (f := fun _ => some false) (fun k => by rw [mizmazeref01_Below.l0, if_pos (by omega), if_pos (by omega), rdE hlt, if_pos h1]) ?_
        rw [decide_eq_false (by omega)]
        exact Ev.now false
      · by_cases h2 : l[i] ≥ n
        · refine Ev.step (f := fun _ => some false) (fun k => by rw [mizmazeref01_Below.l0, if_pos (by omega), if_pos (by omega), rdE hlt, if_neg h1, if_pos h2]) ?_
          rw [decide_eq_false (by omega)]
          exact Ev.now false
        · refine Ev.step (f := fun k => mizmazeref01_Below.l0 k l n ((i + 1 : Nat) : Int)) (fun k => by rw [mizmazeref01_Below.l0, if_pos (by omega), if_pos (by omega), rdE hlt, if_neg h1, if_neg h2, wrapS (by omega)]) ?_
          rw [decide_eq_true (by omega)]
          exact ih (i + 1) (by omega)
  exact key l.length 0 (by omega)
theorem Ev.next {α : Type} {g : Nat → Option α} {r : α} (h : Ev (fun k => g (k + 1)) r) : Ev g r := Ev.step (fun _ => rfl) h
theorem Ev.ret {α : Type} {r r' : α} (e : r = r') : Ev (fun _ => some r) r' := e ▸ Ev.now r
/-- A loop that asks a question of each number below n. -/
theorem Ev.every {α : Type} {g : Nat → Nat → Option α} {n : Nat} {yes no r : α} (p : Nat → Bool)
    (hy : (∀ i, i < n → p i = true) → r = yes) (hn : ∀ i, i < n → p i = false → r = no)
    (go : ∀ i, i < n → p i = true → Ev (fun k => g k (i + 1)) r → Ev (fun k => g k i) r)
    (stop : ∀ i, i < n → p i = false → Ev (fun k => g k i) no) (fin : Ev (fun k => g k n) yes) : Ev (fun k => g k 0) r := by
  have key : ∀ d i : Nat, i + d = n → (∀ j, j < i → p j = true) → Ev (fun k => g k i) r := by
    intro d
    induction d with
    | zero =>
      intro i hi hj
      obtain rfl : i = n := by omega
      rw [hy hj]; exact fin
    | succ d ih =>
      intro i hi hj
      cases hp : p i with
      | false => rw [hn i (by omega) hp]; exact stop i (by omega) hp
      | true =>
        refine go i (by omega) hp (ih (i + 1) (by omega) fun j h => ?_)
        rcases Nat.lt_or_ge j i with h4 | h4
        · exact hj j h4
        · obtain rfl : j = i := by omega
          exact hp
  exact key n 0 (by omega) fun j h => by omega
theorem inB_iff {n : Int} {l : List Int} : inB n l = true ↔ ∀ i (h : i < l.length), 0 ≤ l[i] ∧ l[i] < n := by
  unfold inB
  rw [List.all_eq_true]
  refine ⟨fun h i hi => by simpa using h _ (List.getElem_mem hi), fun h x hx => ?_⟩
  obtain ⟨i, hi, rfl⟩ := List.getElem_of_mem hx
  simpa using h i hi
/-- What a valid automaton is. -/
structure VA (rows : List (List Int)) (n m : Nat) : Prop where
  len : rows.length = n
  n0 : 0 < n
  n60 : n ≤ 60
  m0 : 0 < m
  m6 : m ≤ 6
  row : ∀ s, s < n → (rd_L1 rows (s : Int)).length = m
  ent : ∀ s, s < n → inB n (rd_L1 rows (s : Int)) = true
theorem any_bad {l : List (List Int)} {p : List Int → Bool} : l.any p = false ↔ ∀ i, i < l.length → p (rd_L1 l (i : Int)) = false := by
  rw [List.any_eq_false]
  refine ⟨fun h i hi => by rw [rdLE hi]; simpa using h _ (List.getElem_mem hi), fun h x hx => ?_⟩
  obtain ⟨i, hi, rfl⟩ := List.getElem_of_mem hx
  have := h i hi
  rw [rdLE hi] at this
  simp [this]
theorem validB_iff {rows : List (List Int)} : validB rows = true ↔ VA rows rows.length (rd_L1 rows 0).length := by
  unfold validB kOf badB
  rw [Bool.and_eq_true, decide_eq_true_eq, Bool.not_eq_true', any_bad]
  constructor
  · rintro ⟨⟨h1, h2, h3, h4⟩, h5⟩
    have e := fun s (h : s < rows.length) => h5 s h
    simp only [Bool.or_eq_false_iff, decide_eq_false_iff_not, Bool.not_eq_false', Classical.not_not] at e
    exact ⟨rfl, by omega, by omega, by omega, by omega, fun s h => by have := (e s h).1; omega, fun s h => (e s h).2⟩
  · intro V
    have := V.n0; have := V.n60; have := V.m0; have := V.m6
    refine ⟨⟨by omega, by omega, by omega, by omega⟩, fun i hi => ?_⟩
    have := V.row i hi
    simp only [Bool.or_eq_false_iff, decide_eq_false_iff_not, Bool.not_eq_false', Classical.not_not]
    exact ⟨by omega, V.ent i hi⟩
theorem validB_of {rows : List (List Int)} {n m : Nat} (V : VA rows n m) : validB rows = true := by
  refine validB_iff.2 ?_
  have h1 := V.len; subst h1
  have h2 : (rd_L1 rows 0).length = m := V.row 0 V.n0
  rw [h2]; exact V
theorem ref_valid (rows : List (List Int)) (ho : RowsOk rows) : Ev (fun k => mizmazeref01_Valid.f k rows) (validB rows) := by
  unfold mizmazeref01_Valid.f
  have big : Ev (fun k => mizmazeref01_Valid.j0 k (rows.length : Int) true rows) false := by
    refine Ev.next ?_; simp only [mizmazeref01_Valid.j0, if_true]; exact Ev.now _
  by_cases h1 : rows.length = 0
  · have e : validB rows = false := by rw [Bool.eq_false_iff]; intro h; have := (validB_iff.1 h).n0; omega
    rw [e]; simp only [if_pos (by omega : (rows.length : Int) = 0)]; exact big
  by_cases h2 : rows.length > 60
  · have e : validB rows = false := by rw [Bool.eq_false_iff]; intro h; have := (validB_iff.1 h).n60; omega
    rw [e]; simp only [if_neg (by omega : ¬ (rows.length : Int) = 0), if_pos (by omega : (rows.length : Int) > 60)]; exact big
  simp only [if_neg (by omega : ¬ (rows.length : Int) = 0), if_neg (by omega : ¬ (rows.length : Int) > 60), if_pos (by omega : 0 < (rows.length : Int))]
  by_cases h3 : (rd_L1 rows 0).length = 0
  · have e : validB rows = false := by rw [Bool.eq_false_iff]; intro h; have := (validB_iff.1 h).m0; omega
    rw [e]; simp only [if_pos (by omega : ((rd_L1 rows 0).length : Int) = 0)]; exact big
  simp only [if_neg (by omega : ¬ ((rd_L1 rows 0).length : Int) = 0)]
  by_cases h4 : (rd_L1 rows 0).length > 6
  · have e : validB rows = false := by rw [Bool.eq_false_iff]; intro h; have := (validB_iff.1 h).m6; omega
    rw [e]; simp only [decide_eq_true (by omega : ((rd_L1 rows 0).length : Int) > 6)]; exact big
  simp only [decide_eq_false (by omega : ¬ ((rd_L1 rows 0).length : Int) > 6)]
  refine Ev.next ?_
  simp only [mizmazeref01_Valid.j0, Bool.false_eq_true, if_false]
  refine @Ev.every Bool (fun k i => mizmazeref01_Valid.l0 k (rows.length : Int) (i : Int) rows) rows.length true false _ (fun i => !badB ((rd_L1 rows 0).length) rows.length (rd_L1 rows (i : Int))) ?_ ?_ ?_ ?_ ?_
  · intro h
    unfold validB kOf
    rw [decide_eq_true (by omega), Bool.true_and, Bool.not_eq_true', any_bad]; exact fun i hi => by simpa using h i hi
  · intro i hi hp
    rw [Bool.eq_false_iff]
    intro h; unfold validB kOf at h
    rw [Bool.and_eq_true, Bool.not_eq_true', any_bad] at h
    have := h.2 i hi
    rw [this] at hp; exact Bool.noConfusion hp
  · intro i hi hp hr
    simp only [badB, Bool.not_or, Bool.and_eq_true, Bool.not_eq_true', decide_eq_false_iff_not, Classical.not_not, Bool.not_not] at hp
    refine Ev.next ?_
    have hlen : (rd_L1 rows (i : Int)).length ≤ 9223372036854775806 := by have := hp.1; omega
    simp only [mizmazeref01_Valid.l0, if_pos (by omega : (i : Int) < (rows.length : Int)), if_pos (by omega : (0 : Int) ≤ (i : Int)), if_pos (by omega : 0 < (rows.length : Int)), if_pos hp.1, wrapS (by omega : i + 1 ≤ 9223372036854775807)]
    refine Ev.bind (ref_below _ _ hlen) ?_
    simp only [hp.2, if_true]
    exact hr
  · intro i hi hp
    refine Ev.next ?_
    simp only [mizmazeref01_Valid.l0, if_pos (by omega : (i : Int) < (rows.length : Int)), if_pos (by omega : (0 : Int) ≤ (i : Int)), if_pos (by omega : 0 < (rows.length : Int))]
    by_cases h5 : ((rd_L1 rows (i : Int)).length : Int) = ((rd_L1 rows 0).length : Int)
    · simp only [if_pos h5]
      refine Ev.bind (ref_below _ _ (by omega)) ?_
      have : inB rows.length (rd_L1 rows (i : Int)) = false := by
        simp only [badB, Bool.not_or, Bool.and_eq_false_iff, Bool.not_eq_false', decide_eq_true_eq, Bool.not_not] at hp
        rcases hp with h | h
        · exact absurd h5 h
        · exact h
      simp only [this, Bool.false_eq_true, if_false]
      exact Ev.now _
    · simp only [if_neg h5]; exact Ev.now _
  · refine Ev.next ?_
    simp only [mizmazeref01_Valid.l0, if_neg (by omega : ¬ (rows.length : Int) < (rows.length : Int))]
    exact Ev.now _
/-- The state to which a letter leads. -/
def nx (rows : List (List Int)) (s x : Nat) : Nat := (rd (rd_L1 rows (s : Int)) (x : Int)).toNat
theorem VA.nxE {rows : List (List Int)} {n m : Nat} (V : VA rows n m) {s x : Nat} (hs : s < n) (hx : x < m) : rd (rd_L1 rows (s : Int)) (x : Int) = ((nx rows s x : Nat) : Int) := by
  have := rd_in (V.ent s hs) (Int.natCast_nonneg x) (by have := V.row s hs; omega)
  unfold nx; omega
theorem VA.nxLt {rows : List (List Int)} {n m : Nat} (V : VA rows n m) {s x : Nat} (hs : s < n) (hx : x < m) : nx rows s x < n := by
  have := rd_in (V.ent s hs) (Int.natCast_nonneg x) (by have := V.row s hs; omega)
  unfold nx; omega
theorem VA.letters {rows : List (List Int)} {n m : Nat} (V : VA rows n m) : mizmazeref01_Letters.f rows = some (m : Int) := by
  unfold mizmazeref01_Letters.f
  have := V.n0; have := V.len; have := V.row 0 V.n0
  rw [if_pos (by omega)]; congr 1; exact congrArg _ this
end Go.Proofs.Ytcpmmkennnjalaa.Q
end
section
namespace Go.Proofs.Ytcpmmkennnjalaa.Pure
open Go.RowKit Go.Proofs.YtcpmmkennnjalaaW.PrintWords Go.Proofs.YtcpmmkennnjalaaW.PrintLast Go.Proofs.YtcpmmkennnjalaaW.PrintMore Go.Proofs.Ytcpmmkennnjalaa.Q
set_option linter.unusedVariables false
set_option linter.unusedSimpArgs false
/-- how often a state is entered -/
def inn (rows : List (List Int)) (t : Nat) : Nat := (rows.map fun r => r.count (t : Int)).sum
theorem times_ev (row : List Int) (t : Int) (hl : row.length ≤ 1000000) : Ev (fun k => mizmazeref05_Times.f k row t) ((row.count t : Nat) : Int) := by
  have key : ∀ d i c : Nat, i + d = row.length → c ≤ i → Ev (fun k => mizmazeref05_Times.l0 k row t (c : Int) (i : Int)) ((c + (row.drop i).count t : Nat) : Int) := by
    intro d
    induction d with
    | zero =>
      intro i c hi hc
      refine Ev.step (f := fun _ => some (c : Int)) (fun k => by rw [mizmazeref05_Times.l0, if_neg (by omega)]) ?_
      rw [List.drop_eq_nil_of_le (by omega), List.count_nil, Nat.add_zero]
      exact Ev.now _
    | succ d ih =>
      intro i c hi hc
      have hlt : i < row.length := by omega
      have e : row.drop i = row[i] :: row.drop (i + 1) := List.drop_eq_getElem_cons hlt
      by_cases h : row[i] = t
      · refine Ev.step (f := fun k => mizmazeref05_Times.l0 k row t ((c + 1 : Nat) : Int) ((i + 1 : Nat) : Int)) (fun k => by rw [mizmazeref05_Times.l0, if_pos (by omega), if_pos (by omega), rdE hlt, if_pos h, wrapS (by omega), wrapS (by omega)]) ?_
        refine Ev.eq (ih (i + 1) (c + 1) (by omega) (by omega)) ?_
        rw [e, h, List.count_cons_self]; omega
      · refine Ev.step (f := fun k => mizmazeref05_Times.l0 k row t (c : Int) ((i + 1 : Nat) : Int)) (fun k => by rw [mizmazeref05_Times.l0, if_pos (by omega), if_pos (by omega), rdE hlt, if_neg h, wrapS (by omega)]) ?_
        refine Ev.eq (ih (i + 1) c (by omega) (by omega)) ?_
        rw [e, List.count_cons_of_ne h]
  exact Ev.eq (key row.length 0 0 (by omega) (by omega)) (by rw [List.drop_zero, Nat.zero_add])
section
variable {rows : List (List Int)} {n m : Nat} (V : VA rows n m)
include V
theorem rowGet {s : Nat} (hs : s < n) : ∃ h : s < rows.length, rows[s] = rd_L1 rows (s : Int) ∧ rows[s].length = m := by
  have hl := V.len
  refine ⟨by omega, (rdLE (by omega)).symm, ?_⟩
  rw [← rdLE (l := rows) (by omega)]; exact V.row s hs
theorem ref_eul {b : Bool} (hb : b = true ↔ ∀ t, t < n → inn rows t = m) : Ev (fun k => mizmazeref06_Eulerian.f k rows) b := by
  have h60 := V.n60
  have hm6 := V.m6
  have hlen := V.len
  have inner : ∀ (t : Nat) (r : Bool), t < n → ∀ d s acc : Nat, s + d = n → acc ≤ 6 * s → Ev (fun k => if ((acc + ((rows.drop s).map fun r => r.count (t : Int)).sum : Nat) : Int) = (m : Int) then mizmazeref06_Eulerian.l0 k ((t + 1 : Nat) : Int) rows else some false) r → Ev (fun k => mizmazeref06_Eulerian.l1 k (t : Int) (acc : Int) (s : Int) rows) r := by
    intro t r ht d
    induction d with
    | zero =>
      intro s acc hs ha h
      refine Ev.step (f := fun k => if ((acc + ((rows.drop s).map fun r => r.count (t : Int)).sum : Nat) : Int) = (m : Int) then mizmazeref06_Eulerian.l0 k ((t + 1 : Nat) : Int) rows else some false) (fun k => ?_) h
      rw [mizmazeref06_Eulerian.l1, if_neg (by omega), V.letters, Option.bind_some, wrapS (by omega), List.drop_eq_nil_of_le (by omega), List.map_nil, List.sum_nil, Nat.add_zero]
      rfl
    | succ d ih =>
      intro s acc hs ha h
      obtain ⟨hlt, e1, e2⟩ := rowGet V (s := s) (by omega)
      have hc : rows[s].count (t : Int) ≤ 6 := Nat.le_trans (List.count_le_length) (by omega)
      refine Ev.next ?_
      have e3 : ∀ k, mizmazeref06_Eulerian.l1 (k + 1) (t : Int) (acc : Int) (s : Int) rows = (mizmazeref05_Times.f k (rd_L1 rows (s : Int)) (t : Int)).bind fun t346 => mizmazeref06_Eulerian.l1 k (t : Int) (wrap64 ((acc : Int) + t346)) (wrap64 ((s : Int) + 1)) rows := fun k => by
        rw [mizmazeref06_Eulerian.l1, if_pos (by omega), if_pos (by omega)]
      refine Ev.congr (fun k => e3 k) ?_
      rw [← e1]
      refine Ev.bind (times_ev _ _ (by omega)) ?_
      rw [wrapS (by omega), wrapI (by omega) (by omega), ← Int.natCast_add]
      refine ih (s + 1) (acc + rows[s].count (t : Int)) (by omega) (by omega) ?_
      rw [List.drop_eq_getElem_cons hlt, List.map_cons, List.sum_cons, ← Nat.add_assoc] at h
      exact h
  unfold mizmazeref06_Eulerian.f
  refine Ev.every (g := fun k i => mizmazeref06_Eulerian.l0 k (i : Int) rows) (n := n) (yes := true) (no := false) (fun t => inn rows t == m) (fun h => hb.2 fun t ht => by simpa using h t ht) (fun t ht h => ?_) (fun t ht hp h => ?_) (fun t ht hp => ?_) ?_
  · cases hbb : b with
    | false => rfl
    | true => have := hb.1 hbb t ht; simp [this] at h
  · refine Ev.step (f := fun k => mizmazeref06_Eulerian.l1 k (t : Int) ((0 : Nat) : Int) ((0 : Nat) : Int) rows) (fun k => by rw [mizmazeref06_Eulerian.l0, if_pos (by omega)]; rfl) ?_
    refine inner t _ ht n 0 0 (by omega) (by omega) ?_
    have e : inn rows t = m := by simpa using hp
    have e' : (rows.map fun r => r.count (t : Int)).sum = m := e
    simp only [List.drop_zero, Nat.zero_add, e', if_true]
    exact h
  · refine Ev.step (f := fun k => mizmazeref06_Eulerian.l1 k (t : Int) ((0 : Nat) : Int) ((0 : Nat) : Int) rows) (fun k => by rw [mizmazeref06_Eulerian.l0, if_pos (by omega)]; rfl) ?_
    refine inner t _ ht n 0 0 (by omega) (by omega) ?_
    have e : inn rows t ≠ m := by simpa using hp
    have e' : (rows.map fun r => r.count (t : Int)).sum ≠ m := e
    simp only [List.drop_zero, Nat.zero_add, if_neg (show ¬ (((rows.map fun r => r.count (t : Int)).sum : Nat) : Int) = (m : Int) by omega)]
    exact Ev.now _
  · refine Ev.step (f := fun _ => some true) (fun k => by rw [mizmazeref06_Eulerian.l0, if_neg (by omega)]) ?_
    exact Ev.now _
end
/-! ### the program's count -/
theorem incR_get : ∀ (row c : List Int) (B : Nat), (∀ x ∈ row, 0 ≤ x ∧ x < (c.length : Int)) → (∀ t : Nat, 0 ≤ rd c (t : Int) ∧ rd c (t : Int) ≤ (B : Int)) → B + row.length ≤ 1000000 → ∀ t : Nat, rd (incR c row) (t : Int) = rd c (t : Int) + ((row.count (t : Int) : Nat) : Int)
  | [], c, B, _, _, _, t => by simp [incR]
  | x :: row, c, B, hx, hc, hB, t => by
    obtain ⟨h0, h1⟩ := hx x List.mem_cons_self
    obtain ⟨i, rfl⟩ := Int.eq_ofNat_of_zero_le h0
    have hi : i < c.length := by omega
    have hci := hc i
    simp only [List.length_cons] at hB
    have hw : wrap64 (rd c (i : Int) + 1) = rd c (i : Int) + 1 := wrapI (by omega) (by omega)
    have hset : ∀ u : Nat, rd (c.set i (rd c (i : Int) + 1)) (u : Int) = if u = i then rd c (i : Int) + 1 else rd c (u : Int) := fun u => by
      rw [rdN, rdN, rdN, List.getD_eq_getElem?_getD, List.getElem?_set, List.getD_eq_getElem?_getD]
      by_cases hu : i = u
      · subst hu; rw [if_pos rfl, if_pos hi, if_pos rfl, Option.getD_some]
      · rw [if_neg hu, if_neg (fun h => hu h.symm), List.getD_eq_getElem?_getD]
    have ih := incR_get row (c.set i (rd c (i : Int) + 1)) (B + 1) (fun y hy => by rw [List.length_set]; exact hx y (List.mem_cons_of_mem _ hy)) (fun u => by
      rw [hset u]
      have := hc u
      split <;> omega) (by omega) t
    show rd (incR (c.set ((i : Int).toNat) (wrap64 (rd c (i : Int) + 1))) row) (t : Int) = _
    rw [Int.toNat_natCast, hw, ih, hset t]
    by_cases ht : t = i
    · subst ht; rw [if_pos rfl, List.count_cons_self]; omega
    · rw [if_neg ht, List.count_cons_of_ne (by omega)]
theorem incL_get {n : Nat} : ∀ (rows : List (List Int)) (c : List Int) (B : Nat), c.length = n → (∀ r ∈ rows, r.length ≤ 6 ∧ ∀ x ∈ r, 0 ≤ x ∧ x < (n : Int)) → (∀ t : Nat, 0 ≤ rd c (t : Int) ∧ rd c (t : Int) ≤ (B : Int)) → B + 6 * rows.length ≤ 1000000 → ∀ t : Nat, rd (rows.foldl incR c) (t : Int) = rd c (t : Int) + ((inn rows t : Nat) : Int)
  | [], c, B, _, _, _, _, t => by simp [inn]
  | r :: rows, c, B, hl, hr, hc, hB, t => by
    obtain ⟨h1, h2⟩ := hr r List.mem_cons_self
    simp only [List.length_cons] at hB
    have e := incR_get r c B (fun x hx => by rw [hl]; exact h2 x hx) hc (by omega)
    have ih := incL_get rows (incR c r) (B + 6) (by rw [incR_len, hl]) (fun r' hr' => hr r' (List.mem_cons_of_mem _ hr')) (fun u => by
      have h3 := hc u
      have h4 : r.count (u : Int) ≤ r.length := List.count_le_length
      rw [e u]; omega) (by omega) t
    show rd (rows.foldl incR (incR c r)) (t : Int) = _
    rw [ih, e t]
    unfold inn
    rw [List.map_cons, List.sum_cons]; omega
section
variable {rows : List (List Int)} {n m : Nat} (V : VA rows n m)
include V
theorem eul_val {b : Bool} (hb : b = true ↔ ∀ t, t < n → inn rows t = m) : euler_eulerian.f rows = some b := by
  have hlen := V.len
  unfold euler_eulerian.f
  rw [if_pos (validB_of V)]
  have hL : auto_Letters.f rows = some (m : Int) := by
    have h : (rd_L1 rows 0).length = m := V.row 0 V.n0
    unfold auto_Letters.f
    have h0 := V.n0
    rw [if_pos (by omega), h]
  rw [hL, Option.bind_some, hlen]
  have hin : ∀ r ∈ rows, r.length ≤ 6 ∧ ∀ x ∈ r, 0 ≤ x ∧ x < (n : Int) := fun r hr => by
    obtain ⟨s, hs, rfl⟩ := List.getElem_of_mem hr
    have hm6 := V.m6
    have h1 := V.row s (by omega)
    have h2 := V.ent s (by omega)
    rw [rdLE hs] at h1 h2
    refine ⟨by omega, fun x hx => ?_⟩
    obtain ⟨i, hi, rfl⟩ := List.getElem_of_mem hx
    exact inB_iff.1 h2 i hi
  have hz : ∀ t : Nat, rd (List.replicate n (0 : Int)) (t : Int) = 0 := fun t => by
    rw [rdN, List.getD_eq_getElem?_getD, List.getElem?_replicate]
    split <;> rfl
  have h60 := V.n60
  have key := incL_get (n := n) rows (List.replicate n 0) 0 List.length_replicate hin (fun t => by rw [hz t]; omega) (by omega)
  have hcl : (incL n rows).length = n := incL_len n rows
  have hany : (incL n rows).any (fun x => x != (m : Int)) = !b := by
    rw [Bool.eq_iff_iff, List.any_eq_true, Bool.not_eq_true']
    constructor
    · rintro ⟨x, hx, hne⟩
      obtain ⟨t, ht, rfl⟩ := List.getElem_of_mem hx
      refine Bool.eq_false_iff.2 fun h => ?_
      have e := key t
      rw [hz t, hb.1 h t (by omega)] at e
      have e2 : rd (incL n rows) (t : Int) = (incL n rows)[t] := rdE ht
      have e3 : rd (incL n rows) (t : Int) = 0 + (m : Int) := e
      rw [← e2, e3] at hne
      simp at hne
    · intro h
      have hnot : ¬ ∀ t, t < n → inn rows t = m := fun h2 => by rw [hb.2 h2] at h; cases h
      obtain ⟨t, ht⟩ := Classical.not_forall.1 hnot
      obtain ⟨ht1, ht2⟩ := Classical.not_imp.1 ht
      have e : rd (incL n rows) (t : Int) = 0 + ((inn rows t : Nat) : Int) := by have := key t; rw [hz t] at this; exact this
      have e2 : rd (incL n rows) (t : Int) = (incL n rows)[t]'(by omega) := rdE (by omega)
      refine ⟨(incL n rows)[t]'(by omega), List.getElem_mem _, ?_⟩
      rw [← e2, e]
      simp; omega
  rw [hany, Bool.not_not]
end
end Go.Proofs.Ytcpmmkennnjalaa.Pure
end
section
namespace Go.Proofs.Ytcpmmkennnjalaa.Q
open Go.RowKit Go.Proofs.YtcpmmkennnjalaaW.PrintWords Go.Proofs.YtcpmmkennnjalaaW.PrintLast Go.Proofs.YtcpmmkennnjalaaW.PrintMore
set_option linter.unusedVariables false
theorem ref_has (l : List Int) (z : Int) (hl : l.length ≤ 9223372036854775806) : Ev (fun k => mizmazeref01_Has.f k l z) (decide (z ∈ l)) := by
  unfold mizmazeref01_Has.f
  refine @Ev.every Bool (fun k i => mizmazeref01_Has.l0 k l z (i : Int)) l.length false true _ (fun i => decide (rd l (i : Int) ≠ z)) ?_ ?_ ?_ ?_ ?_
  · intro h
    rw [decide_eq_false_iff_not]
    intro hz
    obtain ⟨i, hi, e⟩ := List.getElem_of_mem hz
    have := of_decide_eq_true (h i hi)
    rw [rdE hi] at this; exact this e
  · intro i hi h
    have h2 := of_decide_eq_false h
    rw [rdE hi] at h2
    rw [decide_eq_true_eq, ← Classical.not_not.1 h2]; exact List.getElem_mem hi
  · intro i hi hp hr
    refine Ev.next ?_
    simp only [mizmazeref01_Has.l0, if_pos (by omega : (i : Int) < (l.length : Int)), if_pos (by omega : (0 : Int) ≤ (i : Int)), if_neg (of_decide_eq_true hp), wrapS (by omega : i + 1 ≤ 9223372036854775807)]
    exact hr
  · intro i hi hp
    refine Ev.next ?_
    simp only [mizmazeref01_Has.l0, if_pos (by omega : (i : Int) < (l.length : Int)), if_pos (by omega : (0 : Int) ≤ (i : Int)), if_pos (Classical.not_not.1 (of_decide_eq_false hp))]
    exact Ev.now _
  · refine Ev.next ?_
    simp only [mizmazeref01_Has.l0, if_neg (by omega : ¬ (l.length : Int) < (l.length : Int))]
    exact Ev.now _
end Go.Proofs.Ytcpmmkennnjalaa.Q
end
section
namespace Go.Proofs.Ytcpmmkennnjalaa.Q
open Go.RowKit Go.Proofs.YtcpmmkennnjalaaW.PrintWords Go.Proofs.YtcpmmkennnjalaaW.PrintLast Go.Proofs.YtcpmmkennnjalaaW.PrintMore
set_option linter.unusedVariables false

/-! ### words and where they lead, over a step function f -/
/-- The state to which a word leads. -/
def run (f : Nat → Nat → Nat) : Nat → List Nat → Nat
  | s, [] => s
  | s, x :: w => run f (f s x) w
theorem run_app (f : Nat → Nat → Nat) : ∀ (v w : List Nat) s, run f s (v ++ w) = run f (run f s v) w
  | [], _, _ => rfl
  | _ :: v, w, s => run_app f v w _
/-- A word over m letters. -/
def Wd (m : Nat) (w : List Nat) : Prop := ∀ x ∈ w, x < m
theorem Wd.nil (m : Nat) : Wd m [] := fun _ h => nomatch h
theorem Wd.app {m : Nat} {v w : List Nat} (h : Wd m v) (k : Wd m w) : Wd m (v ++ w) := fun x hx => (List.mem_append.1 hx).elim (h x) (k x)
theorem Wd.left {m : Nat} {v w : List Nat} (h : Wd m (v ++ w)) : Wd m v := fun x hx => h x (List.mem_append.2 (Or.inl hx))
theorem Wd.right {m : Nat} {v w : List Nat} (h : Wd m (v ++ w)) : Wd m w := fun x hx => h x (List.mem_append.2 (Or.inr hx))
/-! ### the drawers -/
theorem nodup_le : ∀ (n : Nat) (l : List Nat), l.Nodup → (∀ x ∈ l, x < n) → l.length ≤ n
  | 0, l, _, h => by
    cases l with
    | nil => exact Nat.le_refl 0
    | cons x l => exact absurd (h x List.mem_cons_self) (Nat.not_lt_zero x)
  | n + 1, l, hd, h => by
    by_cases hn : n ∈ l
    · have h1 := nodup_le n (l.erase n) (hd.erase n) fun x hx => by
        have h2 := h x (List.mem_of_mem_erase hx)
        have h3 : x ≠ n := fun e => by subst e; exact hd.not_mem_erase hx
        omega
      rw [List.length_erase_of_mem hn] at h1; omega
    · have := nodup_le n l hd fun x hx => by
        have h2 := h x hx
        have h3 : x ≠ n := fun e => hn (e ▸ hx)
        omega
      omega
theorem drawers {n : Nat} (f : Nat → Nat) (h : ∀ i, i ≤ n → f i < n) : ∃ i j, i < j ∧ j ≤ n ∧ f i = f j := by
  refine Classical.byContradiction fun hc => ?_
  have hd : ((List.range (n + 1)).map f).Nodup := by
    rw [List.nodup_iff_pairwise_ne, List.pairwise_map]
    refine List.Pairwise.imp_of_mem (R := fun a b => a < b) ?_ List.pairwise_lt_range
    intro a b ha hb hab e
    exact hc ⟨a, b, hab, by have := List.mem_range.1 hb; omega, e⟩
  have := nodup_le n _ hd (by
    intro x hx
    obtain ⟨i, hi, rfl⟩ := List.mem_map.1 hx
    exact h i (by have := List.mem_range.1 hi; omega))
  rw [List.length_map, List.length_range] at this; omega
/-- Some word of fewer than n letters leads where a word leads. -/
theorem short_word {f : Nat → Nat → Nat} {n m : Nat} (hf : ∀ s x, s < n → x < m → f s x < n) : ∀ (d : Nat) (w : List Nat) (s : Nat), w.length ≤ d → s < n → Wd m w → ∃ v, Wd m v ∧ run f s v = run f s w ∧ v.length < n ∧ v.length ≤ w.length := by
  have rl : ∀ (w : List Nat) s, s < n → Wd m w → run f s w < n := by
    intro w
    induction w with
    | nil => intro s h _; exact h
    | cons x w ih => intro s h hw; exact ih _ (hf s x h (hw x List.mem_cons_self)) fun y hy => hw y (List.mem_cons_of_mem _ hy)
  intro d
  induction d with
  | zero => intro w s h hs hw; obtain rfl := List.eq_nil_of_length_eq_zero (by omega : w.length = 0); exact ⟨[], hw, rfl, by simp; omega, by simp⟩
  | succ d ih =>
    intro w s h hs hw
    by_cases hl : w.length < n
    · exact ⟨w, hw, rfl, hl, Nat.le_refl _⟩
    · have htk : ∀ i, Wd m (w.take i) := fun i x hx => hw x (List.mem_of_mem_take hx)
      have hdr : ∀ i, Wd m (w.drop i) := fun i x hx => hw x (List.mem_of_mem_drop hx)
      obtain ⟨i, j, hij, hj, e⟩ := drawers (n := n) (fun i => run f s (w.take i)) fun i _ => rl _ _ hs (htk i)
      obtain ⟨v, h1, h2, h3, h4⟩ := ih (w.take i ++ w.drop j) s (by rw [List.length_append, List.length_take, List.length_drop]; omega) hs ((htk i).app (hdr j))
      refine ⟨v, h1, h2.trans ?_, h3, by rw [List.length_append, List.length_take, List.length_drop] at h4; omega⟩
      rw [run_app, e, ← run_app, List.take_append_drop]

/-! ### lists of bools -/
theorem Wd.tail {m x : Nat} {w : List Nat} (h : Wd m (x :: w)) : Wd m w := fun y hy => h y (List.mem_cons_of_mem _ hy)
theorem Wd.head {m x : Nat} {w : List Nat} (h : Wd m (x :: w)) : x < m := h x List.mem_cons_self
theorem Wd.cons {m x : Nat} {w : List Nat} (hx : x < m) (h : Wd m w) : Wd m (x :: w) := fun y hy => by
  rcases List.mem_cons.1 hy with rfl | h1
  · exact hx
  · exact h y h1
end Go.Proofs.Ytcpmmkennnjalaa.Q
end
section
namespace Go.Proofs.Ytcpmmkennnjalaa.Q
set_option linter.unusedVariables false
/-! ### words in order: the shorter one first, then by letters -/
/-- The number of a word in this order. -/
def code (m : Nat) (w : List Nat) : Nat := w.foldl (fun a x => m * a + (x + 1)) 0
theorem code_nil (m : Nat) : code m [] = 0 := rfl
theorem code_snoc (m : Nat) (w : List Nat) (x : Nat) : code m (w ++ [x]) = m * code m w + (x + 1) := by
  unfold code; rw [List.foldl_append]; rfl
theorem snoc_ind {P : List Nat → Prop} (h0 : P []) (h1 : ∀ v x, P v → P (v ++ [x])) (w : List Nat) : P w := by
  have : ∀ n (w : List Nat), w.length = n → P w := by
    intro n
    induction n with
    | zero => intro w h; rw [List.eq_nil_of_length_eq_zero h]; exact h0
    | succ n ih =>
      intro w h
      have hne : w ≠ [] := fun e => by subst e; simp at h
      rw [← List.dropLast_concat_getLast hne]
      exact h1 _ _ (ih _ (by rw [List.length_dropLast]; omega))
  exact this _ w rfl
/-- The number of the first word of k letters. -/
def lo (m : Nat) : Nat → Nat
  | 0 => 0
  | k + 1 => m * lo m k + 1
theorem lo_pow (m : Nat) : ∀ k, lo m (k + 1) = lo m k + m ^ k
  | 0 => by simp [lo]
  | k + 1 => by
    have := lo_pow m k
    show m * lo m (k + 1) + 1 = (m * lo m k + 1) + m ^ (k + 1)
    rw [this, Nat.mul_add, Nat.pow_succ, Nat.mul_comm m (m ^ k)]; omega
theorem code_lo {m : Nat} (w : List Nat) (h : Wd m w) : lo m w.length ≤ code m w ∧ code m w + 1 ≤ lo m (w.length + 1) := by
  induction w using snoc_ind with
  | h0 => simp [lo, code_nil]
  | h1 w x ih =>
    obtain ⟨h1, h2⟩ := ih h.left
    have hx := h.right x (by simp)
    rw [code_snoc, List.length_append, List.length_singleton]
    have a := Nat.mul_le_mul_left m h1; have b := Nat.mul_le_mul_left m h2
    rw [Nat.mul_add] at b
    show m * lo m w.length + 1 ≤ _ ∧ _ ≤ m * lo m (w.length + 1) + 1
    omega
theorem lo_mono {m : Nat} (hm : 0 < m) {j k : Nat} (h : j ≤ k) : lo m j ≤ lo m k := by
  induction k with
  | zero => rw [Nat.le_zero.1 h]; exact Nat.le_refl _
  | succ k ih =>
    rcases Nat.lt_or_ge k j with h1 | h1
    · rw [Nat.le_antisymm h h1]; exact Nat.le_refl _
    · have := ih h1; rw [lo_pow]; omega
theorem code_len {m : Nat} (hm : 0 < m) {v w : List Nat} (hv : Wd m v) (hw : Wd m w) (h : v.length < w.length) : code m v < code m w := by
  have := code_lo v hv; have := code_lo w hw; have := lo_mono hm (j := v.length + 1) (k := w.length) h; omega
theorem code_cons (m x : Nat) (w : List Nat) : code m (x :: w) = (x + 1) * m ^ w.length + code m w := by
  induction w using snoc_ind with
  | h0 => simp [code]
  | h1 w y ih =>
    rw [← List.cons_append, code_snoc, ih, code_snoc, List.length_append, List.length_singleton, Nat.pow_succ, Nat.mul_add, Nat.mul_left_comm, Nat.mul_comm m (m ^ w.length)]; omega
theorem code_head {m x y : Nat} {v w : List Nat} (hv : Wd m v) (hw : Wd m w) (h : v.length = w.length) (hxy : x < y) : code m (x :: v) < code m (y :: w) := by
  have h1 := code_lo v hv; have h2 := code_lo w hw
  rw [code_cons, code_cons, h]
  rw [h, lo_pow] at h1
  have := Nat.mul_le_mul_right (m ^ w.length) (Nat.succ_le_of_lt hxy)
  rw [Nat.succ_eq_add_one, Nat.add_mul] at this
  rw [Nat.add_mul, Nat.add_mul]; omega
/-- The first shortest word that leads from s to t. -/
structure Least (f : Nat → Nat → Nat) (m s t : Nat) (w : List Nat) : Prop where
  wd : Wd m w
  ends : run f s w = t
  le : ∀ v, Wd m v → run f s v = t → code m w ≤ code m v
/-- A word as the program has it. -/
def toI (w : List Nat) : List Int := w.map fun (x : Nat) => (x : Int)
theorem toI_snoc (w : List Nat) (x : Nat) : toI (w ++ [x]) = toI w ++ [(x : Int)] := by simp [toI]
theorem toI_len (w : List Nat) : (toI w).length = w.length := by simp [toI]
end Go.Proofs.Ytcpmmkennnjalaa.Q
end
section
namespace Go.Proofs.Ytcpmmkennnjalaa.Pure
open Go.RowKit Go.Proofs.YtcpmmkennnjalaaW.PrintWords Go.Proofs.YtcpmmkennnjalaaW.PrintLast Go.Proofs.YtcpmmkennnjalaaW.PrintMore Go.Proofs.Ytcpmmkennnjalaa.Q
set_option linter.unusedVariables false
set_option linter.unusedSimpArgs false
/-- the states that one letter leads through, from the first one on -/
def wy (rows : List (List Int)) (x : Nat) : Nat → Nat
  | 0 => 0
  | i + 1 => nx rows (wy rows x i) x
/-- one cycle through all states -/
def Cyc (rows : List (List Int)) (n x : Nat) : Prop := wy rows x n = 0 ∧ ∀ j, 0 < j → j < n → wy rows x j ≠ 0
theorem mem_toIE {z : Nat} {l : List Nat} : (z : Int) ∈ toI l ↔ z ∈ l := by
  unfold toI
  rw [List.mem_map]
  constructor
  · rintro ⟨y, hy, e⟩
    obtain rfl : y = z := Int.ofNat.inj e
    exact hy
  · exact fun h => ⟨z, h, rfl⟩
theorem toI_appE (l l' : List Nat) : toI (l ++ l') = toI l ++ toI l' := by unfold toI; rw [List.map_append]
theorem wy_add {rows : List (List Int)} {x a b : Nat} (h : wy rows x a = wy rows x b) : ∀ d, wy rows x (a + d) = wy rows x (b + d)
  | 0 => h
  | d + 1 => by
    show nx rows (wy rows x (a + d)) x = nx rows (wy rows x (b + d)) x
    rw [wy_add h d]
section
variable {rows : List (List Int)} {n m : Nat} (V : VA rows n m)
include V
theorem wy_lt {x : Nat} (hx : x < m) : ∀ i, wy rows x i < n
  | 0 => V.n0
  | i + 1 => V.nxLt (wy_lt hx i) hx
theorem cycle_ev {x : Nat} (hx : x < m) {b : Bool} (hb : b = true ↔ Cyc rows n x) : Ev (fun k => euler_cycle.f k rows (x : Int)) b := by
  have h60 := V.n60
  have hlen := V.len
  have hn0 := V.n0
  have key : ∀ d i : Nat, i + d = n + 1 → 0 < i → (∀ j, 0 < j → j < i → wy rows x j ≠ 0) → Ev (fun k => euler_cycle.l0 k (x : Int) ((wy rows x i : Nat) : Int) (i : Int) rows) b := by
    intro d
    induction d with
    | zero =>
      intro i hi h0 hj
      have e : b = false := by
        cases hbb : b with
        | false => rfl
        | true => exact absurd (hb.1 hbb).1 (hj n hn0 (by omega))
      by_cases hz : wy rows x i = 0
      · refine Ev.step (f := fun _ => some ((i : Int) == (rows.length : Int))) (fun k => by rw [euler_cycle.l0, if_pos (by omega)]) (Ev.ret ?_)
        rw [e]; simp; omega
      · refine Ev.step (f := fun _ => some ((i : Int) == (rows.length : Int))) (fun k => by rw [euler_cycle.l0, if_neg (by omega), if_neg (by omega)]) (Ev.ret ?_)
        rw [e]; simp; omega
    | succ d ih =>
      intro i hi h0 hj
      by_cases hz : wy rows x i = 0
      · refine Ev.step (f := fun _ => some ((i : Int) == (rows.length : Int))) (fun k => by rw [euler_cycle.l0, if_pos (by omega)]) (Ev.ret ?_)
        rw [Bool.eq_iff_iff, hb, hlen, beq_iff_eq]
        constructor
        · intro h
          obtain rfl : i = n := by omega
          exact ⟨hz, hj⟩
        · intro h
          rcases Nat.lt_trichotomy i n with h1 | h1 | h1
          · exact absurd hz (h.2 i h0 h1)
          · omega
          · exact absurd h.1 (hj n hn0 h1)
      · have hw := wy_lt V hx i
        have hr := V.row _ hw
        refine Ev.step (f := fun k => euler_cycle.l0 k (x : Int) ((wy rows x (i + 1) : Nat) : Int) ((i + 1 : Nat) : Int) rows) (fun k => ?_) (ih (i + 1) (by omega) (by omega) fun j h1 h2 => ?_)
        · rw [euler_cycle.l0, if_neg (by omega), if_pos (by omega), if_pos (by omega), if_pos (by omega), if_pos (by omega), if_pos (by omega), V.nxE hw hx, wrapS (by omega)]
          rfl
        · rcases Nat.lt_or_ge j i with h3 | h3
          · exact hj j h1 h3
          · obtain rfl : j = i := by omega
            exact hz
  have hr : (rd_L1 rows (0 : Int)).length = m := V.row 0 hn0
  unfold euler_cycle.f
  have e0 : rd (rd_L1 rows (0 : Int)) (x : Int) = ((wy rows x 1 : Nat) : Int) := V.nxE hn0 hx
  simp only [if_pos (show (0 : Int) < (rows.length : Int) by omega), if_pos (show (0 : Int) ≤ (x : Int) by omega), if_pos (show (x : Int) < ((rd_L1 rows (0 : Int)).length : Int) by omega), e0]
  exact key n 1 (by omega) (by omega) fun j h1 h2 => by omega
/-- The first letter that is a cycle. -/
theorem circ_ev {p : Nat → Bool} (hp : ∀ x, x < m → (p x = true ↔ Cyc rows n x)) : ∃ r : Int × Bool, Ev (fun k => euler_circular.f k rows) r ∧ Ev (fun k => mizmazeref06_Circular.f k rows) r ∧ ((r.2 = false ∧ r.1 = 0 ∧ ∀ x, x < m → ¬ Cyc rows n x) ∨ (r.2 = true ∧ ∃ x : Nat, r.1 = (x : Int) ∧ x < m ∧ Cyc rows n x)) := by
  have hm6 := V.m6
  have hlen := V.len
  have h60 := V.n60
  have hn0 := V.n0
  have hL : auto_Letters.f rows = some (m : Int) := by
    have h : (rd_L1 rows 0).length = m := V.row 0 V.n0
    unfold auto_Letters.f
    rw [if_pos (by omega), h]
  -- the reference's way
  have way : ∀ (x : Nat) (r : Int × Bool), x < m → (Cyc rows n x → r = ((x : Int), true)) → (¬ Cyc rows n x → Ev (fun k => mizmazeref06_Circular.l0 k ((x + 1 : Nat) : Int) rows) r) → Ev (fun k => mizmazeref06_Circular.l1 k (x : Int) [] 0 rows) r := by
    intro x r hx h1 h2
    have key : ∀ d i : Nat, i + d = n + 1 → ((List.range i).map (wy rows x)).Nodup → Ev (fun k => mizmazeref06_Circular.l1 k (x : Int) (toI ((List.range i).map (wy rows x))) ((wy rows x i : Nat) : Int) rows) r := by
      intro d
      induction d with
      | zero =>
        intro i hi hnd
        have := nodup_le n _ hnd (fun t ht => by
          obtain ⟨j, _, rfl⟩ := List.mem_map.1 ht
          exact wy_lt V hx j)
        simp at this; omega
      | succ d ih =>
        intro i hi hnd
        have hll : (toI ((List.range i).map (wy rows x))).length = i := by rw [toI_len]; simp
        refine Ev.next ?_
        simp only [mizmazeref06_Circular.l1]
        refine Ev.bind (ref_has _ _ (by omega)) ?_
        have hmem : decide (((wy rows x i : Nat) : Int) ∈ toI ((List.range i).map (wy rows x))) = true ↔ ∃ j, j < i ∧ wy rows x j = wy rows x i := by
          rw [decide_eq_true_eq, mem_toIE]
          constructor
          · intro h
            obtain ⟨j, hj, e⟩ := List.mem_map.1 h
            exact ⟨j, List.mem_range.1 hj, e⟩
          · rintro ⟨j, hj, e⟩
            exact List.mem_map.2 ⟨j, List.mem_range.2 hj, e⟩
        by_cases hh : ∃ j, j < i ∧ wy rows x j = wy rows x i
        · rw [hmem.2 hh]
          simp only [if_true, hll, hlen]
          -- stops
          have inj : ∀ a b, a < i → b < i → wy rows x a = wy rows x b → a = b := fun a b ha hb he => by
            have h3 := (List.getElem_inj (h₀ := by simpa using ha) (h₁ := by simpa using hb) hnd).1 (by simpa using he)
            exact h3
          by_cases hc : wy rows x i = 0 ∧ i = n
          · obtain ⟨hc1, rfl⟩ := hc
            simp only [hc1, if_true]
            rw [h1 ⟨hc1, fun j hj1 hj2 he => by
              have := inj j 0 hj2 (by omega) he
              omega⟩]
            exact Ev.now _
          · have hnc : ¬ Cyc rows n x := by
              intro hcy
              obtain ⟨j, hj, e⟩ := hh
              rcases Nat.lt_or_ge n i with h3 | h3
              · have := inj n 0 h3 (by omega) hcy.1
                omega
              · have h4 := wy_add e (n - i)
                rw [show i + (n - i) = n from by omega, hcy.1] at h4
                rcases Nat.eq_zero_or_pos (j + (n - i)) with h5 | h5
                · have h6 : i = n := by omega
                  refine hc ⟨?_, h6⟩
                  rw [h6]; exact hcy.1
                · exact hcy.2 _ h5 (by omega) h4
            have hr := h2 hnc
            by_cases hz : wy rows x i = 0
            · have hin : i ≠ n := fun h => hc ⟨hz, h⟩
              simp only [hz, Int.natCast_zero, if_true, if_neg (show ¬ ((i : Nat) : Int) = (n : Int) by omega), wrapS (show x + 1 ≤ 9223372036854775807 by omega)]
              exact hr
            · simp only [if_neg (show ¬ ((wy rows x i : Nat) : Int) = 0 by omega), wrapS (show x + 1 ≤ 9223372036854775807 by omega)]
              exact hr
        · have hf : decide (((wy rows x i : Nat) : Int) ∈ toI ((List.range i).map (wy rows x))) = false := by
            rw [Bool.eq_false_iff]; exact fun h => hh (hmem.1 h)
          rw [hf]
          have hw := wy_lt V hx i
          have hr := V.row _ hw
          simp only [Bool.false_eq_true, if_false, hll, if_pos (show i < 17592186044416 by omega), if_pos (show (0 : Int) ≤ ((wy rows x i : Nat) : Int) by omega), if_pos (show ((wy rows x i : Nat) : Int) < (rows.length : Int) by omega), if_pos (show (0 : Int) ≤ (x : Int) by omega), if_pos (show (x : Int) < ((rd_L1 rows ((wy rows x i : Nat) : Int)).length : Int) by omega), V.nxE hw hx]
          have e1 : toI ((List.range i).map (wy rows x)) ++ [((wy rows x i : Nat) : Int)] = toI ((List.range (i + 1)).map (wy rows x)) := by
            rw [List.range_succ, List.map_append, toI_appE]; rfl
          rw [e1]
          refine ih (i + 1) (by omega) ?_
          rw [List.range_succ, List.map_append, List.nodup_append]
          refine ⟨hnd, by simp, fun a ha b hb2 => ?_⟩
          obtain ⟨j, hj, rfl⟩ := List.mem_map.1 ha
          simp at hb2
          subst hb2
          exact fun he => hh ⟨j, List.mem_range.1 hj, he⟩
    exact key (n + 1) 0 (by omega) (by simp)
  have main : ∀ d x : Nat, x + d = m → ∃ r : Int × Bool, Ev (fun k => euler_circular.l0 k (m : Int) (x : Int) rows) r ∧ Ev (fun k => mizmazeref06_Circular.l0 k (x : Int) rows) r ∧ ((r.2 = false ∧ r.1 = 0 ∧ ∀ y, x ≤ y → y < m → ¬ Cyc rows n y) ∨ (r.2 = true ∧ ∃ y : Nat, r.1 = (y : Int) ∧ y < m ∧ Cyc rows n y)) := by
    intro d
    induction d with
    | zero =>
      intro x hx
      refine ⟨(0, false), ?_, ?_, .inl ⟨rfl, rfl, fun y h1 h2 => by omega⟩⟩
      · refine Ev.step (f := fun _ => some (0, false)) (fun k => by rw [euler_circular.l0, if_neg (by omega)]) (Ev.now _)
      · refine Ev.step (f := fun _ => some (0, false)) (fun k => by rw [mizmazeref06_Circular.l0, V.letters, Option.bind_some, if_neg (by omega)]) (Ev.now _)
    | succ d ih =>
      intro x hx
      obtain ⟨r, hr1, hr2, hr3⟩ := ih (x + 1) (by omega)
      cases hpx : p x with
      | true =>
        have hc := (hp x (by omega)).1 hpx
        refine ⟨((x : Int), true), ?_, ?_, .inr ⟨rfl, x, rfl, by omega, hc⟩⟩
        · refine Ev.next ?_
          simp only [euler_circular.l0, if_pos (show (x : Int) < (m : Int) by omega)]
          refine Ev.bind (cycle_ev V (by omega) (b := true) ⟨fun _ => hc, fun _ => rfl⟩) ?_
          simp only [if_true]; exact Ev.now _
        · refine Ev.step (f := fun k => mizmazeref06_Circular.l1 k (x : Int) [] 0 rows) (fun k => by rw [mizmazeref06_Circular.l0, V.letters, Option.bind_some, if_pos (by omega)]) ?_
          exact way x _ (by omega) (fun _ => rfl) fun h => absurd hc h
      | false =>
        have hc : ¬ Cyc rows n x := fun h => by rw [(hp x (by omega)).2 h] at hpx; cases hpx
        refine ⟨r, ?_, ?_, ?_⟩
        · refine Ev.next ?_
          simp only [euler_circular.l0, if_pos (show (x : Int) < (m : Int) by omega)]
          refine Ev.bind (cycle_ev V (by omega) (b := false) ⟨fun h => (by cases h), fun h => absurd h hc⟩) ?_
          simp only [Bool.false_eq_true, if_false, wrapS (show x + 1 ≤ 9223372036854775807 by omega)]; exact hr1
        · refine Ev.step (f := fun k => mizmazeref06_Circular.l1 k (x : Int) [] 0 rows) (fun k => by rw [mizmazeref06_Circular.l0, V.letters, Option.bind_some, if_pos (by omega)]) ?_
          exact way x _ (by omega) (fun h => absurd h hc) fun _ => hr2
        · rcases hr3 with ⟨h1, h2, h3⟩ | h
          · refine .inl ⟨h1, h2, fun y h4 h5 => ?_⟩
            rcases Nat.eq_or_lt_of_le h4 with h6 | h6
            · subst h6; exact hc
            · exact h3 y h6 h5
          · exact .inr h
  obtain ⟨r, h1, h2, h3⟩ := main m 0 (by omega)
  refine ⟨r, ?_, h2, ?_⟩
  · unfold euler_circular.f
    rw [hL]
    simp only [Option.bind_some]; exact h1
  · rcases h3 with ⟨a, b, c⟩ | h
    · exact .inl ⟨a, b, fun x hx => c x (Nat.zero_le _) hx⟩
    · exact .inr h
end
end Go.Proofs.Ytcpmmkennnjalaa.Pure
end
section
namespace Go.Proofs.Ytcpmmkennnjalaa.Q
set_option linter.unusedVariables false
set_option linter.unusedSectionVars false
set_option linter.unusedSimpArgs false
/-! ### words that merge two states -/
/-- The shortest words that merge p and q have d letters. -/
def MDist (f : Nat → Nat → Nat) (m p q d : Nat) : Prop := (∃ w, Wd m w ∧ w.length = d ∧ run f p w = run f q w) ∧ ∀ w, Wd m w → run f p w = run f q w → d ≤ w.length
/-- Some word merges p and q. -/
def Mg (f : Nat → Nat → Nat) (m p q : Nat) : Prop := ∃ w, Wd m w ∧ run f p w = run f q w
section
variable {f : Nat → Nat → Nat} {m n p q d e x : Nat}
theorem MDist.uniq (h : MDist f m p q d) (k : MDist f m p q e) : d = e := by
  obtain ⟨⟨v, h1, h2, h3⟩, h4⟩ := h; obtain ⟨⟨w, k1, k2, k3⟩, k4⟩ := k
  have := h4 w k1 k3; have := k4 v h1 h3; omega
theorem MDist.mg (h : MDist f m p q d) : Mg f m p q := by obtain ⟨⟨v, h1, h2, h3⟩, h4⟩ := h; exact ⟨v, h1, h3⟩
theorem MDist.symm (h : MDist f m p q d) : MDist f m q p d := by
  obtain ⟨⟨v, h1, h2, h3⟩, h4⟩ := h
  exact ⟨⟨v, h1, h2, h3.symm⟩, fun w hw hr => h4 w hw hr.symm⟩
theorem Mg.symm (h : Mg f m p q) : Mg f m q p := by obtain ⟨v, h1, h2⟩ := h; exact ⟨v, h1, h2.symm⟩
theorem Mg.refl (f : Nat → Nat → Nat) (m p : Nat) : Mg f m p p := ⟨[], Wd.nil m, rfl⟩
theorem MDist.zero (f : Nat → Nat → Nat) (m p : Nat) : MDist f m p p 0 := ⟨⟨[], Wd.nil m, rfl, rfl⟩, fun _ _ _ => Nat.zero_le _⟩
theorem MDist.eq0 (h : MDist f m p q 0) : p = q := by
  obtain ⟨⟨v, h1, h2, h3⟩, h4⟩ := h
  rw [List.eq_nil_of_length_eq_zero h2] at h3; exact h3
theorem Mg.dist (h : Mg f m p q) : ∃ d, MDist f m p q d := by
  obtain ⟨w, h1, h2⟩ := h
  have key : ∀ k : Nat, (∃ w, Wd m w ∧ w.length ≤ k ∧ run f p w = run f q w) → ∃ d, MDist f m p q d := by
    intro k
    induction k with
    | zero => rintro ⟨w, a, b, c⟩; exact ⟨0, ⟨w, a, by omega, c⟩, fun _ _ _ => Nat.zero_le _⟩
    | succ k ih =>
      rintro ⟨w, a, b, c⟩
      by_cases hk : ∃ w, Wd m w ∧ w.length ≤ k ∧ run f p w = run f q w
      · exact ih hk
      · refine ⟨k + 1, ⟨w, a, ?_, c⟩, fun v hv hr => ?_⟩
        · rcases Nat.lt_or_ge w.length (k + 1) with h | h
          · exact absurd ⟨w, a, by omega, c⟩ hk
          · omega
        · rcases Nat.lt_or_ge v.length (k + 1) with h | h
          · exact absurd ⟨v, hv, by omega, hr⟩ hk
          · omega
  exact key w.length ⟨w, h1, Nat.le_refl _, h2⟩
theorem Mg.step (hx : x < m) (h : Mg f m (f p x) (f q x)) : Mg f m p q := by
  obtain ⟨w, h1, h2⟩ := h; exact ⟨x :: w, Wd.cons hx h1, h2⟩
/-- One letter nearer, and nothing nearer than that. -/
theorem MDist.pred (h : MDist f m p q (d + 1)) : p ≠ q ∧ (∃ x, x < m ∧ MDist f m (f p x) (f q x) d) ∧ ∀ x e, x < m → MDist f m (f p x) (f q x) e → d ≤ e := by
  obtain ⟨⟨v, h1, h2, h3⟩, h4⟩ := h
  have low : ∀ x e, x < m → MDist f m (f p x) (f q x) e → d ≤ e := by
    rintro x e hx ⟨⟨w, k1, k2, k3⟩, _⟩
    have := h4 (x :: w) (Wd.cons hx k1) k3
    simp at this; omega
  refine ⟨?_, ?_, low⟩
  · rintro rfl; have := h4 [] (Wd.nil m) rfl; simp at this
  · cases v with
    | nil => simp at h2
    | cons y v =>
      refine ⟨y, h1.head, ⟨v, h1.tail, by simpa using h2, h3⟩, fun w hw hr => ?_⟩
      have := h4 (y :: w) (Wd.cons h1.head hw) hr
      simp at this; omega
theorem MDist.succ (hpq : p ≠ q) (hx : x < m) (h : MDist f m (f p x) (f q x) d) (hl : ∀ y e, y < m → MDist f m (f p y) (f q y) e → d ≤ e) : MDist f m p q (d + 1) := by
  obtain ⟨⟨v, h1, h2, h3⟩, h4⟩ := h
  refine ⟨⟨x :: v, Wd.cons hx h1, by simp [h2], h3⟩, fun w hw hr => ?_⟩
  cases w with
  | nil => exact absurd hr hpq
  | cons y w =>
    obtain ⟨e, he⟩ := Mg.dist ⟨w, hw.tail, hr⟩
    have h5 := hl y e hw.head he
    have h6 := he.2 w hw.tail hr
    simp; omega
/-- A pair as one state. -/
theorem pair_run (hn : 0 < n) (hf : ∀ s x, s < n → x < m → f s x < n) : ∀ (w : List Nat) (p q : Nat), p < n → q < n → Wd m w → run (fun s x => f (s / n) x * n + f (s % n) x) (p * n + q) w = run f p w * n + run f q w
  | [], _, _, _, _, _ => rfl
  | x :: w, p, q, hp, hq, hw => by
    have e1 : (p * n + q) / n = p := by rw [Nat.add_comm, Nat.add_mul_div_right _ _ hn, Nat.div_eq_of_lt hq, Nat.zero_add]
    have e2 : (p * n + q) % n = q := by rw [Nat.add_comm, Nat.add_mul_mod_self_right, Nat.mod_eq_of_lt hq]
    simp only [run, e1, e2]
    exact pair_run hn hf w _ _ (hf p x hp hw.head) (hf q x hq hw.head) hw.tail
theorem pair_lt {a b : Nat} (ha : a < n) (hb : b < n) : a * n + b < n * n := by
  have := Nat.mul_le_mul_right n (Nat.succ_le_of_lt ha)
  rw [Nat.succ_mul] at this; omega
theorem pair_eq {a b c d : Nat} (hb : b < n) (hd : d < n) (h : a * n + b = c * n + d) : a = c ∧ b = d := by
  have hn : 0 < n := by omega
  have e1 : (a * n + b) / n = a := by rw [Nat.add_comm, Nat.add_mul_div_right _ _ hn, Nat.div_eq_of_lt hb, Nat.zero_add]
  have e2 : (c * n + d) / n = c := by rw [Nat.add_comm, Nat.add_mul_div_right _ _ hn, Nat.div_eq_of_lt hd, Nat.zero_add]
  rw [h, e2] at e1
  refine ⟨e1.symm, ?_⟩
  subst e1; omega
theorem runLt (hf : ∀ s x, s < n → x < m → f s x < n) : ∀ (w : List Nat) (s : Nat), s < n → Wd m w → run f s w < n
  | [], _, hs, _ => hs
  | x :: w, s, hs, hw => runLt hf w _ (hf s x hs hw.head) hw.tail
theorem MDist.lt (hf : ∀ s x, s < n → x < m → f s x < n) (hp : p < n) (hq : q < n) (h : MDist f m p q d) : d < n * n := by
  obtain ⟨⟨v, h1, h2, h3⟩, h4⟩ := h
  have hn : 0 < n := by omega
  obtain ⟨z, z1, z2, z3, z4⟩ := short_word (f := fun s x => f (s / n) x * n + f (s % n) x) (n := n * n) (m := m) (fun s x hs hx => by
    have e1 : s / n < n := Nat.div_lt_of_lt_mul hs
    have e2 : s % n < n := Nat.mod_lt _ hn
    exact pair_lt (hf _ x e1 hx) (hf _ x e2 hx)) _ v (p * n + q) (Nat.le_refl _) (pair_lt hp hq) h1
  rw [pair_run hn hf z p q hp hq z1, pair_run hn hf v p q hp hq h1] at z2
  obtain ⟨e1, e2⟩ := pair_eq (runLt hf z q hq z1) (runLt hf v q hq h1) z2
  have := h4 z z1 (by rw [e1, e2, h3])
  omega
end
/-- The first shortest word that merges p and q. -/
structure LM (f : Nat → Nat → Nat) (m p q : Nat) (w : List Nat) : Prop where
  wd : Wd m w
  ends : run f p w = run f q w
  le : ∀ v, Wd m v → run f p v = run f q v → code m w ≤ code m v
section
variable {f : Nat → Nat → Nat} {m n p q d x : Nat} {v w : List Nat}
theorem LM.symm (h : LM f m p q w) : LM f m q p w := ⟨h.wd, h.ends.symm, fun v hv hr => h.le v hv hr.symm⟩
theorem LM.refl (f : Nat → Nat → Nat) (m p : Nat) : LM f m p p [] := ⟨Wd.nil m, rfl, fun v _ _ => Nat.zero_le _⟩
theorem LM.cons (hm : 0 < m) (hd : MDist f m p q (d + 1)) (hx : x < m) (hl : ∀ y, y < x → ¬ MDist f m (f p y) (f q y) d) (h : LM f m (f p x) (f q x) w) (hw : w.length = d) : LM f m p q (x :: w) := by
  obtain ⟨hne, _, hlow⟩ := hd.pred
  refine ⟨Wd.cons hx h.wd, h.ends, fun v hv hr => ?_⟩
  cases v with
  | nil => exact absurd hr hne
  | cons y v =>
    have hlen := hd.2 (y :: v) hv hr
    simp only [List.length_cons] at hlen
    rcases Nat.lt_or_ge (x :: w).length (y :: v).length with h1 | h1
    · exact Nat.le_of_lt (code_len hm (Wd.cons hx h.wd) hv h1)
    · simp only [List.length_cons] at h1
      have hvl : v.length = w.length := by omega
      have hyx : ¬ y < x := fun hlt => by
        refine hl y hlt ⟨⟨v, hv.tail, by omega, hr⟩, fun u hu hur => ?_⟩
        have := hd.2 (y :: u) (Wd.cons hv.head hu) hur
        simp at this; omega
      rcases Nat.lt_or_ge x y with h2 | h2
      · exact Nat.le_of_lt (code_head h.wd hv.tail (by omega) h2)
      · obtain rfl : x = y := by omega
        rw [code_cons, code_cons, hvl]
        have := h.le v hv.tail hr
        omega
theorem LM.dist (hm : 0 < m) (h : LM f m p q w) : MDist f m p q w.length := by
  refine ⟨⟨w, h.wd, rfl, h.ends⟩, fun v hv hr => ?_⟩
  rcases Nat.lt_or_ge v.length w.length with h1 | h1
  · have := code_len hm hv h.wd h1; have := h.le v hv hr; omega
  · exact h1
end
end Go.Proofs.Ytcpmmkennnjalaa.Q
end
section
namespace Go.Proofs.Ytcpmmkennnjalaa.Q
open Go.RowKit Go.Proofs.YtcpmmkennnjalaaW.PrintWords Go.Proofs.YtcpmmkennnjalaaW.PrintLast Go.Proofs.YtcpmmkennnjalaaW.PrintMore
set_option linter.unusedVariables false
set_option linter.unusedSectionVars false
set_option linter.unusedSimpArgs false
/-! ### the reference's table -/
def TT (tab : List (List Int)) (p q : Nat) : Int := rd (rd_L1 tab (p : Int)) (q : Int)
structure Shape (tab : List (List Int)) (n : Nat) : Prop where
  len : tab.length = n
  row : ∀ p, p < n → (rd_L1 tab (p : Int)).length = n
theorem rdL_set {l : List (List Int)} {i j : Nat} {v : List Int} (hj : j < l.length) : rd_L1 (l.set i v) (j : Int) = if i = j then v else rd_L1 l (j : Int) := by
  rw [rdLE (by rw [List.length_set]; exact hj), rdLE hj, List.getElem_set]
theorem rdS_set {l : List Int} {i j : Nat} {v : Int} (hj : j < l.length) : rd (l.set i v) (j : Int) = if i = j then v else rd l (j : Int) := by
  rw [rdE (by rw [List.length_set]; exact hj), rdE hj, List.getElem_set]
theorem Shape.put {tab : List (List Int)} {n p q : Nat} {v : Int} (h : Shape tab n) (hp : p < n) : Shape (tab.set p ((rd_L1 tab (p : Int)).set q v)) n := by
  refine ⟨by rw [List.length_set]; exact h.len, fun s hs => ?_⟩
  rw [rdL_set (by rw [h.len]; exact hs)]
  split
  · rw [List.length_set]; exact h.row p hp
  · exact h.row s hs
theorem TT_put {tab : List (List Int)} {n p q a b : Nat} {v : Int} (h : Shape tab n) (ha : a < n) (hb : b < n) (hp : p < n) : TT (tab.set p ((rd_L1 tab (p : Int)).set q v)) a b = if p = a ∧ q = b then v else TT tab a b := by
  unfold TT
  rw [rdL_set (by rw [h.len]; exact ha)]
  by_cases e : p = a
  · subst e
    rw [if_pos rfl, rdS_set (by rw [h.row p hp]; exact hb)]
    by_cases e2 : q = b
    · rw [if_pos e2, if_pos ⟨rfl, e2⟩]
    · rw [if_neg e2, if_neg (fun h => e2 h.2)]
  · rw [if_neg e, if_neg (fun h => e h.1)]
/-- What an entry says once the words of fewer than kk letters are known. -/
def Ent (f : Nat → Nat → Nat) (m : Nat) (tab : List (List Int)) (kk p q : Nat) : Prop := (∃ d : Nat, d < kk ∧ TT tab p q = (d : Int) ∧ MDist f m p q d) ∨ (TT tab p q = -1 ∧ ∀ d, d < kk → ¬ MDist f m p q d)
def bef (p q p0 q0 : Nat) : Prop := p < p0 ∨ p = p0 ∧ q < q0
instance (p q p0 q0 : Nat) : Decidable (bef p q p0 q0) := inferInstanceAs (Decidable (_ ∨ _))
theorem bef_next (p q : Nat) : bef p q p (q + 1) := Or.inr ⟨rfl, Nat.lt_succ_self q⟩
theorem ite_iff {c d : Prop} [Decidable c] [Decidable d] (h : c ↔ d) {a b : Nat} : (if c then a else b) = if d then a else b := by
  by_cases hc : c
  · rw [if_pos hc, if_pos (h.1 hc)]
  · rw [if_neg hc, if_neg fun hd => hc (h.2 hd)]
structure InPass (f : Nat → Nat → Nat) (m n : Nat) (tab : List (List Int)) (kk p0 q0 : Nat) (more : Bool) : Prop where
  shape : Shape tab n
  ent : ∀ p q, p < n → q < n → Ent f m tab (if bef p q p0 q0 then kk + 1 else kk) p q
  more : more = true ↔ ∃ p q, p < n ∧ q < n ∧ bef p q p0 q0 ∧ MDist f m p q kk
theorem InPass.test {f : Nat → Nat → Nat} {m n kk p0 q0 : Nat} {tab : List (List Int)} {more : Bool} (h : InPass f m n tab (kk + 1) p0 q0 more) {u v : Nat} (hu : u < n) (hv : v < n) : TT tab u v = (kk : Int) ↔ MDist f m u v kk := by
  have h1 : kk < (if bef u v p0 q0 then kk + 1 + 1 else kk + 1) := by split <;> omega
  rcases h.ent u v hu hv with ⟨d, h2, h3, h4⟩ | ⟨h2, h3⟩
  · rw [h3]
    refine ⟨fun e => ?_, fun e => by rw [h4.uniq e]⟩
    have e2 : d = kk := by omega
    exact e2 ▸ h4
  · rw [h2]
    exact ⟨fun e => by omega, fun e => absurd e (h3 kk h1)⟩
section
variable {rows : List (List Int)} {n m : Nat} (V : VA rows n m)
include V
theorem no_less {p q kk d : Nat} (h : ∀ d, d < kk + 1 → ¬ MDist (nx rows) m p q d) {x e : Nat} (hx : x < m) (he : MDist (nx rows) m (nx rows p x) (nx rows q x) e) : kk ≤ e := by
  obtain ⟨d, hd⟩ := Mg.dist (Mg.step hx he.mg)
  obtain ⟨⟨w, h1, h2, h3⟩, _⟩ := he
  have h4 := hd.2 (x :: w) (Wd.cons hx h1) h3
  simp only [List.length_cons] at h4
  rcases Nat.lt_or_ge d (kk + 1) with h5 | h5
  · exact absurd hd (h d h5)
  · omega
end
theorem far_none {f : Nat → Nat → Nat} {m n : Nat} (hf : ∀ s x, s < n → x < m → f s x < n) {kk : Nat} (h : ∀ p q, p < n → q < n → ¬ MDist f m p q kk) : ∀ (d p q : Nat), p < n → q < n → MDist f m p q d → d < kk := by
  intro d
  induction d with
  | zero =>
    intro p q hp hq hd
    rcases Nat.eq_zero_or_pos kk with rfl | h0
    · exact absurd hd (h p q hp hq)
    · exact h0
  | succ d ih =>
    intro p q hp hq hd
    obtain ⟨_, ⟨x, hx, hd'⟩, _⟩ := hd.pred
    have := ih _ _ (hf p x hp hx) (hf q x hq hx) hd'
    rcases Nat.lt_or_ge (d + 1) kk with h1 | h1
    · exact h1
    · obtain rfl : kk = d + 1 := by omega
      exact absurd hd (h p q hp hq)
end Go.Proofs.Ytcpmmkennnjalaa.Q
end
section
namespace Go.Proofs.Ytcpmmkennnjalaa.Q
set_option linter.unusedVariables false
set_option linter.unusedSectionVars false
set_option linter.unusedSimpArgs false
/-! ### the nearest pair of a set is near (Frankl; Pin) -/
/-- The numbers below n that are not in a list. -/
def compl (n : Nat) : List Nat → List Nat
  | [] => List.range n
  | s :: S => (compl n S).erase s
theorem compl_nodup (n : Nat) : ∀ S, (compl n S).Nodup
  | [] => List.nodup_range
  | s :: S => (compl_nodup n S).erase s
theorem compl_mem {n x : Nat} : ∀ {S : List Nat}, x ∈ compl n S ↔ x < n ∧ x ∉ S
  | [] => by simp [compl]
  | s :: S => by
    unfold compl
    rw [(compl_nodup n S).mem_erase_iff, compl_mem, List.mem_cons]
    constructor
    · rintro ⟨h1, h2, h3⟩; exact ⟨h2, fun h => h.elim h1 h3⟩
    · rintro ⟨h1, h2⟩; exact ⟨fun h => h2 (Or.inl h), h1, fun h => h2 (Or.inr h)⟩
theorem compl_len {n : Nat} : ∀ {S : List Nat}, S.Nodup → (∀ x ∈ S, x < n) → (compl n S).length + S.length = n
  | [], _, _ => by simp [compl]
  | s :: S, hn, hl => by
    rw [List.nodup_cons] at hn
    have ih := compl_len hn.2 fun x hx => hl x (List.mem_cons_of_mem _ hx)
    have hm : s ∈ compl n S := compl_mem.2 ⟨hl s List.mem_cons_self, hn.1⟩
    have hpos := List.length_pos_of_mem hm
    unfold compl
    rw [List.length_erase_of_mem hm, List.length_cons]; omega
theorem Wd.take {m : Nat} {w : List Nat} (h : Wd m w) (i : Nat) : Wd m (w.take i) := fun x hx => h x (List.mem_of_mem_take hx)
theorem Wd.drop {m : Nat} {w : List Nat} (h : Wd m w) (i : Nat) : Wd m (w.drop i) := fun x hx => h x (List.mem_of_mem_drop hx)
theorem near_bound {f : Nat → Nat → Nat} {m n : Nat} (hf : ∀ s x, s < n → x < m → f s x < n) {Q : List Nat} (hQ : Q.Nodup) (hlt : ∀ x ∈ Q, x < n) {p q d : Nat} (hp : p ∈ Q) (hq : q ∈ Q) (hd : MDist f m p q d)
    (hmin : ∀ a ∈ Q, ∀ b ∈ Q, a ≠ b → ∀ e, MDist f m a b e → d ≤ e) : 2 * d ≤ (n - Q.length + 1) * (n - Q.length + 2) := by
  obtain ⟨⟨w, hw, hwl, hwe⟩, hlow⟩ := hd
  have short : ∀ a ∈ Q, ∀ b ∈ Q, a ≠ b → ∀ v, Wd m v → run f a v = run f b v → d ≤ v.length := fun a ha b hb hab v hv hr => by
    obtain ⟨e, he⟩ := Mg.dist ⟨v, hv, hr⟩
    have h1 := hmin a ha b hb hab e he
    have h2 := he.2 v hv hr
    omega
  have hS : ∀ i, i < d → (Q.map fun s => run f s (w.take i)).Nodup := by
    intro i hi
    rw [List.nodup_iff_pairwise_ne, List.pairwise_map]
    refine List.Pairwise.imp_of_mem ?_ (List.nodup_iff_pairwise_ne.1 hQ)
    intro a b ha hb hab he
    have := short a ha b hb hab _ (hw.take i) he
    rw [List.length_take] at this; omega
  have hSl : ∀ i, ∀ x ∈ Q.map (fun s => run f s (w.take i)), x < n := by
    intro i x hx
    obtain ⟨s, hs, rfl⟩ := List.mem_map.1 hx
    exact runLt hf _ s (hlt s hs) (hw.take i)
  refine skew (L := d) (r := n - Q.length) (fun i => (compl n (Q.map fun s => run f s (w.take i))).map fun (x : Nat) => (x : Int)) (fun i => ((run f p (w.take i) : Nat) : Int)) (fun i => ((run f q (w.take i) : Nat) : Int)) ?_ ?_ ?_
  · intro i hi
    have := compl_len (hS i hi) (hSl i)
    rw [List.length_map] at this ⊢; omega
  · intro i hi
    have key : ∀ s ∈ Q, ((run f s (w.take i) : Nat) : Int) ∉ (compl n (Q.map fun s => run f s (w.take i))).map fun (x : Nat) => (x : Int) := by
      intro s hs hm
      obtain ⟨x, hx, he⟩ := List.mem_map.1 hm
      have e : x = run f s (w.take i) := by omega
      subst e
      exact (compl_mem.1 hx).2 (List.mem_map.2 ⟨s, hs, rfl⟩)
    exact ⟨key p hp, key q hq⟩
  · intro i j hi hj
    apply Classical.byContradiction
    intro hn
    rw [not_or] at hn
    have get : ∀ s ∈ Q, ((run f s (w.take i) : Nat) : Int) ∉ (compl n (Q.map fun s => run f s (w.take j))).map (fun (x : Nat) => (x : Int)) → ∃ t ∈ Q, run f t (w.take j) = run f s (w.take i) := by
      intro s hs hm
      have h1 : run f s (w.take i) < n := runLt hf _ s (hlt s hs) (hw.take i)
      have h2 : run f s (w.take i) ∉ compl n (Q.map fun s => run f s (w.take j)) := fun h => hm (List.mem_map.2 ⟨_, h, rfl⟩)
      have h3 : run f s (w.take i) ∈ Q.map fun s => run f s (w.take j) := by
        apply Classical.byContradiction
        intro h; exact h2 (compl_mem.2 ⟨h1, h⟩)
      obtain ⟨t, ht, he⟩ := List.mem_map.1 h3
      exact ⟨t, ht, he⟩
    obtain ⟨s, hs, hse⟩ := get p hp hn.1
    obtain ⟨t, ht, hte⟩ := get q hq hn.2
    have hne : run f p (w.take i) ≠ run f q (w.take i) := fun h => by
      have := hlow _ (hw.take i) h
      rw [List.length_take] at this; omega
    have hst : s ≠ t := fun h => by subst h; exact hne (hse.symm.trans hte)
    have hend : ∀ s0, run f (run f s0 (w.take i)) (w.drop i) = run f s0 w := fun s0 => by
      rw [← run_app, List.take_append_drop]
    have := short s hs t ht hst (w.take j ++ w.drop i) ((hw.take j).app (hw.drop i)) (by rw [run_app, run_app, hse, hte, hend, hend, hwe])
    rw [List.length_append, List.length_take, List.length_drop] at this
    omega
end Go.Proofs.Ytcpmmkennnjalaa.Q
end
section
namespace Go.Proofs.Ytcpmmkennnjalaa.Q
open Go.RowKit Go.Proofs.YtcpmmkennnjalaaW.PrintWords Go.Proofs.YtcpmmkennnjalaaW.PrintLast Go.Proofs.YtcpmmkennnjalaaW.PrintMore
set_option linter.unusedVariables false
theorem toI_rd {w : List Nat} {i : Nat} (h : i < w.length) : rd (toI w) (i : Int) = ((w[i] : Nat) : Int) := by
  rw [rdE (by rw [toI_len]; exact h)]; simp [toI]
theorem auto_lead {rows : List (List Int)} {n m s : Nat} (V : VA rows n m) (hs : s < n) {w : List Nat} (hw : Wd m w) (hl : w.length ≤ 1000000) : Ev (fun k => auto_Lead.f k rows (s : Int) (toI w)) ((run (nx rows) s w : Nat) : Int) := by
  have hlen := V.len
  have key : ∀ (d i u : Nat), i + d = w.length → u < n → Ev (fun k => auto_Lead.l0 k (u : Int) (toI w) (w.length : Int) (i : Int) rows) ((run (nx rows) u (w.drop i) : Nat) : Int) := by
    intro d
    induction d with
    | zero =>
      intro i u hi hu
      refine Ev.next ?_
      simp only [auto_Lead.l0, if_neg (by omega : ¬ (i : Int) < (w.length : Int))]
      rw [List.drop_eq_nil_of_le (by omega)]
      exact Ev.now _
    | succ d ih =>
      intro i u hi hu
      have hil : i < w.length := by omega
      have hx := hw w[i] (List.getElem_mem hil)
      have hrow := V.row u hu
      refine Ev.next ?_
      simp only [auto_Lead.l0, if_pos (by omega : (i : Int) < (w.length : Int)), if_pos (by omega : (0 : Int) ≤ (i : Int)), toI_len, if_pos (by omega : (0 : Int) ≤ (u : Int)), if_pos (by omega : (u : Int) < (rows.length : Int)), toI_rd hil, if_pos (by omega : (0 : Int) ≤ ((w[i] : Nat) : Int)), if_pos (by omega : ((w[i] : Nat) : Int) < ((rd_L1 rows (u : Int)).length : Int)), V.nxE hu hx, wrapS (by omega : i + 1 ≤ 9223372036854775807)]
      rw [List.drop_eq_getElem_cons hil]
      exact ih (i + 1) _ (by omega) (V.nxLt hu hx)
  unfold auto_Lead.f
  rw [toI_len]
  exact key w.length 0 s (by omega) hs
end Go.Proofs.Ytcpmmkennnjalaa.Q
end
section
namespace Go.Proofs.Ytcpmmkennnjalaa.Q
open Go.RowKit Go.Proofs.YtcpmmkennnjalaaW.PrintWords Go.Proofs.YtcpmmkennnjalaaW.PrintLast Go.Proofs.YtcpmmkennnjalaaW.PrintMore
set_option linter.unusedVariables false
set_option linter.unusedSectionVars false
set_option linter.unusedSimpArgs false
/-! ### the reference's table -/
section
variable {rows : List (List Int)} {n m : Nat} (V : VA rows n m)
include V
theorem cell_loop {tab : List (List Int)} {kk p q : Nat} (hp : p < n) (hq : q < n) {more : Bool} (hkk : kk ≤ 1000000) (h : InPass (nx rows) m n tab (kk + 1) p q more) (hT : TT tab p q = -1) (hno : ∀ d, d < kk + 1 → ¬ MDist (nx rows) m p q d) :
    ∀ (e x : Nat), x + e = m → (∀ y, y < x → ¬ MDist (nx rows) m (nx rows p y) (nx rows q y) kk) → ∃ tab' more', InPass (nx rows) m n tab' (kk + 1) p (q + 1) more' ∧ ∀ res, Ev (fun k => mizmazeref03_Table.l4 k (n : Int) tab' ((kk + 1 : Nat) : Int) more' (p : Int) ((q + 1 : Nat) : Int) rows) res → Ev (fun k => mizmazeref03_Table.l5 k (n : Int) tab ((kk + 1 : Nat) : Int) more (p : Int) (q : Int) (x : Int) rows) res := by
  have hn60 := V.n60
  have hm6 := V.m6
  have hTr : rd (rd_L1 tab (p : Int)) (q : Int) = -1 := hT
  have hl5 : ∀ k (x : Nat), x < m → mizmazeref03_Table.l5 (k + 1) (n : Int) tab ((kk + 1 : Nat) : Int) more (p : Int) (q : Int) (x : Int) rows = mizmazeref03_Table.j6 k (n : Int) tab ((kk + 1 : Nat) : Int) more (p : Int) (q : Int) (x : Int) true rows := by
    intro k x hx
    rw [mizmazeref03_Table.l5, if_pos (by omega), if_pos (by rw [h.shape.len]; omega), if_pos (by omega), if_pos (by rw [h.shape.row p hp]; omega), hTr, if_pos (by omega), V.letters, Option.bind_some, decide_eq_true (by omega)]
  have hl5e : ∀ k, mizmazeref03_Table.l5 (k + 1) (n : Int) tab ((kk + 1 : Nat) : Int) more (p : Int) (q : Int) (m : Int) rows = mizmazeref03_Table.j6 k (n : Int) tab ((kk + 1 : Nat) : Int) more (p : Int) (q : Int) (m : Int) false rows := by
    intro k
    rw [mizmazeref03_Table.l5, if_pos (by omega), if_pos (by rw [h.shape.len]; omega), if_pos (by omega), if_pos (by rw [h.shape.row p hp]; omega), hTr, if_pos (by omega), V.letters, Option.bind_some, decide_eq_false (by omega)]
  intro e
  induction e with
  | zero =>
    intro x hx hy
    obtain rfl : x = m := by omega
    have hnk : ¬ MDist (nx rows) x p q (kk + 1) := fun hd => by
      obtain ⟨_, ⟨y, hy1, hy2⟩, _⟩ := hd.pred
      exact hy y hy1 hy2
    refine ⟨tab, more, ⟨h.shape, fun a b ha hb => ?_, ?_⟩, fun res hres => ?_⟩
    · by_cases hab : a = p ∧ b = q
      · obtain ⟨rfl, rfl⟩ := hab
        rw [if_pos (bef_next _ _)]
        refine Or.inr ⟨hT, fun d hd => ?_⟩
        rcases Nat.lt_or_ge d (kk + 1) with h1 | h1
        · exact hno d h1
        · obtain rfl : d = kk + 1 := by omega
          exact hnk
      · have e : bef a b p (q + 1) ↔ bef a b p q := by unfold bef; omega
        have := h.ent a b ha hb
        rwa [ite_iff e]
    · rw [h.more]
      constructor
      · rintro ⟨a, b, h1, h2, h3, h4⟩; exact ⟨a, b, h1, h2, by unfold bef at h3 ⊢; omega, h4⟩
      · rintro ⟨a, b, h1, h2, h3, h4⟩
        refine ⟨a, b, h1, h2, ?_, h4⟩
        by_cases hab : a = p ∧ b = q
        · obtain ⟨rfl, rfl⟩ := hab; exact absurd h4 hnk
        · unfold bef at h3 ⊢; omega
    · refine Ev.step (fun k => hl5e k) (Ev.step (fun k => ?_) hres)
      rw [mizmazeref03_Table.j6, if_neg (by decide), wrapS (by omega)]
  | succ e ih =>
    intro x hx hy
    have hxm : x < m := by omega
    have ha := V.nxLt hp hxm
    have hb := V.nxLt hq hxm
    have hj : ∀ k, mizmazeref03_Table.j6 (k + 1) (n : Int) tab ((kk + 1 : Nat) : Int) more (p : Int) (q : Int) (x : Int) true rows = if TT tab (nx rows p x) (nx rows q x) = (kk : Int) then mizmazeref03_Table.l5 k (n : Int) (tab.set p ((rd_L1 tab (p : Int)).set q ((kk + 1 : Nat) : Int))) ((kk + 1 : Nat) : Int) true (p : Int) (q : Int) ((x + 1 : Nat) : Int) rows else mizmazeref03_Table.l5 k (n : Int) tab ((kk + 1 : Nat) : Int) more (p : Int) (q : Int) ((x + 1 : Nat) : Int) rows := by
      intro k
      rw [mizmazeref03_Table.j6, if_pos rfl, if_pos (by omega), if_pos (by rw [V.len]; omega), if_pos (by omega), if_pos (by rw [V.row p hp]; omega), V.nxE hp hxm, if_pos (by omega), if_pos (by rw [h.shape.len]; omega), if_pos (by omega), if_pos (by rw [V.len]; omega), if_pos (by rw [V.row q hq]; omega), V.nxE hq hxm, if_pos (by omega), if_pos (by rw [h.shape.row _ ha]; omega),
        wrapI (by omega) (by omega), show (((kk + 1 : Nat) : Int) - 1) = (kk : Int) by omega]
      by_cases ht : TT tab (nx rows p x) (nx rows q x) = (kk : Int)
      · rw [if_pos ht, if_pos (show rd (rd_L1 tab (nx rows p x : Nat)) (nx rows q x : Nat) = (kk : Int) from ht), if_pos (by rw [h.shape.len]; omega), if_pos (by rw [h.shape.row p hp]; omega), wrapS (by omega)]
        simp only [Int.toNat_natCast]
      · rw [if_neg ht, if_neg (show ¬ rd (rd_L1 tab (nx rows p x : Nat)) (nx rows q x : Nat) = (kk : Int) from ht), wrapS (by omega)]
    by_cases ht : TT tab (nx rows p x) (nx rows q x) = (kk : Int)
    · have hd := (h.test ha hb).1 ht
      have hpq : p ≠ q := by
        rintro rfl
        exact hno 0 (by omega) (MDist.zero _ _ _)
      have hD : MDist (nx rows) m p q (kk + 1) := MDist.succ hpq hxm hd fun y e hy he => no_less V (d := 0) hno hy he
      refine ⟨_, true, ⟨h.shape.put (q := q) (v := ((kk + 1 : Nat) : Int)) hp, fun a b ha hb => ?_, ?_⟩, fun res hres => ?_⟩
      · unfold Ent
        rw [TT_put h.shape ha hb hp]
        by_cases hab : p = a ∧ q = b
        · rw [if_pos hab]
          obtain ⟨rfl, rfl⟩ := hab
          rw [if_pos (bef_next _ _)]
          exact Or.inl ⟨kk + 1, by omega, rfl, hD⟩
        · rw [if_neg hab]
          have e : bef a b p (q + 1) ↔ bef a b p q := by unfold bef; omega
          have := h.ent a b ha hb
          rwa [ite_iff e]
      · exact ⟨fun _ => ⟨p, q, hp, hq, Or.inr ⟨rfl, by omega⟩, hD⟩, fun _ => rfl⟩
      · refine Ev.step (fun k => hl5 k x hxm) (Ev.step (fun k => by rw [hj, if_pos ht]) (Ev.step (f := fun k => mizmazeref03_Table.j6 k (n : Int) (tab.set p ((rd_L1 tab (p : Int)).set q ((kk + 1 : Nat) : Int))) ((kk + 1 : Nat) : Int) true (p : Int) (q : Int) ((x + 1 : Nat) : Int) false rows) (fun k => ?_) (Ev.step (fun k => ?_) hres)))
        · have hs := h.shape.put (q := q) (v := ((kk + 1 : Nat) : Int)) hp
          have hv : rd (rd_L1 (tab.set p ((rd_L1 tab (p : Int)).set q ((kk + 1 : Nat) : Int))) (p : Int)) (q : Int) = ((kk + 1 : Nat) : Int) := by
            have := TT_put (q := q) (v := ((kk + 1 : Nat) : Int)) h.shape hp hq hp
            rw [if_pos ⟨rfl, rfl⟩] at this; exact this
          rw [mizmazeref03_Table.l5, if_pos (by omega), if_pos (by rw [hs.len]; omega), if_pos (by omega), if_pos (by rw [hs.row p hp]; omega), hv, if_neg (by omega)]
        · rw [mizmazeref03_Table.j6, if_neg (by decide), wrapS (by omega)]
    · obtain ⟨tab', more', h1, h2⟩ := ih (x + 1) (by omega) fun y hy2 hyd => by
        rcases Nat.lt_or_ge y x with h3 | h3
        · exact hy y h3 hyd
        · obtain rfl : y = x := by omega
          exact ht ((h.test ha hb).2 hyd)
      exact ⟨tab', more', h1, fun res hres => Ev.step (fun k => hl5 k x hxm) (Ev.step (fun k => by rw [hj, if_neg ht]) (h2 res hres))⟩
theorem cell {tab : List (List Int)} {kk p q : Nat} (hp : p < n) (hq : q < n) {more : Bool} (hkk : kk ≤ 1000000) (h : InPass (nx rows) m n tab (kk + 1) p q more) :
    ∃ tab' more', InPass (nx rows) m n tab' (kk + 1) p (q + 1) more' ∧ ∀ res, Ev (fun k => mizmazeref03_Table.l4 k (n : Int) tab' ((kk + 1 : Nat) : Int) more' (p : Int) ((q + 1 : Nat) : Int) rows) res → Ev (fun k => mizmazeref03_Table.l4 k (n : Int) tab ((kk + 1 : Nat) : Int) more (p : Int) (q : Int) rows) res := by
  have hn60 := V.n60
  have e0 : ¬ bef p q p q := by unfold bef; omega
  have hent := h.ent p q hp hq
  rw [if_neg e0] at hent
  have h4 : ∀ k, mizmazeref03_Table.l4 (k + 1) (n : Int) tab ((kk + 1 : Nat) : Int) more (p : Int) (q : Int) rows = mizmazeref03_Table.l5 k (n : Int) tab ((kk + 1 : Nat) : Int) more (p : Int) (q : Int) ((0 : Nat) : Int) rows := fun k => by
    rw [mizmazeref03_Table.l4, if_pos (by omega)]; rfl
  rcases hent with ⟨d, h1, h2, h3⟩ | ⟨h1, h2⟩
  · refine ⟨tab, more, ⟨h.shape, fun a b ha hb => ?_, ?_⟩, fun res hres => ?_⟩
    · by_cases hab : a = p ∧ b = q
      · obtain ⟨rfl, rfl⟩ := hab
        rw [if_pos (bef_next _ _)]
        exact Or.inl ⟨d, by omega, h2, h3⟩
      · have e : bef a b p (q + 1) ↔ bef a b p q := by unfold bef; omega
        have := h.ent a b ha hb
        rwa [ite_iff e]
    · rw [h.more]
      constructor
      · rintro ⟨a, b, k1, k2, k3, k4⟩; exact ⟨a, b, k1, k2, by unfold bef at k3 ⊢; omega, k4⟩
      · rintro ⟨a, b, k1, k2, k3, k4⟩
        refine ⟨a, b, k1, k2, ?_, k4⟩
        by_cases hab : a = p ∧ b = q
        · obtain ⟨rfl, rfl⟩ := hab; have := h3.uniq k4; omega
        · unfold bef at k3 ⊢; omega
    · have h2' : rd (rd_L1 tab (p : Int)) (q : Int) = (d : Int) := h2
      refine Ev.step (fun k => h4 k) (Ev.step (f := fun k => mizmazeref03_Table.j6 k (n : Int) tab ((kk + 1 : Nat) : Int) more (p : Int) (q : Int) ((0 : Nat) : Int) false rows) (fun k => ?_) (Ev.step (fun k => ?_) hres))
      · rw [mizmazeref03_Table.l5, if_pos (by omega), if_pos (by rw [h.shape.len]; omega), if_pos (by omega), if_pos (by rw [h.shape.row p hp]; omega), h2', if_neg (by omega)]
      · rw [mizmazeref03_Table.j6, if_neg (by decide), wrapS (by omega)]
  · obtain ⟨tab', more', k1, k2⟩ := cell_loop V hp hq hkk h h1 h2 m 0 (by omega) fun y hy => by omega
    exact ⟨tab', more', k1, fun res hres => Ev.step (fun k => h4 k) (k2 res hres)⟩
theorem row_loop {kk p : Nat} (hp : p < n) (hkk : kk ≤ 1000000) : ∀ (e q : Nat) (tab : List (List Int)) (more : Bool), q + e = n → InPass (nx rows) m n tab (kk + 1) p q more →
    ∃ tab' more', InPass (nx rows) m n tab' (kk + 1) (p + 1) 0 more' ∧ ∀ res, Ev (fun k => mizmazeref03_Table.l3 k (n : Int) tab' ((kk + 1 : Nat) : Int) more' ((p + 1 : Nat) : Int) rows) res → Ev (fun k => mizmazeref03_Table.l4 k (n : Int) tab ((kk + 1 : Nat) : Int) more (p : Int) (q : Int) rows) res := by
  have hn60 := V.n60
  intro e
  induction e with
  | zero =>
    intro q tab more hq h
    obtain rfl : q = n := by omega
    have eq : ∀ a b, b < q → (bef a b (p + 1) 0 ↔ bef a b p q) := fun a b hb => by unfold bef; omega
    refine ⟨tab, more, ⟨h.shape, fun a b ha hb => ?_, ?_⟩, fun res hres => Ev.step (fun k => ?_) hres⟩
    · have := h.ent a b ha hb
      rwa [ite_iff (eq a b hb)]
    · rw [h.more]
      constructor
      · rintro ⟨a, b, k1, k2, k3, k4⟩; exact ⟨a, b, k1, k2, (eq a b k2).2 k3, k4⟩
      · rintro ⟨a, b, k1, k2, k3, k4⟩; exact ⟨a, b, k1, k2, (eq a b k2).1 k3, k4⟩
    · rw [mizmazeref03_Table.l4, if_neg (by omega), wrapS (by omega)]
  | succ e ih =>
    intro q tab more hq h
    obtain ⟨tab1, more1, h1, h2⟩ := cell V hp (by omega) hkk h
    obtain ⟨tab2, more2, h3, h4⟩ := ih (q + 1) tab1 more1 (by omega) h1
    exact ⟨tab2, more2, h3, fun res hres => h2 res (h4 res hres)⟩
theorem pass_loop {kk : Nat} (hkk : kk ≤ 1000000) : ∀ (e p : Nat) (tab : List (List Int)) (more : Bool), p + e = n → InPass (nx rows) m n tab (kk + 1) p 0 more →
    ∃ tab' more', InPass (nx rows) m n tab' (kk + 1) n 0 more' ∧ ∀ res, Ev (fun k => mizmazeref03_Table.l2 k (n : Int) tab' ((kk + 2 : Nat) : Int) more' rows) res → Ev (fun k => mizmazeref03_Table.l3 k (n : Int) tab ((kk + 1 : Nat) : Int) more (p : Int) rows) res := by
  have hn60 := V.n60
  intro e
  induction e with
  | zero =>
    intro p tab more hp h
    obtain rfl : p = n := by omega
    refine ⟨tab, more, h, fun res hres => Ev.step (fun k => ?_) hres⟩
    rw [mizmazeref03_Table.l3, if_neg (by omega), wrapS (by omega)]
  | succ e ih =>
    intro p tab more hp h
    obtain ⟨tab1, more1, h1, h2⟩ := row_loop V (p := p) (by omega) hkk n 0 tab more (by omega) h
    obtain ⟨tab2, more2, h3, h4⟩ := ih (p + 1) tab1 more1 (by omega) h1
    refine ⟨tab2, more2, h3, fun res hres => Ev.step (fun k => ?_) (h2 res (h4 res hres))⟩
    rw [mizmazeref03_Table.l3, if_pos (by omega)]; rfl
/-- What the table says in the end. -/
structure TabOk (f : Nat → Nat → Nat) (m n : Nat) (tab : List (List Int)) : Prop where
  shape : Shape tab n
  ent : ∀ p q, p < n → q < n → (∃ d : Nat, TT tab p q = (d : Int) ∧ MDist f m p q d) ∨ (TT tab p q = -1 ∧ ¬ Mg f m p q)
theorem passes : ∀ (e kk : Nat) (tab : List (List Int)), kk + e = n * n + 1 → Shape tab n → (∀ p q, p < n → q < n → Ent (nx rows) m tab (kk + 1) p q) →
    ∃ tab', TabOk (nx rows) m n tab' ∧ Ev (fun k => mizmazeref03_Table.l2 k (n : Int) tab ((kk + 1 : Nat) : Int) true rows) tab' := by
  have hn60 := V.n60
  have hnn : n * n ≤ 3600 := Nat.mul_le_mul hn60 hn60
  intro e
  induction e with
  | zero =>
    intro kk tab hk hs he
    obtain ⟨tab', more', h1, h2⟩ := pass_loop V (kk := kk) (by omega) n 0 tab false (by omega) ⟨hs, fun p q hp hq => by rw [if_neg (by unfold bef; omega)]; exact he p q hp hq, ⟨fun h => by simp at h, fun ⟨p, q, _, _, h3, _⟩ => by unfold bef at h3; omega⟩⟩
    have hb : ∀ p q, p < n → bef p q n 0 := fun p q hp => Or.inl hp
    have hm : more' = false := by
      cases hmm : more' with
      | false => rfl
      | true =>
        obtain ⟨p, q, hp, hq, _, hd⟩ := h1.more.1 hmm
        have := hd.lt (fun s x => V.nxLt) hp hq
        omega
    subst hm
    refine ⟨tab', ⟨h1.shape, fun p q hp hq => ?_⟩, ?_⟩
    · have := h1.ent p q hp hq
      rw [if_pos (hb p q hp)] at this
      rcases this with ⟨d, _, h3, h4⟩ | ⟨h3, h4⟩
      · exact Or.inl ⟨d, h3, h4⟩
      · refine Or.inr ⟨h3, fun hmg => ?_⟩
        obtain ⟨d, hd⟩ := hmg.dist
        have := hd.lt (fun s x => V.nxLt) hp hq
        exact h4 d (by omega) hd
    · refine Ev.step (fun k => ?_) (h2 _ (Ev.step (fun k => ?_) (Ev.now tab')))
      · rw [mizmazeref03_Table.l2, if_pos rfl]; rfl
      · rw [mizmazeref03_Table.l2, if_neg (by decide)]
  | succ e ih =>
    intro kk tab hk hs he
    obtain ⟨tab', more', h1, h2⟩ := pass_loop V (kk := kk) (by omega) n 0 tab false (by omega) ⟨hs, fun p q hp hq => by rw [if_neg (by unfold bef; omega)]; exact he p q hp hq, ⟨fun h => by simp at h, fun ⟨p, q, _, _, h3, _⟩ => by unfold bef at h3; omega⟩⟩
    have hb : ∀ p q, p < n → bef p q n 0 := fun p q hp => Or.inl hp
    have he' : ∀ p q, p < n → q < n → Ent (nx rows) m tab' (kk + 2) p q := fun p q hp hq => by
      have := h1.ent p q hp hq
      rwa [if_pos (hb p q hp)] at this
    cases more' with
    | true =>
      obtain ⟨tab2, h3, h4⟩ := ih (kk + 1) tab' (by omega) h1.shape he'
      refine ⟨tab2, h3, Ev.step (fun k => ?_) (h2 _ h4)⟩
      rw [mizmazeref03_Table.l2, if_pos rfl]; rfl
    | false =>
      have hno : ∀ p q, p < n → q < n → ¬ MDist (nx rows) m p q (kk + 1) := fun p q hp hq hd => by
        have := h1.more.2 ⟨p, q, hp, hq, hb p q hp, hd⟩
        cases this
      refine ⟨tab', ⟨h1.shape, fun p q hp hq => ?_⟩, ?_⟩
      · rcases he' p q hp hq with ⟨d, _, h3, h4⟩ | ⟨h3, h4⟩
        · exact Or.inl ⟨d, h3, h4⟩
        · refine Or.inr ⟨h3, fun hmg => ?_⟩
          obtain ⟨d, hd⟩ := hmg.dist
          have := far_none (fun s x => V.nxLt) hno d p q hp hq hd
          exact h4 d (by omega) hd
      · refine Ev.step (fun k => ?_) (h2 _ (Ev.step (fun k => ?_) (Ev.now tab')))
        · rw [mizmazeref03_Table.l2, if_pos rfl]; rfl
        · rw [mizmazeref03_Table.l2, if_neg (by decide)]
/-- The first table. -/
theorem first_row {tab : List (List Int)} {p : Nat} (hp : p < n) (ht : tab.length = p) (res : List (List Int)) : ∀ (e q : Nat) (row : List Int), q + e = n → row.length = n → (∀ j, j < n → rd row (j : Int) = if j < q ∧ j ≠ p then -1 else 0) →
    (∀ row' : List Int, row'.length = n → (∀ j, j < n → rd row' (j : Int) = if j ≠ p then -1 else 0) → Ev (fun k => mizmazeref03_Table.l0 k (n : Int) (tab ++ [row']) ((p + 1 : Nat) : Int) rows) res) →
    Ev (fun k => mizmazeref03_Table.l1 k (n : Int) tab (p : Int) row (q : Int) rows) res := by
  have hn60 := V.n60
  intro e
  induction e with
  | zero =>
    intro q row hq hl hr hk
    obtain rfl : q = n := by omega
    refine Ev.step (fun k => ?_) (hk row hl fun j hj => by rw [hr j hj]; by_cases h : j = p <;> simp [h, hj])
    rw [mizmazeref03_Table.l1, if_neg (by omega), if_pos (by omega), wrapS (by omega)]
  | succ e ih =>
    intro q row hq hl hr hk
    by_cases hqp : q = p
    · subst hqp
      refine Ev.step (fun k => ?_) (ih (q + 1) row (by omega) hl (fun j hj => by
        rw [hr j hj]
        by_cases h1 : j = q
        · simp [h1]
        · rcases Nat.lt_or_ge j q with h2 | h2
          · rw [if_pos ⟨h2, h1⟩, if_pos ⟨by omega, h1⟩]
          · rw [if_neg (by omega), if_neg (by omega)]) hk)
      rw [mizmazeref03_Table.l1, if_pos (by omega), if_pos (by omega), wrapS (by omega)]
    · refine Ev.step (fun k => ?_) (ih (q + 1) (row.set q (-1)) (by omega) (by rw [List.length_set]; exact hl) (fun j hj => by
        rw [rdS_set (by omega), hr j hj]
        by_cases h1 : q = j
        · subst h1; rw [if_pos rfl, if_pos ⟨by omega, hqp⟩]
        · rw [if_neg h1]
          rcases Nat.lt_or_ge j q with h2 | h2
          · by_cases h3 : j = p
            · rw [if_neg (by omega), if_neg (by omega)]
            · rw [if_pos ⟨h2, h3⟩, if_pos ⟨by omega, h3⟩]
          · rw [if_neg (by omega), if_neg (by omega)]) hk)
      rw [mizmazeref03_Table.l1, if_pos (by omega), if_neg (by omega), if_pos (by omega), if_pos (by omega), wrapS (by omega)]
      simp only [Int.toNat_natCast]
theorem rows_snoc {tab : List (List Int)} {row : List Int} {j : Nat} : rd_L1 (tab ++ [row]) (j : Int) = if j < tab.length then rd_L1 tab (j : Int) else if j = tab.length then row else [] := by
  rw [rdLN, rdLN]
  rcases Nat.lt_trichotomy j tab.length with h | h | h
  · rw [if_pos h, List.getD_eq_getElem?_getD, List.getElem?_append_left h, ← List.getD_eq_getElem?_getD]
  · rw [if_neg (by omega), if_pos h, List.getD_eq_getElem?_getD, h, List.getElem?_append_right (Nat.le_refl _)]; simp
  · rw [if_neg (by omega), if_neg (by omega), List.getD_eq_getElem?_getD, List.getElem?_eq_none (by simp; omega)]; rfl
theorem first_rows (res : List (List Int)) : ∀ (e p : Nat) (tab : List (List Int)), p + e = n → tab.length = p → (∀ s, s < p → (rd_L1 tab (s : Int)).length = n ∧ ∀ j, j < n → TT tab s j = if j ≠ s then -1 else 0) →
    (∀ tab' : List (List Int), Shape tab' n → (∀ s j, s < n → j < n → TT tab' s j = if j ≠ s then -1 else 0) → Ev (fun k => mizmazeref03_Table.l2 k (n : Int) tab' ((0 + 1 : Nat) : Int) true rows) res) →
    Ev (fun k => mizmazeref03_Table.l0 k (n : Int) tab (p : Int) rows) res := by
  have hn60 := V.n60
  intro e
  induction e with
  | zero =>
    intro p tab hp hl hr hk
    obtain rfl : p = n := by omega
    refine Ev.step (fun k => ?_) (hk tab ⟨hl, fun s hs => (hr s hs).1⟩ fun s j hs hj => (hr s hs).2 j hj)
    rw [mizmazeref03_Table.l0, if_neg (by omega)]; rfl
  | succ e ih =>
    intro p tab hp hl hr hk
    have hpn : p < n := by omega
    refine Ev.step (fun k => ?_) (first_row V hpn hl res n 0 (List.replicate n 0) (by omega) (by simp) (fun j hj => by
      rw [rdE (by simpa using hj), List.getElem_replicate, if_neg (by omega)]) fun row' h1 h2 => ih (p + 1) _ (by omega) (by simp [hl]) (fun s hs => ?_) hk)
    · rw [mizmazeref03_Table.l0, if_pos (by omega), if_pos (by omega), if_pos (by simp; omega)]
      simp only [Int.toNat_natCast]; rfl
    · unfold TT
      rw [rows_snoc V, hl]
      rcases Nat.lt_or_ge s p with h3 | h3
      · rw [if_pos h3]; exact hr s h3
      · obtain rfl : s = p := by omega
        rw [if_neg (by omega), if_pos rfl]
        exact ⟨h1, h2⟩
theorem ref_table : ∃ tab, TabOk (nx rows) m n tab ∧ Ev (fun k => mizmazeref03_Table.f k rows) tab := by
  have hn60 := V.n60
  have key : ∀ tab' : List (List Int), Shape tab' n → (∀ s j, s < n → j < n → TT tab' s j = if j ≠ s then -1 else 0) → ∃ tab, TabOk (nx rows) m n tab ∧ Ev (fun k => mizmazeref03_Table.l2 k (n : Int) tab' ((0 + 1 : Nat) : Int) true rows) tab := by
    intro tab' hs ht
    refine passes V (n * n + 1) 0 tab' (by omega) hs fun p q hp hq => ?_
    unfold Ent
    rw [ht p q hp hq]
    by_cases h : q = p
    · subst h
      exact Or.inl ⟨0, by omega, by simp, MDist.zero _ _ _⟩
    · refine Or.inr ⟨by rw [if_pos h], fun d hd hdd => ?_⟩
      obtain rfl : d = 0 := by omega
      exact h hdd.eq0.symm
  have hst : ∀ tab' tab'' : List (List Int), Shape tab' n → Shape tab'' n → (∀ s j, s < n → j < n → TT tab' s j = if j ≠ s then -1 else 0) → (∀ s j, s < n → j < n → TT tab'' s j = if j ≠ s then -1 else 0) → tab' = tab'' := by
    intro t1 t2 s1 s2 h1 h2
    refine List.ext_getElem (s1.len.trans s2.len.symm) fun i hi1 hi2 => ?_
    have hin : i < n := s1.len ▸ hi1
    have e1 := rdLE hi1
    have e2 := rdLE hi2
    rw [← e1, ← e2]
    refine List.ext_getElem ((s1.row i hin).trans (s2.row i hin).symm) fun j hj1 hj2 => ?_
    have hjn : j < n := s1.row i hin ▸ hj1
    have a := h1 i j hin hjn
    have b := h2 i j hin hjn
    unfold TT at a b
    rw [rdE hj1] at a; rw [rdE hj2] at b
    rw [a, b]
  have hex : ∃ t0 : List (List Int), Shape t0 n ∧ ∀ s j, s < n → j < n → TT t0 s j = if j ≠ s then -1 else 0 := by
    refine ⟨(List.range n).map fun s => (List.range n).map fun j => if j ≠ s then -1 else 0, ⟨by simp, fun p hp => ?_⟩, fun s j hs hj => ?_⟩
    · rw [rdLE (by simpa using hp)]; simp
    · unfold TT
      rw [rdLE (by simpa using hs), rdE (by simpa using hj)]; simp
  obtain ⟨t0, hs0, ht0⟩ := hex
  obtain ⟨tab, h1, h2⟩ := key t0 hs0 ht0
  refine ⟨tab, h1, ?_⟩
  unfold mizmazeref03_Table.f
  rw [V.len]
  exact first_rows V tab n 0 [] (by omega) rfl (fun s hs => by omega) fun tab' k1 k2 => by rw [hst tab' t0 k1 hs0 k2 ht0]; exact h2
end
end Go.Proofs.Ytcpmmkennnjalaa.Q
end
