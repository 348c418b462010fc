/- An automaton is Eulerian exactly if the preimages of each single state by all letters have, together, one state for each letter; and then those of any set the number of letters times the number of states of the set. (text 8 of 22) -/
import Derived.Test.YtcpmmkennnjalaaZEulerMeansf
import Derived.ProofKit
import Derived.OpenShut
import Derived.ChangeOld
import Derived.ChangeSlices
import Derived.Deep.Matrix
import Derived.Test.YtcpmmkennnjalaaZEulerMeansg
section
namespace Go.Proofs.Ytcpmmkennnjalaa.Q
open Go.RowKit Go.Proofs.YtcpmmkennnjalaaW.PrintWords Go.Proofs.YtcpmmkennnjalaaW.PrintLast Go.Proofs.YtcpmmkennnjalaaW.PrintMore
open Go.ChangeShapes Go.WideShapes
set_option linter.unusedVariables false
set_option linter.unusedSimpArgs false

/-- The numbers of a list are int's. -/
def IntsOk (l : List Int) : Prop := l.length ≤ 9223372036854775807 ∧ ∀ z ∈ l, -9223372036854775808 ≤ z ∧ z ≤ 9223372036854775807
def RowsOk (rows : List (List Int)) : Prop := rows.length ≤ 9223372036854775807 ∧ ∀ row ∈ rows, IntsOk row
theorem int_wf {z : Int} (h : (Lit.int .i64 z).wf = true) : -9223372036854775808 ≤ z ∧ z ≤ 9223372036854775807 := by
  have hmin : IntKind.i64.min = -9223372036854775808 := rfl
  have hmax : IntKind.i64.max = 9223372036854775807 := rfl
  simp only [Lit.wf, Bool.and_eq_true, decide_eq_true_eq] at h
  omega

section
variable {H : Type} {enc : TypeId × Value → H} {P : Program} {w : World} {held : Bool}
theorem cints {A : Addr} {n : Nat} {zs : List Int} (hz : n ≤ zs.length) (hn : n ≤ 9223372036854775807) (hc : ∀ i, i < n → w.cell? (A.add i) = some (.int .i64 (zs.getD i 0))) :
    Kd.C (Kd.int .i64) w (some A) (zs.take n).length (zs.take n) := by
  have hl : (zs.take n).length = n := by rw [List.length_take]; omega
  refine ⟨rfl, by omega, fun h => ⟨A, rfl, fun j p hj => ⟨[.int .i64 p], rfl, rfl, fun i u hu => ?_⟩⟩⟩
  cases i with
  | zero =>
    simp only [List.getElem?_cons_zero, Option.some.injEq] at hu
    subst hu
    have hj' : j < n := by have := (List.getElem?_eq_some_iff.1 hj).1; omega
    have := hc j hj'
    rw [List.getElem?_take_of_lt hj'] at hj
    simp only [Kd.int, Kd.scalar, Nat.mul_one, Nat.add_zero]
    rw [this, List.getD_eq_getElem?_getD, hj]
    rfl
  | succ i => simp at hu
theorem open_intsC {t e : TypeId} {a : Option Addr} {n c : Nat} {d : DataW H} {ps : List MemPlace} (ht : P.underlying t = some (.slice e)) (he : P.underlying e = some (.int .i64)) (hc : P.cellsOf e = 1)
    (h : DataW.Trod enc P w 0 (fun _ => true) held t (.slice a n c) d ps) : ∃ l : List Int, n = l.length ∧ l.length ≤ c ∧ Kd.C (Kd.int .i64) w a l.length l ∧ IntsOk l := by
  obtain ⟨fuel, hf⟩ := h
  rcases open_ints ht he hc hf with ⟨hcs, _⟩ | ⟨x, l, cc, zs, hcs, _, hl, hm, hz, _, hcell, hwz⟩
  · simp [Value.cells] at hcs
    obtain ⟨rfl, rfl, rfl⟩ := hcs
    exact ⟨[], rfl, Nat.le_refl _, Kd.C_nil _ _, by simp [IntsOk], by simp⟩
  · simp [Value.cells] at hcs
    obtain ⟨rfl, rfl, rfl⟩ := hcs
    simp only [if_true] at hz
    unfold maxLen at hm
    have hl2 : (zs.take n).length = n := by rw [List.length_take]; omega
    refine ⟨zs.take n, hl2.symm, by omega, cints (by omega) (by omega) (fun i hi => hcell i (by omega)), by omega, fun z hz => int_wf (hwz z (List.mem_of_mem_take hz))⟩
theorem open_rowsC {t e q : TypeId} {fuel : Nat} {cs : List Value} {x : DataW H × List MemPlace} (ht : P.underlying t = some (.slice e)) (he : P.underlying e = some (.slice q)) (hq : P.underlying q = some (.int .i64))
    (ce : P.cellsOf e = 1) (cq : P.cellsOf q = 1) (h : DataW.trod enc P w 0 (fun _ => true) held fuel t cs = some x) (h3 : q = 3) :
    ∃ (a : Option Addr) (c : Nat) (rows : List (List Int)), cs = [.slice a rows.length c] ∧ rows.length ≤ c ∧ Kd.C (Kd.slice 3 (Kd.int .i64)) w a rows.length rows ∧ RowsOk rows := by
  subst h3
  rcases Go.Deep.open_int_rows ht he hq ce cq h with ⟨rfl, _⟩ | ⟨a, len, cap, A, L, C, Z, rfl, _, hl, hm, _, hr⟩
  · exact ⟨none, 0, [], rfl, Nat.le_refl _, Kd.C_nil _ _, by simp [RowsOk], by simp⟩
  · unfold maxLen at hm
    have hlen : ((List.range len).map fun r => (Z r).take (L r)).length = len := by simp
    refine ⟨some a, cap, (List.range len).map fun r => (Z r).take (L r), by rw [hlen], by omega, ⟨rfl, by omega, fun _ => ⟨a, rfl, fun j p hj => ?_⟩⟩, by omega, ?_⟩
    · have hj' : j < len := by have := (List.getElem?_eq_some_iff.1 hj).1; omega
      rw [List.getElem?_map, List.getElem?_range hj'] at hj
      simp only [Option.map_some, Option.some.injEq] at hj
      subst hj
      obtain ⟨h1, h2, h3, h4, h5, h6, h7⟩ := hr j (by omega)
      unfold maxLen at h3
      have hl2 : ((Z j).take (L j)).length = L j := by rw [List.length_take]; omega
      refine ⟨[.slice (A j) (L j) (C j)], rfl, ⟨A j, C j, by rw [hl2], by omega, ?_⟩, fun i u hu => ?_⟩
      · cases hA : A j with
        | none =>
          have : (Z j).take (L j) = [] := List.eq_nil_of_length_eq_zero (by have := h6 hA; omega)
          rw [this]
          exact Kd.C_nil _ _
        | some a' => exact cints (by omega) (by omega) (fun i hi => (h7 a' hA).2 i (by omega))
      · cases i with
        | zero =>
          simp only [List.getElem?_cons_zero, Option.some.injEq] at hu
          subst hu
          simpa [Kd.slice] using h1
        | succ i => simp at hu
    · intro row hrow
      obtain ⟨r, hr2, rfl⟩ := List.mem_map.1 hrow
      have hr3 : r < len := by simpa using hr2
      obtain ⟨h1, h2, h3, h4, h5, h6, h7⟩ := hr r (by omega)
      unfold maxLen at h3
      exact ⟨by rw [List.length_take]; omega, fun z hz => int_wf (h5 z (List.mem_of_mem_take hz))⟩
/-- A struct of one field, rows of numbers, by value. -/
theorem open_autoC {t tr e : TypeId} {f0 : Field} {v : Value} {r : Reach} {b0 : Nat} {d : DataW H} {ps : List MemPlace} (hs : P.underlying t = some (.struct #[f0])) (hf0 : f0.type = tr) (ho : f0.offset = 0) (hC : P.cellsOf t = 1) (hC0 : P.cellsOf tr = 1) (ht : P.underlying tr = some (.slice e)) (he : P.underlying e = some (.slice 3)) (hq : P.underlying 3 = some (.int .i64))
    (ce : P.cellsOf e = 1) (cq : P.cellsOf 3 = 1) (hv : Value.okWide P w r b0 t v) (h : DataW.Trod enc P w 0 (fun _ => true) held t v d ps) :
    ∃ (a : Option Addr) (c : Nat) (rows : List (List Int)), v = .agg #[.slice a rows.length c] ∧ rows.length ≤ c ∧ Kd.C (Kd.slice 3 (Kd.int .i64)) w a rows.length rows ∧ RowsOk rows := by
  obtain ⟨cs, rfl, hsz⟩ := okWide_struct hs hv
  obtain ⟨fuel, hf⟩ := h
  obtain ⟨y0, n, _, _, h0⟩ := trod_struct1 hs hf
  subst hf0
  rw [ho, hC0] at h0
  obtain ⟨l⟩ := cs
  match l, hsz.trans hC with
  | [c0], _ =>
    simp only [Value.cells, List.drop_zero] at h0
    obtain ⟨a', c', rows, hcs, r1, r2, r3⟩ := open_rowsC ht he hq ce cq h0 rfl
    simp at hcs
    subst hcs
    exact ⟨_, _, rows, rfl, r1, r2, r3⟩
end
end Go.Proofs.Ytcpmmkennnjalaa.Q
end
section
namespace Go.Proofs.Ytcpmmkennnjalaa.Q
open Go.RowKit Go.Proofs.YtcpmmkennnjalaaW.PrintWords Go.Proofs.YtcpmmkennnjalaaW.PrintLast Go.Proofs.YtcpmmkennnjalaaW.PrintMore
set_option linter.unusedVariables false

/-! ### numbers and lists -/
theorem wrapS {i : Nat} (h : i + 1 ≤ 9223372036854775807) : wrap64 ((i : Int) + 1) = ((i + 1 : Nat) : Int) := by
  unfold wrap64; omega
theorem wrapI {z : Int} (h0 : -9223372036854775808 ≤ z) (h : z ≤ 9223372036854775807) : wrap64 z = z := by
  unfold wrap64; omega
theorem rdN (l : List Int) (i : Nat) : rd l (i : Int) = l.getD i 0 := rfl
theorem rdE {l : List Int} {i : Nat} (h : i < l.length) : rd l (i : Int) = l[i] := by
  rw [rdN, List.getD_eq_getElem?_getD, List.getElem?_eq_getElem h]; rfl
theorem rdLN (l : List (List Int)) (i : Nat) : rd_L1 l (i : Int) = l.getD i [] := rfl
theorem rdLE {l : List (List Int)} {i : Nat} (h : i < l.length) : rd_L1 l (i : Int) = l[i] := by
  rw [rdLN, List.getD_eq_getElem?_getD, List.getElem?_eq_getElem h]; rfl
theorem rd_in {l : List Int} {n x : Int} (h : inB n l = true) (h0 : 0 ≤ x) (h1 : x < l.length) : 0 ≤ rd l x ∧ rd l x < n := by
  obtain ⟨i, rfl⟩ := Int.eq_ofNat_of_zero_le h0
  rw [rdE (by omega)]
  unfold inB at h
  rw [List.all_eq_true] at h
  simpa using h _ (List.getElem_mem (by omega : i < l.length))
/-! ### reference 1 -/
theorem ref_below (l : List Int) (n : Int) (hl : l.length ≤ 9223372036854775806) : Ev (fun k => mizmazeref01_Below.f k l n) (inB n l) := by
  have key : ∀ d i : Nat, i + d = l.length → Ev (fun k => mizmazeref01_Below.l0 k l n (i : Int)) (inB n (l.drop i)) := by
    intro d
    induction d with
    | zero =>
      intro i hi
      refine Ev.step (f := fun _ => some true) (fun k => by rw [mizmazeref01_Below.l0, if_neg (by omega)]) ?_
      rw [List.drop_eq_nil_of_le (by omega)]
      exact Ev.now true
    | succ d ih =>
      intro i hi
      have hlt : i < l.length := by omega
      have e : inB n (l.drop i) = (decide (0 ≤ l[i] ∧ l[i] < n) && inB n (l.drop (i + 1))) := by
        rw [List.drop_eq_getElem_cons hlt]; rfl
      rw [e]
      by_cases h1 : l[i] < 0
      · refine Ev.step (f := fun _ => some false) (fun k => by rw [mizmazeref01_Below.l0, if_pos (by omega), if_pos (by omega), rdE hlt, if_pos h1]) ?_
        rw [decide_eq_false (by omega)]
        exact Ev.now false
      · by_cases h2 : l[i] ≥ n
        · refine Ev.step (f := fun _ => some false) (fun k => by rw [mizmazeref01_Below.l0, if_pos (by omega), if_pos (by omega), rdE hlt, if_neg h1, if_pos h2]) ?_
          rw [decide_eq_false (by omega)]
          exact Ev.now false
        · refine Ev.step (f := fun k => mizmazeref01_Below.l0 k l n ((i + 1 : Nat) : Int)) (fun k => by rw [mizmazeref01_Below.l0, if_pos (by omega), if_pos (by omega), rdE hlt, if_neg h1, if_neg h2, wrapS (by omega)]) ?_
          rw [decide_eq_true (by omega)]
          exact ih (i + 1) (by omega)
  exact key l.length 0 (by omega)
theorem Ev.next {α : Type} {g : Nat → Option α} {r : α} (h : Ev (fun k => g (k + 1)) r) : Ev g r := Ev.step (fun _ => rfl) h
/-- A loop that asks a question of each number below n. -/
theorem Ev.every {α : Type} {g : Nat → Nat → Option α} {n : Nat} {yes no r : α} (p : Nat → Bool)
    (hy : (∀ i, i < n → p i = true) → r = yes) (hn : ∀ i, i < n → p i = false → r = no)
    (go : ∀ i, i < n → p i = true → Ev (fun k => g k (i + 1)) r → Ev (fun k => g k i) r)
    (stop : ∀ i, i < n → p i = false → Ev (fun k => g k i) no) (fin : Ev (fun k => g k n) yes) : Ev (fun k => g k 0) r := by
  have key : ∀ d i : Nat, i + d = n → (∀ j, j < i → p j = true) → Ev (fun k => g k i) r := by
    intro d
    induction d with
    | zero =>
      intro i hi hj
      obtain rfl : i = n := by omega
      rw [hy hj]; exact fin
    | succ d ih =>
      intro i hi hj
      cases hp : p i with
      | false => rw [hn i (by omega) hp]; exact stop i (by omega) hp
      | true =>
        refine go i (by omega) hp (ih (i + 1) (by omega) fun j h => ?_)
        rcases Nat.lt_or_ge j i with h4 | h4
        · exact hj j h4
        · obtain rfl : j = i := by omega
          exact hp
  exact key n 0 (by omega) fun j h => by omega
theorem inB_iff {n : Int} {l : List Int} : inB n l = true ↔ ∀ i (h : i < l.length), 0 ≤ l[i] ∧ l[i] < n := by
  unfold inB
  rw [List.all_eq_true]
  refine ⟨fun h i hi => by simpa using h _ (List.getElem_mem hi), fun h x hx => ?_⟩
  obtain ⟨i, hi, rfl⟩ := List.getElem_of_mem hx
  simpa using h i hi
/-- What a valid automaton is. -/
structure VA (rows : List (List Int)) (n m : Nat) : Prop where
  len : rows.length = n
  n0 : 0 < n
  n60 : n ≤ 60
  m0 : 0 < m
  m6 : m ≤ 6
  row : ∀ s, s < n → (rd_L1 rows (s : Int)).length = m
  ent : ∀ s, s < n → inB n (rd_L1 rows (s : Int)) = true
theorem any_bad {l : List (List Int)} {p : List Int → Bool} : l.any p = false ↔ ∀ i, i < l.length → p (rd_L1 l (i : Int)) = false := by
  rw [List.any_eq_false]
  refine ⟨fun h i hi => by rw [rdLE hi]; simpa using h _ (List.getElem_mem hi), fun h x hx => ?_⟩
  obtain ⟨i, hi, rfl⟩ := List.getElem_of_mem hx
  have := h i hi
  rw [rdLE hi] at this
  simp [this]
theorem validB_iff {rows : List (List Int)} : validB rows = true ↔ VA rows rows.length (rd_L1 rows 0).length := by
  unfold validB kOf badB
  rw [Bool.and_eq_true, decide_eq_true_eq, Bool.not_eq_true', any_bad]
  constructor
  · rintro ⟨⟨h1, h2, h3, h4⟩, h5⟩
    have e := fun s (h : s < rows.length) => h5 s h
    simp only [Bool.or_eq_false_iff, decide_eq_false_iff_not, Bool.not_eq_false', Classical.not_not] at e
    exact ⟨rfl, by omega, by omega, by omega, by omega, fun s h => by have := (e s h).1; omega, fun s h => (e s h).2⟩
  · intro V
    have := V.n0; have := V.n60; have := V.m0; have := V.m6
    refine ⟨⟨by omega, by omega, by omega, by omega⟩, fun i hi => ?_⟩
    have := V.row i hi
    simp only [Bool.or_eq_false_iff, decide_eq_false_iff_not, Bool.not_eq_false', Classical.not_not]
    exact ⟨by omega, V.ent i hi⟩
theorem validB_of {rows : List (List Int)} {n m : Nat} (V : VA rows n m) : validB rows = true := by
  refine validB_iff.2 ?_
  have h1 := V.len; subst h1
  have h2 : (rd_L1 rows 0).length = m := V.row 0 V.n0
  rw [h2]; exact V
theorem ref_valid (rows : List (List Int)) (ho : RowsOk rows) : Ev (fun k => mizmazeref01_Valid.f k rows) (validB rows) := by
  unfold mizmazeref01_Valid.f
  have big : Ev (fun k => mizmazeref01_Valid.j0 k (rows.length : Int) true rows) false := by
    refine Ev.next ?_; simp only [mizmazeref01_Valid.j0, if_true]; exact Ev.now _
  by_cases h1 : rows.length = 0
  · have e : validB rows = false := by rw [Bool.eq_false_iff]; intro h; have := (validB_iff.1 h).n0; omega
    rw [e]; simp only [if_pos (by omega : (rows.length : Int) = 0)]; exact big
  by_cases h2 : rows.length > 60
  · have e : validB rows = false := by rw [Bool.eq_false_iff]; intro h; have := (validB_iff.1 h).n60; omega
    rw [e]; simp only [if_neg (by omega : ¬ (rows.length : Int) = 0), if_pos (by omega : (rows.length : Int) > 60)]; exact big
  simp only [if_neg (by omega : ¬ (rows.length : Int) = 0), if_neg (by omega : ¬ (rows.length : Int) > 60), if_pos (by omega : 0 < (rows.length : Int))]
  by_cases h3 : (rd_L1 rows 0).length = 0
  · have e : validB rows = false := by rw [Bool.eq_false_iff]; intro h; have := (validB_iff.1 h).m0; omega
    rw [e]; simp only [if_pos (by omega : ((rd_L1 rows 0).length : Int) = 0)]; exact big
  simp only [if_neg (by omega : ¬ ((rd_L1 rows 0).length : Int) = 0)]
  by_cases h4 : (rd_L1 rows 0).length > 6
  · have e : validB rows = false := by rw [Bool.eq_false_iff]; intro h; have := (validB_iff.1 h).m6; omega
    rw [e]; simp only [decide_eq_true (by omega : ((rd_L1 rows 0).length : Int) > 6)]; exact big
  simp only [decide_eq_false (by omega : ¬ ((rd_L1 rows 0).length : Int) > 6)]
  refine Ev.next ?_
  simp only [mizmazeref01_Valid.j0, Bool.false_eq_true, if_false]
  refine @Ev.every Bool (fun k i => mizmazeref01_Valid.l0 k (rows.length : Int) (i : Int) rows) rows.length true false _ (fun i => !badB ((rd_L1 rows 0).length) rows.length (rd_L1 rows (i : Int))) ?_ ?_ ?_ ?_ ?_
  · intro h
    unfold validB kOf
    rw [decide_eq_true (by omega), Bool.true_and, Bool.not_eq_true', any_bad]; exact fun i hi => by simpa using h i hi
  · intro i hi hp
    rw [Bool.eq_false_iff]
    intro h; unfold validB kOf at h
    rw [Bool.and_eq_true, Bool.not_eq_true', any_bad] at h
    have := h.2 i hi
    rw [this] at hp; exact Bool.noConfusion hp
  · intro i hi hp hr
    simp only [badB, Bool.not_or, Bool.and_eq_true, Bool.not_eq_true', decide_eq_false_iff_not, Classical.not_not, Bool.not_not] at hp
    refine Ev.next ?_
    have hlen : (rd_L1 rows (i : Int)).length ≤ 9223372036854775806 := by have := hp.1; omega
    simp only [mizmazeref01_Valid.l0, if_pos (by omega : (i : Int) < (rows.length : Int)), if_pos (by omega : (0 : Int) ≤ (i : Int)), if_pos (by omega : 0 < (rows.length : Int)), if_pos hp.1, wrapS (by omega : i + 1 ≤ 9223372036854775807)]
    refine Ev.bind (ref_below _ _ hlen) ?_
    simp only [hp.2, if_true]
    exact hr
  · intro i hi hp
    refine Ev.next ?_
    simp only [mizmazeref01_Valid.l0, if_pos (by omega : (i : Int) < (rows.length : Int)), if_pos (by omega : (0 : Int) ≤ (i : Int)), if_pos (by omega : 0 < (rows.length : Int))]
    by_cases h5 : ((rd_L1 rows (i : Int)).length : Int) = ((rd_L1 rows 0).length : Int)
    · simp only [if_pos h5]
      refine Ev.bind (ref_below _ _ (by omega)) ?_
      have : inB rows.length (rd_L1 rows (i : Int)) = false := by
        simp only [badB, Bool.not_or, Bool.and_eq_false_iff, Bool.not_eq_false', decide_eq_true_eq, Bool.not_not] at hp
        rcases hp with h | h
        · exact absurd h5 h
        · exact h
      simp only [this, Bool.false_eq_true, if_false]
      exact Ev.now _
    · simp only [if_neg h5]; exact Ev.now _
  · refine Ev.next ?_
    simp only [mizmazeref01_Valid.l0, if_neg (by omega : ¬ (rows.length : Int) < (rows.length : Int))]
    exact Ev.now _
theorem auto_state (rows : List (List Int)) (s : Int) : auto_State.f rows s = some (decide (0 ≤ s ∧ s < rows.length)) := by
  unfold auto_State.f
  by_cases h : s ≥ 0
  · rw [if_pos h]; congr 1; rw [decide_eq_decide]; omega
  · rw [if_neg h, decide_eq_false (by omega)]
/-- The state to which a letter leads. -/
def nx (rows : List (List Int)) (s x : Nat) : Nat := (rd (rd_L1 rows (s : Int)) (x : Int)).toNat
theorem VA.nxE {rows : List (List Int)} {n m : Nat} (V : VA rows n m) {s x : Nat} (hs : s < n) (hx : x < m) : rd (rd_L1 rows (s : Int)) (x : Int) = ((nx rows s x : Nat) : Int) := by
  have := rd_in (V.ent s hs) (Int.natCast_nonneg x) (by have := V.row s hs; omega)
  unfold nx; omega
theorem VA.nxLt {rows : List (List Int)} {n m : Nat} (V : VA rows n m) {s x : Nat} (hs : s < n) (hx : x < m) : nx rows s x < n := by
  have := rd_in (V.ent s hs) (Int.natCast_nonneg x) (by have := V.row s hs; omega)
  unfold nx; omega
theorem VA.letters {rows : List (List Int)} {n m : Nat} (V : VA rows n m) : mizmazeref01_Letters.f rows = some (m : Int) := by
  unfold mizmazeref01_Letters.f
  have := V.n0; have := V.len; have := V.row 0 V.n0
  rw [if_pos (by omega)]; congr 1; exact congrArg _ this
end Go.Proofs.Ytcpmmkennnjalaa.Q
end
section
namespace Go.Proofs.Ytcpmmkennnjalaa.Pure
open Go.RowKit Go.Proofs.YtcpmmkennnjalaaW.PrintWords Go.Proofs.YtcpmmkennnjalaaW.PrintLast Go.Proofs.YtcpmmkennnjalaaW.PrintMore Go.Proofs.Ytcpmmkennnjalaa.Q
set_option linter.unusedVariables false
set_option linter.unusedSimpArgs false
/-- how often a state is entered -/
def inn (rows : List (List Int)) (t : Nat) : Nat := (rows.map fun r => r.count (t : Int)).sum
section
variable {rows : List (List Int)} {n m : Nat} (V : VA rows n m)
include V
end
/-! ### the program's count -/
theorem incR_get : ∀ (row c : List Int) (B : Nat), (∀ x ∈ row, 0 ≤ x ∧ x < (c.length : Int)) → (∀ t : Nat, 0 ≤ rd c (t : Int) ∧ rd c (t : Int) ≤ (B : Int)) → B + row.length ≤ 1000000 → ∀ t : Nat, rd (incR c row) (t : Int) = rd c (t : Int) + ((row.count (t : Int) : Nat) : Int)
  | [], c, B, _, _, _, t => by simp [incR]
  | x :: row, c, B, hx, hc, hB, t => by
    obtain ⟨h0, h1⟩ := hx x List.mem_cons_self
    obtain ⟨i, rfl⟩ := Int.eq_ofNat_of_zero_le h0
    have hi : i < c.length := by omega
    have hci := hc i
    simp only [List.length_cons] at hB
    have hw : wrap64 (rd c (i : Int) + 1) = rd c (i : Int) + 1 := wrapI (by omega) (by omega)
    have hset : ∀ u : Nat, rd (c.set i (rd c (i : Int) + 1)) (u : Int) = if u = i then rd c (i : Int) + 1 else rd c (u : Int) := fun u => by
      rw [rdN, rdN, rdN, List.getD_eq_getElem?_getD, List.getElem?_set, List.getD_eq_getElem?_getD]
      by_cases hu : i = u
      · subst hu; rw [if_pos rfl, if_pos hi, if_pos rfl, Option.getD_some]
      · rw [if_neg hu, if_neg (fun h => hu h.symm), List.getD_eq_getElem?_getD]
    have ih := incR_get row (c.set i (rd c (i : Int) + 1)) (B + 1) (fun y hy => by rw [List.length_set]; exact hx y (List.mem_cons_of_mem _ hy)) (fun u => by
      rw [hset u]
      have := hc u
      split <;> omega) (by omega) t
    show rd (incR (c.set ((i : Int).toNat) (wrap64 (rd c (i : Int) + 1))) row) (t : Int) = _
    rw [Int.toNat_natCast, hw, ih, hset t]
    by_cases ht : t = i
    · subst ht; rw [if_pos rfl, List.count_cons_self]; omega
    · rw [if_neg ht, List.count_cons_of_ne (by omega)]
theorem incL_get {n : Nat} : ∀ (rows : List (List Int)) (c : List Int) (B : Nat), c.length = n → (∀ r ∈ rows, r.length ≤ 6 ∧ ∀ x ∈ r, 0 ≤ x ∧ x < (n : Int)) → (∀ t : Nat, 0 ≤ rd c (t : Int) ∧ rd c (t : Int) ≤ (B : Int)) → B + 6 * rows.length ≤ 1000000 → ∀ t : Nat, rd (rows.foldl incR c) (t : Int) = rd c (t : Int) + ((inn rows t : Nat) : Int)
  | [], c, B, _, _, _, _, t => by simp [inn]
  | r :: rows, c, B, hl, hr, hc, hB, t => by
    obtain ⟨h1, h2⟩ := hr r List.mem_cons_self
    simp only [List.length_cons] at hB
    have e := incR_get r c B (fun x hx => by rw [hl]; exact h2 x hx) hc (by omega)
    have ih := incL_get rows (incR c r) (B + 6) (by rw [incR_len, hl]) (fun r' hr' => hr r' (List.mem_cons_of_mem _ hr')) (fun u => by
      have h3 := hc u
      have h4 : r.count (u : Int) ≤ r.length := List.count_le_length
      rw [e u]; omega) (by omega) t
    show rd (rows.foldl incR (incR c r)) (t : Int) = _
    rw [ih, e t]
    unfold inn
    rw [List.map_cons, List.sum_cons]; omega
section
variable {rows : List (List Int)} {n m : Nat} (V : VA rows n m)
include V
theorem eul_val {b : Bool} (hb : b = true ↔ ∀ t, t < n → inn rows t = m) : euler_eulerian.f rows = some b := by
  have hlen := V.len
  unfold euler_eulerian.f
  rw [if_pos (validB_of V)]
  have hL : auto_Letters.f rows = some (m : Int) := by
    have h : (rd_L1 rows 0).length = m := V.row 0 V.n0
    unfold auto_Letters.f
    have h0 := V.n0
    rw [if_pos (by omega), h]
  rw [hL, Option.bind_some, hlen]
  have hin : ∀ r ∈ rows, r.length ≤ 6 ∧ ∀ x ∈ r, 0 ≤ x ∧ x < (n : Int) := fun r hr => by
    obtain ⟨s, hs, rfl⟩ := List.getElem_of_mem hr
    have hm6 := V.m6
    have h1 := V.row s (by omega)
    have h2 := V.ent s (by omega)
    rw [rdLE hs] at h1 h2
    refine ⟨by omega, fun x hx => ?_⟩
    obtain ⟨i, hi, rfl⟩ := List.getElem_of_mem hx
    exact inB_iff.1 h2 i hi
  have hz : ∀ t : Nat, rd (List.replicate n (0 : Int)) (t : Int) = 0 := fun t => by
    rw [rdN, List.getD_eq_getElem?_getD, List.getElem?_replicate]
    split <;> rfl
  have h60 := V.n60
  have key := incL_get (n := n) rows (List.replicate n 0) 0 List.length_replicate hin (fun t => by rw [hz t]; omega) (by omega)
  have hcl : (incL n rows).length = n := incL_len n rows
  have hany : (incL n rows).any (fun x => x != (m : Int)) = !b := by
    rw [Bool.eq_iff_iff, List.any_eq_true, Bool.not_eq_true']
    constructor
    · rintro ⟨x, hx, hne⟩
      obtain ⟨t, ht, rfl⟩ := List.getElem_of_mem hx
      refine Bool.eq_false_iff.2 fun h => ?_
      have e := key t
      rw [hz t, hb.1 h t (by omega)] at e
      have e2 : rd (incL n rows) (t : Int) = (incL n rows)[t] := rdE ht
      have e3 : rd (incL n rows) (t : Int) = 0 + (m : Int) := e
      rw [← e2, e3] at hne
      simp at hne
    · intro h
      have hnot : ¬ ∀ t, t < n → inn rows t = m := fun h2 => by rw [hb.2 h2] at h; cases h
      obtain ⟨t, ht⟩ := Classical.not_forall.1 hnot
      obtain ⟨ht1, ht2⟩ := Classical.not_imp.1 ht
      have e : rd (incL n rows) (t : Int) = 0 + ((inn rows t : Nat) : Int) := by have := key t; rw [hz t] at this; exact this
      have e2 : rd (incL n rows) (t : Int) = (incL n rows)[t]'(by omega) := rdE (by omega)
      refine ⟨(incL n rows)[t]'(by omega), List.getElem_mem _, ?_⟩
      rw [← e2, e]
      simp; omega
  rw [hany, Bool.not_not]
end
end Go.Proofs.Ytcpmmkennnjalaa.Pure
end
section
namespace Go.Proofs.Ytcpmmkennnjalaa.Q
open Go.RowKit Go.Proofs.YtcpmmkennnjalaaW.PrintWords Go.Proofs.YtcpmmkennnjalaaW.PrintLast Go.Proofs.YtcpmmkennnjalaaW.PrintMore
set_option linter.unusedVariables false
end Go.Proofs.Ytcpmmkennnjalaa.Q
end
section
namespace Go.Proofs.Ytcpmmkennnjalaa.Q
open Go.RowKit Go.Proofs.YtcpmmkennnjalaaW.PrintWords Go.Proofs.YtcpmmkennnjalaaW.PrintLast Go.Proofs.YtcpmmkennnjalaaW.PrintMore
set_option linter.unusedVariables false

/-! ### words and where they lead, over a step function f -/
/-- The state to which a word leads. -/
def run (f : Nat → Nat → Nat) : Nat → List Nat → Nat
  | s, [] => s
  | s, x :: w => run f (f s x) w
/-- A word over m letters. -/
def Wd (m : Nat) (w : List Nat) : Prop := ∀ x ∈ w, x < m
theorem VA.runLt {rows : List (List Int)} {n m : Nat} (V : VA rows n m) {s : Nat} (hs : s < n) {w : List Nat} (hw : Wd m w) : run (nx rows) s w < n := by
  induction w generalizing s with
  | nil => exact hs
  | cons x w ih => exact ih (V.nxLt hs (hw x List.mem_cons_self)) fun y hy => hw y (List.mem_cons_of_mem _ hy)
/-! ### the drawers -/
/-! ### lists of bools -/
end Go.Proofs.Ytcpmmkennnjalaa.Q
end
section
namespace Go.Proofs.Ytcpmmkennnjalaa.Q
set_option linter.unusedVariables false
/-! ### words in order: the shorter one first, then by letters -/
/-- The number of a word in this order. -/
def code (m : Nat) (w : List Nat) : Nat := w.foldl (fun a x => m * a + (x + 1)) 0
/-- The number of the first word of k letters. -/
def lo (m : Nat) : Nat → Nat
  | 0 => 0
  | k + 1 => m * lo m k + 1
/-- The first shortest word that leads from s to t. -/
structure Least (f : Nat → Nat → Nat) (m s t : Nat) (w : List Nat) : Prop where
  wd : Wd m w
  ends : run f s w = t
  le : ∀ v, Wd m v → run f s v = t → code m w ≤ code m v
/-- A word as the program has it. -/
def toI (w : List Nat) : List Int := w.map fun (x : Nat) => (x : Int)
theorem toI_snoc (w : List Nat) (x : Nat) : toI (w ++ [x]) = toI w ++ [(x : Int)] := by simp [toI]
theorem toI_len (w : List Nat) : (toI w).length = w.length := by simp [toI]
end Go.Proofs.Ytcpmmkennnjalaa.Q
end
section
namespace Go.Proofs.Ytcpmmkennnjalaa.Q
open Go.RowKit Go.Proofs.YtcpmmkennnjalaaW.PrintWords Go.Proofs.YtcpmmkennnjalaaW.PrintLast Go.Proofs.YtcpmmkennnjalaaW.PrintMore
set_option linter.unusedVariables false
theorem toI_rd {w : List Nat} {i : Nat} (h : i < w.length) : rd (toI w) (i : Int) = ((w[i] : Nat) : Int) := by
  rw [rdE (by rw [toI_len]; exact h)]; simp [toI]
theorem inB_toI {m : Nat} {w : List Nat} : inB (m : Int) (toI w) = true ↔ Wd m w := by
  unfold inB toI
  rw [List.all_eq_true]
  constructor
  · intro h x hx
    have := h (x : Int) (List.mem_map.2 ⟨x, hx, rfl⟩)
    simp at this; omega
  · intro h x hx
    obtain ⟨y, hy, rfl⟩ := List.mem_map.1 hx
    have := h y hy
    simp; omega
/-- A word of the program is a word. -/
theorem toI_of {m : Nat} {l : List Int} (h : inB (m : Int) l = true) : ∃ w, Wd m w ∧ l = toI w := by
  refine ⟨l.map Int.toNat, ?_, ?_⟩
  · intro x hx
    obtain ⟨y, hy, rfl⟩ := List.mem_map.1 hx
    unfold inB at h; rw [List.all_eq_true] at h
    have := h y hy; simp at this; omega
  · unfold toI
    rw [List.map_map]
    symm
    rw [List.map_congr_left (g := id) (fun y hy => by
      unfold inB at h; rw [List.all_eq_true] at h
      have := h y hy; simp at this ⊢; omega)]
    simp
theorem auto_lead {rows : List (List Int)} {n m s : Nat} (V : VA rows n m) (hs : s < n) {w : List Nat} (hw : Wd m w) (hl : w.length ≤ 1000000) : Ev (fun k => auto_Lead.f k rows (s : Int) (toI w)) ((run (nx rows) s w : Nat) : Int) := by
  have hlen := V.len
  have key : ∀ (d i u : Nat), i + d = w.length → u < n → Ev (fun k => auto_Lead.l0 k (u : Int) (toI w) (w.length : Int) (i : Int) rows) ((run (nx rows) u (w.drop i) : Nat) : Int) := by
    intro d
    induction d with
    | zero =>
      intro i u hi hu
      refine Ev.next ?_
      simp only [auto_Lead.l0, if_neg (by omega : ¬ (i : Int) < (w.length : Int))]
      rw [List.drop_eq_nil_of_le (by omega)]
      exact Ev.now _
    | succ d ih =>
      intro i u hi hu
      have hil : i < w.length := by omega
      have hx := hw w[i] (List.getElem_mem hil)
      have hrow := V.row u hu
      refine Ev.next ?_
      simp only [auto_Lead.l0, if_pos (by omega : (i : Int) < (w.length : Int)), if_pos (by omega : (0 : Int) ≤ (i : Int)), toI_len, if_pos (by omega : (0 : Int) ≤ (u : Int)), if_pos (by omega : (u : Int) < (rows.length : Int)), toI_rd hil, if_pos (by omega : (0 : Int) ≤ ((w[i] : Nat) : Int)), if_pos (by omega : ((w[i] : Nat) : Int) < ((rd_L1 rows (u : Int)).length : Int)), V.nxE hu hx, wrapS (by omega : i + 1 ≤ 9223372036854775807)]
      rw [List.drop_eq_getElem_cons hil]
      exact ih (i + 1) _ (by omega) (V.nxLt hu hx)
  unfold auto_Lead.f
  rw [toI_len]
  exact key w.length 0 s (by omega) hs
theorem auto_letters {rows : List (List Int)} {n m : Nat} (V : VA rows n m) : auto_Letters.f rows = some (m : Int) := by
  unfold auto_Letters.f
  have := V.n0; have := V.len; have := V.row 0 V.n0
  rw [if_pos (by omega)]; congr 1; exact congrArg _ this
theorem auto_word {rows : List (List Int)} {n m : Nat} (V : VA rows n m) (l : List Int) : auto_Word.f rows l = some (decide (l.length ≤ 40000) && inB (m : Int) l) := by
  unfold auto_Word.f
  by_cases h : l.length ≤ 40000
  · rw [if_pos (by omega), auto_letters V, decide_eq_true h]
    simp only [Option.bind_some, auto_within_int.f, Bool.true_and]
  · rw [if_neg (by omega), decide_eq_false h, Bool.false_and]
end Go.Proofs.Ytcpmmkennnjalaa.Q
end
section
namespace Go.Proofs.Ytcpmmkennnjalaa.Q
open Go.RowKit Go.Proofs.YtcpmmkennnjalaaW.PrintWords Go.Proofs.YtcpmmkennnjalaaW.PrintLast Go.Proofs.YtcpmmkennnjalaaW.PrintMore
set_option linter.unusedVariables false
/-- A set of states in order. -/
theorem auto_set_yes {rows : List (List Int)} {n m : Nat} (V : VA rows n m) {q : List Nat} (hq : ∀ x ∈ q, x < n) (hs : q.Pairwise (· < ·)) (hl : q.length ≤ 1000000) : Ev (fun k => auto_Set.f k rows (toI q)) true := by
  have hlen := V.len
  unfold auto_Set.f
  rw [toI_len]
  have key : ∀ d i : Nat, i + d = q.length → Ev (fun k => auto_Set.l0 k (toI q) (toI q) (q.length : Int) (i : Int) rows) true := by
    intro d
    induction d with
    | zero =>
      intro i hi
      refine Ev.next ?_
      simp only [auto_Set.l0, if_neg (by omega : ¬ (i : Int) < (q.length : Int))]
      exact Ev.now _
    | succ d ih =>
      intro i hi
      have hil : i < q.length := by omega
      have hx := hq q[i] (List.getElem_mem hil)
      refine Ev.next ?_
      simp only [auto_Set.l0, if_pos (by omega : (i : Int) < (q.length : Int)), if_pos (by omega : (0 : Int) ≤ (i : Int)), toI_len, toI_rd hil, auto_state, Option.bind_some, decide_eq_true (by omega : (0 : Int) ≤ ((q[i] : Nat) : Int) ∧ ((q[i] : Nat) : Int) < (rows.length : Int)), if_true, wrapS (by omega : i + 1 ≤ 9223372036854775807)]
      by_cases h0 : i = 0
      · simp only [if_neg (by omega : ¬ (i : Int) > 0)]
        exact ih (i + 1) (by omega)
      · have hw : wrap64 ((i : Int) - 1) = ((i - 1 : Nat) : Int) := by rw [wrapI (by omega) (by omega)]; omega
        have hlt : q[i - 1] < q[i] := List.pairwise_iff_getElem.1 hs (i - 1) i (by omega) hil (by omega)
        simp only [if_pos (by omega : (i : Int) > 0), hw, if_pos (by omega : (0 : Int) ≤ ((i - 1 : Nat) : Int)), if_pos (by omega : ((i - 1 : Nat) : Int) < (q.length : Int)), toI_rd (by omega : i - 1 < q.length), if_neg (by omega : ¬ ((q[i - 1] : Nat) : Int) ≥ ((q[i] : Nat) : Int))]
        exact ih (i + 1) (by omega)
  exact key q.length 0 (by omega)
end Go.Proofs.Ytcpmmkennnjalaa.Q
end
