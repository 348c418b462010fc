/- In any Eulerian automaton that has a reset word, whatever set of states, neither empty nor all, is led into by more states with a word of at most n - 1 letters, and its shortest reset word has at most n^2 - 3n + 3 letters; in any circular one at most (n - 1)^2. (At most 9 states) (text 11 of 42) -/
import Derived.Test.YtcpmmkennnjalaaZTopKarij
import Derived.ProofKit
import Derived.OpenShut
import Derived.ChangeOld
import Derived.ChangeSlices
import Derived.Deep.Matrix
import Derived.Test.YtcpmmkennnjalaaZTopKarih
section
namespace Go.Proofs.Ytcpmmkennnjalaa.Q
open Go.RowKit Go.Proofs.YtcpmmkennnjalaaW.PrintWords Go.Proofs.YtcpmmkennnjalaaW.PrintLast Go.Proofs.YtcpmmkennnjalaaW.PrintMore
open Go.ChangeShapes Go.WideShapes
set_option linter.unusedVariables false
set_option linter.unusedSimpArgs false

/-- The numbers of a list are int's. -/
def IntsOk (l : List Int) : Prop := l.length ≤ 9223372036854775807 ∧ ∀ z ∈ l, -9223372036854775808 ≤ z ∧ z ≤ 9223372036854775807
def RowsOk (rows : List (List Int)) : Prop := rows.length ≤ 9223372036854775807 ∧ ∀ row ∈ rows, IntsOk row
theorem int_wf {z : Int} (h : (Lit.int .i64 z).wf = true) : -9223372036854775808 ≤ z ∧ z ≤ 9223372036854775807 := by
  have hmin : IntKind.i64.min = -9223372036854775808 := rfl
  have hmax : IntKind.i64.max = 9223372036854775807 := rfl
  simp only [Lit.wf, Bool.and_eq_true, decide_eq_true_eq] at h
  omega

section
variable {H : Type} {enc : TypeId × Value → H} {P : Program} {w : World} {held : Bool}
theorem cints {A : Addr} {n : Nat} {zs : List Int} (hz : n ≤ zs.length) (hn : n ≤ 9223372036854775807) (hc : ∀ i, i < n → w.cell? (A.add i) = some (.int .i64 (zs.getD i 0))) :
    Kd.C (Kd.int .i64) w (some A) (zs.take n).length (zs.take n) := by
  have hl : (zs.take n).length = n := by rw [List.length_take]; omega
  refine ⟨rfl, by omega, fun h => ⟨A, rfl, fun j p hj => ⟨[.int .i64 p], rfl, rfl, fun i u hu => ?_⟩⟩⟩
  cases i with
  | zero =>
    simp only [List.getElem?_cons_zero, Option.some.injEq] at hu
    subst hu
    have hj' : j < n := by have := (List.getElem?_eq_some_iff.1 hj).1; omega
    have := hc j hj'
    rw [List.getElem?_take_of_lt hj'] at hj
    simp only [Kd.int, Kd.scalar, Nat.mul_one, Nat.add_zero]
    rw [this, List.getD_eq_getElem?_getD, hj]
    rfl
  | succ i => simp at hu
theorem open_rowsC {t e q : TypeId} {fuel : Nat} {cs : List Value} {x : DataW H × List MemPlace} (ht : P.underlying t = some (.slice e)) (he : P.underlying e = some (.slice q)) (hq : P.underlying q = some (.int .i64))
    (ce : P.cellsOf e = 1) (cq : P.cellsOf q = 1) (h : DataW.trod enc P w 0 (fun _ => true) held fuel t cs = some x) (h3 : q = 3) :
    ∃ (a : Option Addr) (c : Nat) (rows : List (List Int)), cs = [.slice a rows.length c] ∧ rows.length ≤ c ∧ Kd.C (Kd.slice 3 (Kd.int .i64)) w a rows.length rows ∧ RowsOk rows := by
  subst h3
  rcases Go.Deep.open_int_rows ht he hq ce cq h with ⟨rfl, _⟩ | ⟨a, len, cap, A, L, C, Z, rfl, _, hl, hm, _, hr⟩
  · exact ⟨none, 0, [], rfl, Nat.le_refl _, Kd.C_nil _ _, by simp [RowsOk], by simp⟩
  · unfold maxLen at hm
    have hlen : ((List.range len).map fun r => (Z r).take (L r)).length = len := by simp
    refine ⟨some a, cap, (List.range len).map fun r => (Z r).take (L r), by rw [hlen], by omega, ⟨rfl, by omega, fun _ => ⟨a, rfl, fun j p hj => ?_⟩⟩, by omega, ?_⟩
    · have hj' : j < len := by have := (List.getElem?_eq_some_iff.1 hj).1; omega
      rw [List.getElem?_map, List.getElem?_range hj'] at hj
      simp only [Option.map_some, Option.some.injEq] at hj
      subst hj
      obtain ⟨h1, h2, h3, h4, h5, h6, h7⟩ := hr j (by omega)
      unfold maxLen at h3
      have hl2 : ((Z j).take (L j)).length = L j := by rw [List.length_take]; omega
      refine ⟨[.slice (A j) (L j) (C j)], rfl, ⟨A j, C j, by rw [hl2], by omega, ?_⟩, fun i u hu => ?_⟩
      · cases hA : A j with
        | none =>
          have : (Z j).take (L j) = [] := List.eq_nil_of_length_eq_zero (by have := h6 hA; omega)
          rw [this]
          exact Kd.C_nil _ _
        | some a' => exact cints (by omega) (by omega) (fun i hi => (h7 a' hA).2 i (by omega))
      · cases i with
        | zero =>
          simp only [List.getElem?_cons_zero, Option.some.injEq] at hu
          subst hu
          simpa [Kd.slice] using h1
        | succ i => simp at hu
    · intro row hrow
      obtain ⟨r, hr2, rfl⟩ := List.mem_map.1 hrow
      have hr3 : r < len := by simpa using hr2
      obtain ⟨h1, h2, h3, h4, h5, h6, h7⟩ := hr r (by omega)
      unfold maxLen at h3
      exact ⟨by rw [List.length_take]; omega, fun z hz => int_wf (h5 z (List.mem_of_mem_take hz))⟩
/-- A struct of one field, rows of numbers, by value. -/
theorem open_autoC {t tr e : TypeId} {f0 : Field} {v : Value} {r : Reach} {b0 : Nat} {d : DataW H} {ps : List MemPlace} (hs : P.underlying t = some (.struct #[f0])) (hf0 : f0.type = tr) (ho : f0.offset = 0) (hC : P.cellsOf t = 1) (hC0 : P.cellsOf tr = 1) (ht : P.underlying tr = some (.slice e)) (he : P.underlying e = some (.slice 3)) (hq : P.underlying 3 = some (.int .i64))
    (ce : P.cellsOf e = 1) (cq : P.cellsOf 3 = 1) (hv : Value.okWide P w r b0 t v) (h : DataW.Trod enc P w 0 (fun _ => true) held t v d ps) :
    ∃ (a : Option Addr) (c : Nat) (rows : List (List Int)), v = .agg #[.slice a rows.length c] ∧ rows.length ≤ c ∧ Kd.C (Kd.slice 3 (Kd.int .i64)) w a rows.length rows ∧ RowsOk rows := by
  obtain ⟨cs, rfl, hsz⟩ := okWide_struct hs hv
  obtain ⟨fuel, hf⟩ := h
  obtain ⟨y0, n, _, _, h0⟩ := trod_struct1 hs hf
  subst hf0
  rw [ho, hC0] at h0
  obtain ⟨l⟩ := cs
  match l, hsz.trans hC with
  | [c0], _ =>
    simp only [Value.cells, List.drop_zero] at h0
    obtain ⟨a', c', rows, hcs, r1, r2, r3⟩ := open_rowsC ht he hq ce cq h0 rfl
    simp at hcs
    subst hcs
    exact ⟨_, _, rows, rfl, r1, r2, r3⟩
end
end Go.Proofs.Ytcpmmkennnjalaa.Q
end
section
namespace Go.Proofs.Ytcpmmkennnjalaa.Q
open Go.RowKit Go.Proofs.YtcpmmkennnjalaaW.PrintWords Go.Proofs.YtcpmmkennnjalaaW.PrintLast Go.Proofs.YtcpmmkennnjalaaW.PrintMore
set_option linter.unusedVariables false

/-! ### numbers and lists -/
theorem wrapS {i : Nat} (h : i + 1 ≤ 9223372036854775807) : wrap64 ((i : Int) + 1) = ((i + 1 : Nat) : Int) := by
  unfold wrap64; omega
theorem wrapI {z : Int} (h0 : -9223372036854775808 ≤ z) (h : z ≤ 9223372036854775807) : wrap64 z = z := by
  unfold wrap64; omega
theorem rdN (l : List Int) (i : Nat) : rd l (i : Int) = l.getD i 0 := rfl
theorem rdE {l : List Int} {i : Nat} (h : i < l.length) : rd l (i : Int) = l[i] := by
  rw [rdN, List.getD_eq_getElem?_getD, List.getElem?_eq_getElem h]; rfl
theorem rdLN (l : List (List Int)) (i : Nat) : rd_L1 l (i : Int) = l.getD i [] := rfl
theorem rdLE {l : List (List Int)} {i : Nat} (h : i < l.length) : rd_L1 l (i : Int) = l[i] := by
  rw [rdLN, List.getD_eq_getElem?_getD, List.getElem?_eq_getElem h]; rfl
theorem rd_in {l : List Int} {n x : Int} (h : inB n l = true) (h0 : 0 ≤ x) (h1 : x < l.length) : 0 ≤ rd l x ∧ rd l x < n := by
  obtain ⟨i, rfl⟩ := Int.eq_ofNat_of_zero_le h0
  rw [rdE (by omega)]
  unfold inB at h
  rw [List.all_eq_true] at h
  simpa using h _ (List.getElem_mem (by omega : i < l.length))
/-- A function that doesn't count rounds. -/
theorem Ev.const {α : Type} {a : Option α} {r : α} (h : a = some r) : Ev (fun _ => a) r := ⟨0, fun _ _ => h⟩
theorem Ev.eq {α : Type} {g : Nat → Option α} {r r' : α} (h : Ev g r) (e : r = r') : Ev g r' := e ▸ h

/-! ### reference 1 -/
theorem Ev.next {α : Type} {g : Nat → Option α} {r : α} (h : Ev (fun k => g (k + 1)) r) : Ev g r := Ev.step (fun _ => rfl) h
theorem Ev.ret {α : Type} {r r' : α} (e : r = r') : Ev (fun _ => some r) r' := e ▸ Ev.now r
/-- A loop that asks a question of each number below n. -/
theorem Ev.every {α : Type} {g : Nat → Nat → Option α} {n : Nat} {yes no r : α} (p : Nat → Bool)
    (hy : (∀ i, i < n → p i = true) → r = yes) (hn : ∀ i, i < n → p i = false → r = no)
    (go : ∀ i, i < n → p i = true → Ev (fun k => g k (i + 1)) r → Ev (fun k => g k i) r)
    (stop : ∀ i, i < n → p i = false → Ev (fun k => g k i) no) (fin : Ev (fun k => g k n) yes) : Ev (fun k => g k 0) r := by
  have key : ∀ d i : Nat, i + d = n → (∀ j, j < i → p j = true) → Ev (fun k => g k i) r := by
    intro d
    induction d with
    | zero =>
      intro i hi hj
      obtain rfl : i = n := by omega
      rw [hy hj]; exact fin
    | succ d ih =>
      intro i hi hj
      cases hp : p i with
      | false => rw [hn i (by omega) hp]; exact stop i (by omega) hp
      | true =>
        refine go i (by omega) hp (ih (i + 1) (by omega) fun j h => ?_)
        rcases Nat.lt_or_ge j i with h4 | h4
        · exact hj j h4
        · obtain rfl : j = i := by omega
          exact hp
  exact key n 0 (by omega) fun j h => by omega
theorem inB_iff {n : Int} {l : List Int} : inB n l = true ↔ ∀ i (h : i < l.length), 0 ≤ l[i] ∧ l[i] < n := by
  unfold inB
  rw [List.all_eq_true]
  refine ⟨fun h i hi => by simpa using h _ (List.getElem_mem hi), fun h x hx => ?_⟩
  obtain ⟨i, hi, rfl⟩ := List.getElem_of_mem hx
  simpa using h i hi
/-- What a valid automaton is. -/
structure VA (rows : List (List Int)) (n m : Nat) : Prop where
  len : rows.length = n
  n0 : 0 < n
  n60 : n ≤ 60
  m0 : 0 < m
  m6 : m ≤ 6
  row : ∀ s, s < n → (rd_L1 rows (s : Int)).length = m
  ent : ∀ s, s < n → inB n (rd_L1 rows (s : Int)) = true
theorem any_bad {l : List (List Int)} {p : List Int → Bool} : l.any p = false ↔ ∀ i, i < l.length → p (rd_L1 l (i : Int)) = false := by
  rw [List.any_eq_false]
  refine ⟨fun h i hi => by rw [rdLE hi]; simpa using h _ (List.getElem_mem hi), fun h x hx => ?_⟩
  obtain ⟨i, hi, rfl⟩ := List.getElem_of_mem hx
  have := h i hi
  rw [rdLE hi] at this
  simp [this]
theorem validB_iff {rows : List (List Int)} : validB rows = true ↔ VA rows rows.length (rd_L1 rows 0).length := by
  unfold validB kOf badB
  rw [Bool.and_eq_true, decide_eq_true_eq, Bool.not_eq_true', any_bad]
  constructor
  · rintro ⟨⟨h1, h2, h3, h4⟩, h5⟩
    have e := fun s (h : s < rows.length) => h5 s h
    simp only [Bool.or_eq_false_iff, decide_eq_false_iff_not, Bool.not_eq_false', Classical.not_not] at e
    exact ⟨rfl, by omega, by omega, by omega, by omega, fun s h => by have := (e s h).1; omega, fun s h => (e s h).2⟩
  · intro V
    have := V.n0; have := V.n60; have := V.m0; have := V.m6
    refine ⟨⟨by omega, by omega, by omega, by omega⟩, fun i hi => ?_⟩
    have := V.row i hi
    simp only [Bool.or_eq_false_iff, decide_eq_false_iff_not, Bool.not_eq_false', Classical.not_not]
    exact ⟨by omega, V.ent i hi⟩
theorem validB_of {rows : List (List Int)} {n m : Nat} (V : VA rows n m) : validB rows = true := by
  refine validB_iff.2 ?_
  have h1 := V.len; subst h1
  have h2 : (rd_L1 rows 0).length = m := V.row 0 V.n0
  rw [h2]; exact V
theorem auto_state (rows : List (List Int)) (s : Int) : auto_State.f rows s = some (decide (0 ≤ s ∧ s < rows.length)) := by
  unfold auto_State.f
  by_cases h : s ≥ 0
  · rw [if_pos h]; congr 1; rw [decide_eq_decide]; omega
  · rw [if_neg h, decide_eq_false (by omega)]
/-- The state to which a letter leads. -/
def nx (rows : List (List Int)) (s x : Nat) : Nat := (rd (rd_L1 rows (s : Int)) (x : Int)).toNat
theorem VA.nxE {rows : List (List Int)} {n m : Nat} (V : VA rows n m) {s x : Nat} (hs : s < n) (hx : x < m) : rd (rd_L1 rows (s : Int)) (x : Int) = ((nx rows s x : Nat) : Int) := by
  have := rd_in (V.ent s hs) (Int.natCast_nonneg x) (by have := V.row s hs; omega)
  unfold nx; omega
theorem VA.nxLt {rows : List (List Int)} {n m : Nat} (V : VA rows n m) {s x : Nat} (hs : s < n) (hx : x < m) : nx rows s x < n := by
  have := rd_in (V.ent s hs) (Int.natCast_nonneg x) (by have := V.row s hs; omega)
  unfold nx; omega
theorem VA.letters {rows : List (List Int)} {n m : Nat} (V : VA rows n m) : mizmazeref01_Letters.f rows = some (m : Int) := by
  unfold mizmazeref01_Letters.f
  have := V.n0; have := V.len; have := V.row 0 V.n0
  rw [if_pos (by omega)]; congr 1; exact congrArg _ this
end Go.Proofs.Ytcpmmkennnjalaa.Q
end
section
namespace Go.Proofs.Ytcpmmkennnjalaa.Q
open Go.RowKit Go.Proofs.YtcpmmkennnjalaaW.PrintWords Go.Proofs.YtcpmmkennnjalaaW.PrintLast Go.Proofs.YtcpmmkennnjalaaW.PrintMore
set_option linter.unusedVariables false
set_option linter.unusedSimpArgs false
/-! ### the order of words -/
def cmpW : List Int → List Int → Int
  | [], [] => 0
  | [], _ :: _ => -1
  | _ :: _, [] => 1
  | x :: u, y :: v => if x < y then -1 else if y < x then 1 else cmpW u v
theorem cmpW_self : ∀ u, cmpW u u = 0
  | [] => rfl
  | x :: u => by rw [cmpW, if_neg (Int.lt_irrefl x), if_neg (Int.lt_irrefl x)]; exact cmpW_self u
theorem cmpW_swap : ∀ u v, cmpW v u = - cmpW u v
  | [], [] => rfl
  | [], _ :: _ => rfl
  | _ :: _, [] => rfl
  | x :: u, y :: v => by
    rw [cmpW, cmpW]
    by_cases h1 : x < y
    · rw [if_neg (by omega), if_pos h1, if_pos h1]; rfl
    · rw [if_neg h1]
      by_cases h2 : y < x
      · rw [if_pos h2, if_neg h1, if_pos h2]
      · rw [if_neg h2, if_neg h1, if_neg h2]; exact cmpW_swap u v
theorem cmpW_eq : ∀ u v, cmpW u v = 0 → u = v
  | [], [], _ => rfl
  | [], _ :: _, h => by simp [cmpW] at h
  | _ :: _, [], h => by simp [cmpW] at h
  | x :: u, y :: v, h => by
    rw [cmpW] at h
    by_cases h1 : x < y
    · rw [if_pos h1] at h; cases h
    · rw [if_neg h1] at h
      by_cases h2 : y < x
      · rw [if_pos h2] at h; cases h
      · rw [if_neg h2] at h
        rw [cmpW_eq u v h, show x = y by omega]
theorem cmpW_le : ∀ u v w, cmpW u v ≤ 0 → cmpW v w ≤ 0 → cmpW u w ≤ 0
  | [], v, [], _, _ => Int.le_refl _
  | [], v, _ :: _, _, _ => by simp [cmpW]
  | x :: u, [], w, h, _ => by simp [cmpW] at h
  | x :: u, y :: v, [], _, h => by simp [cmpW] at h
  | x :: u, y :: v, z :: w, h, g => by
    rw [cmpW] at h g ⊢
    by_cases h1 : x < y
    · by_cases g2 : z < y
      · rw [if_neg (by omega), if_pos g2] at g; omega
      · rw [if_pos (by omega)]; omega
    · rw [if_neg h1] at h
      by_cases h2 : y < x
      · rw [if_pos h2] at h; omega
      · rw [if_neg h2] at h
        obtain rfl : x = y := by omega
        by_cases g1 : x < z
        · rw [if_pos g1]; omega
        · rw [if_neg g1] at g
          by_cases g2 : z < x
          · rw [if_pos g2] at g; omega
          · rw [if_neg g2] at g
            rw [if_neg g1, if_neg g2]
            exact cmpW_le u v w h g
theorem cmpW_lt (u v w : List Int) (h : cmpW u v < 0) (g : cmpW v w < 0) : cmpW u w < 0 := by
  have h1 := cmpW_le u v w (by omega) (by omega)
  rcases Int.lt_or_eq_of_le h1 with h2 | h2
  · exact h2
  · obtain rfl := cmpW_eq _ _ h2
    have := cmpW_swap u v
    omega
theorem compare_ev (u v : List Int) (hu : u.length < 1000000000000000000) (hv : v.length < 1000000000000000000) : Ev (fun k => slices_Compare_int_int.f k u v) (cmpW u v) := by
  have key : ∀ d i : Nat, i + d = u.length → Ev (fun k => slices_Compare_int_int.l0 k u v u (u.length : Int) (i : Int)) (cmpW (u.drop i) (v.drop i)) := by
    intro d
    induction d with
    | zero =>
      intro i hi
      obtain rfl : i = u.length := by omega
      refine Ev.next (g := fun k => slices_Compare_int_int.l0 k u v u (u.length : Int) (u.length : Int)) ?_
      have e : ∀ k, slices_Compare_int_int.l0 (k + 1) u v u (u.length : Int) (u.length : Int) = some (cmpW (u.drop u.length) (v.drop u.length)) := fun k => by
        rw [slices_Compare_int_int.l0, if_neg (by omega), List.drop_length]
        by_cases h : u.length < v.length
        · rw [if_pos (by omega)]
          have : v.drop u.length ≠ [] := fun e => by have := congrArg List.length e; simp at this; omega
          match hv : v.drop u.length, this with
          | y :: l, _ => rfl
        · rw [if_neg (by omega), List.drop_eq_nil_of_le (by omega)]; rfl
      exact Ev.congr e (Ev.now _)
    | succ d ih =>
      intro i hi
      have hlt : i < u.length := by omega
      have eu : u.drop i = rd u (i : Int) :: u.drop (i + 1) := by
        rw [List.drop_eq_getElem_cons hlt]
        congr 1
        show _ = u.getD (i : Int).toNat 0
        rw [Int.toNat_natCast, List.getD_eq_getElem?_getD, List.getElem?_eq_getElem hlt]; rfl
      by_cases hv2 : v.length ≤ i
      · refine Ev.next (g := fun k => slices_Compare_int_int.l0 k u v u (u.length : Int) (i : Int)) ?_
        have e : ∀ k, slices_Compare_int_int.l0 (k + 1) u v u (u.length : Int) (i : Int) = some (cmpW (u.drop i) (v.drop i)) := fun k => by
          rw [slices_Compare_int_int.l0, if_pos (by omega), if_pos (by omega), if_pos (by omega), if_pos (by omega), eu, List.drop_eq_nil_of_le hv2]; rfl
        exact Ev.congr e (Ev.now _)
      · have hvlt : i < v.length := by omega
        have ev : v.drop i = rd v (i : Int) :: v.drop (i + 1) := by
          rw [List.drop_eq_getElem_cons hvlt]
          congr 1
          show _ = v.getD (i : Int).toNat 0
          rw [Int.toNat_natCast, List.getD_eq_getElem?_getD, List.getElem?_eq_getElem hvlt]; rfl
        rw [eu, ev]
        have hc : cmp_Compare_int.f (rd u (i : Int)) (rd v (i : Int)) = some (if rd u (i : Int) < rd v (i : Int) then -1 else if rd v (i : Int) < rd u (i : Int) then 1 else 0) := by
          unfold cmp_Compare_int.f
          have nan : ∀ z, cmp_isNaN_int.f z = some false := fun z => by simp [cmp_isNaN_int.f]
          rw [nan, nan]
          generalize rd u (i : Int) = p
          generalize rd v (i : Int) = q
          by_cases h1 : p < q
          · simp [h1]
          · by_cases h2 : q < p
            · simp [h1, h2]
            · simp [h1, h2]
        have e : ∀ k, slices_Compare_int_int.l0 (k + 1) u v u (u.length : Int) (i : Int) = if rd u (i : Int) < rd v (i : Int) then some (-1) else if rd v (i : Int) < rd u (i : Int) then some 1 else slices_Compare_int_int.l0 k u v u (u.length : Int) ((i + 1 : Nat) : Int) := fun k => by
          rw [slices_Compare_int_int.l0, if_pos (by omega), if_pos (by omega), if_pos (by omega), if_neg (by omega), if_pos (by omega), hc, Option.bind_some, wrapS (by omega)]
          by_cases h1 : rd u (i : Int) < rd v (i : Int)
          · rw [if_pos h1, if_pos h1, if_neg (by omega)]
          · rw [if_neg h1, if_neg h1]
            by_cases h2 : rd v (i : Int) < rd u (i : Int)
            · rw [if_pos h2, if_pos h2, if_neg (by omega)]
            · rw [if_neg h2, if_neg h2, if_pos rfl]
        refine Ev.next (g := fun k => slices_Compare_int_int.l0 k u v u (u.length : Int) (i : Int)) ?_
        refine Ev.congr e ?_
        rw [cmpW]
        by_cases h1 : rd u (i : Int) < rd v (i : Int)
        · simp only [if_pos h1]; exact Ev.now _
        · by_cases h2 : rd v (i : Int) < rd u (i : Int)
          · simp only [if_neg h1, if_pos h2]; exact Ev.now _
          · simp only [if_neg h1, if_neg h2]
            exact ih (i + 1) (by omega)
  have := key u.length 0 (by omega)
  exact this
end Go.Proofs.Ytcpmmkennnjalaa.Q
end
section
namespace Go.Proofs.Ytcpmmkennnjalaa.Q
open Go.RowKit Go.Proofs.YtcpmmkennnjalaaW.PrintWords Go.Proofs.YtcpmmkennnjalaaW.PrintLast Go.Proofs.YtcpmmkennnjalaaW.PrintMore
set_option linter.unusedVariables false

/-! ### words and where they lead, over a step function f -/
/-- The state to which a word leads. -/
def run (f : Nat → Nat → Nat) : Nat → List Nat → Nat
  | s, [] => s
  | s, x :: w => run f (f s x) w
theorem run_app (f : Nat → Nat → Nat) : ∀ (v w : List Nat) s, run f s (v ++ w) = run f (run f s v) w
  | [], _, _ => rfl
  | _ :: v, w, s => run_app f v w _
theorem run_snoc (f : Nat → Nat → Nat) (v : List Nat) (x s : Nat) : run f s (v ++ [x]) = f (run f s v) x := run_app f v [x] s
/-- A word over m letters. -/
def Wd (m : Nat) (w : List Nat) : Prop := ∀ x ∈ w, x < m
theorem Wd.nil (m : Nat) : Wd m [] := fun _ h => nomatch h
theorem Wd.app {m : Nat} {v w : List Nat} (h : Wd m v) (k : Wd m w) : Wd m (v ++ w) := fun x hx => (List.mem_append.1 hx).elim (h x) (k x)
theorem Wd.one {m x : Nat} (h : x < m) : Wd m [x] := fun y hy => by rw [List.mem_singleton.1 hy]; exact h
theorem Wd.left {m : Nat} {v w : List Nat} (h : Wd m (v ++ w)) : Wd m v := fun x hx => h x (List.mem_append.2 (Or.inl hx))
theorem Wd.right {m : Nat} {v w : List Nat} (h : Wd m (v ++ w)) : Wd m w := fun x hx => h x (List.mem_append.2 (Or.inr hx))
theorem VA.runLt {rows : List (List Int)} {n m : Nat} (V : VA rows n m) {s : Nat} (hs : s < n) {w : List Nat} (hw : Wd m w) : run (nx rows) s w < n := by
  induction w generalizing s with
  | nil => exact hs
  | cons x w ih => exact ih (V.nxLt hs (hw x List.mem_cons_self)) fun y hy => hw y (List.mem_cons_of_mem _ hy)
/-! ### the drawers -/
theorem nodup_le : ∀ (n : Nat) (l : List Nat), l.Nodup → (∀ x ∈ l, x < n) → l.length ≤ n
  | 0, l, _, h => by
    cases l with
    | nil => exact Nat.le_refl 0
    | cons x l => exact absurd (h x List.mem_cons_self) (Nat.not_lt_zero x)
  | n + 1, l, hd, h => by
    by_cases hn : n ∈ l
    · have h1 := nodup_le n (l.erase n) (hd.erase n) fun x hx => by
        have h2 := h x (List.mem_of_mem_erase hx)
        have h3 : x ≠ n := fun e => by subst e; exact hd.not_mem_erase hx
        omega
      rw [List.length_erase_of_mem hn] at h1; omega
    · have := nodup_le n l hd fun x hx => by
        have h2 := h x hx
        have h3 : x ≠ n := fun e => hn (e ▸ hx)
        omega
      omega
theorem drawers {n : Nat} (f : Nat → Nat) (h : ∀ i, i ≤ n → f i < n) : ∃ i j, i < j ∧ j ≤ n ∧ f i = f j := by
  refine Classical.byContradiction fun hc => ?_
  have hd : ((List.range (n + 1)).map f).Nodup := by
    rw [List.nodup_iff_pairwise_ne, List.pairwise_map]
    refine List.Pairwise.imp_of_mem (R := fun a b => a < b) ?_ List.pairwise_lt_range
    intro a b ha hb hab e
    exact hc ⟨a, b, hab, by have := List.mem_range.1 hb; omega, e⟩
  have := nodup_le n _ hd (by
    intro x hx
    obtain ⟨i, hi, rfl⟩ := List.mem_map.1 hx
    exact h i (by have := List.mem_range.1 hi; omega))
  rw [List.length_map, List.length_range] at this; omega
/-- Some word of fewer than n letters leads where a word leads. -/
theorem short_word {f : Nat → Nat → Nat} {n m : Nat} (hf : ∀ s x, s < n → x < m → f s x < n) : ∀ (d : Nat) (w : List Nat) (s : Nat), w.length ≤ d → s < n → Wd m w → ∃ v, Wd m v ∧ run f s v = run f s w ∧ v.length < n ∧ v.length ≤ w.length := by
  have rl : ∀ (w : List Nat) s, s < n → Wd m w → run f s w < n := by
    intro w
    induction w with
    | nil => intro s h _; exact h
    | cons x w ih => intro s h hw; exact ih _ (hf s x h (hw x List.mem_cons_self)) fun y hy => hw y (List.mem_cons_of_mem _ hy)
  intro d
  induction d with
  | zero => intro w s h hs hw; obtain rfl := List.eq_nil_of_length_eq_zero (by omega : w.length = 0); exact ⟨[], hw, rfl, by simp; omega, by simp⟩
  | succ d ih =>
    intro w s h hs hw
    by_cases hl : w.length < n
    · exact ⟨w, hw, rfl, hl, Nat.le_refl _⟩
    · have htk : ∀ i, Wd m (w.take i) := fun i x hx => hw x (List.mem_of_mem_take hx)
      have hdr : ∀ i, Wd m (w.drop i) := fun i x hx => hw x (List.mem_of_mem_drop hx)
      obtain ⟨i, j, hij, hj, e⟩ := drawers (n := n) (fun i => run f s (w.take i)) fun i _ => rl _ _ hs (htk i)
      obtain ⟨v, h1, h2, h3, h4⟩ := ih (w.take i ++ w.drop j) s (by rw [List.length_append, List.length_take, List.length_drop]; omega) hs ((htk i).app (hdr j))
      refine ⟨v, h1, h2.trans ?_, h3, by rw [List.length_append, List.length_take, List.length_drop] at h4; omega⟩
      rw [run_app, e, ← run_app, List.take_append_drop]

/-! ### lists of bools -/
theorem Wd.tail {m x : Nat} {w : List Nat} (h : Wd m (x :: w)) : Wd m w := fun y hy => h y (List.mem_cons_of_mem _ hy)
theorem Wd.head {m x : Nat} {w : List Nat} (h : Wd m (x :: w)) : x < m := h x List.mem_cons_self
theorem Wd.cons {m x : Nat} {w : List Nat} (hx : x < m) (h : Wd m w) : Wd m (x :: w) := fun y hy => by
  rcases List.mem_cons.1 hy with rfl | h1
  · exact hx
  · exact h y h1
end Go.Proofs.Ytcpmmkennnjalaa.Q
end
section
namespace Go.Proofs.Ytcpmmkennnjalaa.Q
set_option linter.unusedVariables false
/-! ### words in order: the shorter one first, then by letters -/
/-- The number of a word in this order. -/
def code (m : Nat) (w : List Nat) : Nat := w.foldl (fun a x => m * a + (x + 1)) 0
theorem code_nil (m : Nat) : code m [] = 0 := rfl
theorem code_snoc (m : Nat) (w : List Nat) (x : Nat) : code m (w ++ [x]) = m * code m w + (x + 1) := by
  unfold code; rw [List.foldl_append]; rfl
theorem snoc_ind {P : List Nat → Prop} (h0 : P []) (h1 : ∀ v x, P v → P (v ++ [x])) (w : List Nat) : P w := by
  have : ∀ n (w : List Nat), w.length = n → P w := by
    intro n
    induction n with
    | zero => intro w h; rw [List.eq_nil_of_length_eq_zero h]; exact h0
    | succ n ih =>
      intro w h
      have hne : w ≠ [] := fun e => by subst e; simp at h
      rw [← List.dropLast_concat_getLast hne]
      exact h1 _ _ (ih _ (by rw [List.length_dropLast]; omega))
  exact this _ w rfl
theorem digits_inj {m a b x y : Nat} (hx : x < m) (hy : y < m) (h : m * a + (x + 1) = m * b + (y + 1)) : a = b ∧ x = y := by
  have key : ∀ a b x y : Nat, x < m → a < b → m * a + (x + 1) = m * b + (y + 1) → False := fun a b x y hx hab h => by
    have := Nat.mul_le_mul_left m (Nat.succ_le_of_lt hab)
    rw [Nat.mul_succ] at this; omega
  rcases Nat.lt_trichotomy a b with h1 | h1 | h1
  · exact (key a b x y hx h1 h).elim
  · subst h1; omega
  · exact (key b a y x hy h1 h.symm).elim
theorem code_inj {m : Nat} : ∀ (v w : List Nat), Wd m v → Wd m w → code m v = code m w → v = w := by
  intro v
  induction v using snoc_ind with
  | h0 =>
    intro w _ hw h
    induction w using snoc_ind with
    | h0 => rfl
    | h1 w x _ => rw [code_snoc, code_nil] at h; omega
  | h1 v x ih =>
    intro w hv hw h
    induction w using snoc_ind with
    | h0 => rw [code_snoc, code_nil] at h; omega
    | h1 w y _ =>
      rw [code_snoc, code_snoc] at h
      obtain ⟨h1, rfl⟩ := digits_inj (hv.right x (by simp)) (hw.right y (by simp)) h
      rw [ih w hv.left hw.left h1]
/-- The number of the first word of k letters. -/
def lo (m : Nat) : Nat → Nat
  | 0 => 0
  | k + 1 => m * lo m k + 1
theorem lo_pow (m : Nat) : ∀ k, lo m (k + 1) = lo m k + m ^ k
  | 0 => by simp [lo]
  | k + 1 => by
    have := lo_pow m k
    show m * lo m (k + 1) + 1 = (m * lo m k + 1) + m ^ (k + 1)
    rw [this, Nat.mul_add, Nat.pow_succ, Nat.mul_comm m (m ^ k)]; omega
theorem code_lo {m : Nat} (w : List Nat) (h : Wd m w) : lo m w.length ≤ code m w ∧ code m w + 1 ≤ lo m (w.length + 1) := by
  induction w using snoc_ind with
  | h0 => simp [lo, code_nil]
  | h1 w x ih =>
    obtain ⟨h1, h2⟩ := ih h.left
    have hx := h.right x (by simp)
    rw [code_snoc, List.length_append, List.length_singleton]
    have a := Nat.mul_le_mul_left m h1; have b := Nat.mul_le_mul_left m h2
    rw [Nat.mul_add] at b
    show m * lo m w.length + 1 ≤ _ ∧ _ ≤ m * lo m (w.length + 1) + 1
    omega
theorem lo_mono {m : Nat} (hm : 0 < m) {j k : Nat} (h : j ≤ k) : lo m j ≤ lo m k := by
  induction k with
  | zero => rw [Nat.le_zero.1 h]; exact Nat.le_refl _
  | succ k ih =>
    rcases Nat.lt_or_ge k j with h1 | h1
    · rw [Nat.le_antisymm h h1]; exact Nat.le_refl _
    · have := ih h1; rw [lo_pow]; omega
theorem code_len {m : Nat} (hm : 0 < m) {v w : List Nat} (hv : Wd m v) (hw : Wd m w) (h : v.length < w.length) : code m v < code m w := by
  have := code_lo v hv; have := code_lo w hw; have := lo_mono hm (j := v.length + 1) (k := w.length) h; omega
theorem code_cons (m x : Nat) (w : List Nat) : code m (x :: w) = (x + 1) * m ^ w.length + code m w := by
  induction w using snoc_ind with
  | h0 => simp [code]
  | h1 w y ih =>
    rw [← List.cons_append, code_snoc, ih, code_snoc, List.length_append, List.length_singleton, Nat.pow_succ, Nat.mul_add, Nat.mul_left_comm, Nat.mul_comm m (m ^ w.length)]; omega
theorem code_head {m x y : Nat} {v w : List Nat} (hv : Wd m v) (hw : Wd m w) (h : v.length = w.length) (hxy : x < y) : code m (x :: v) < code m (y :: w) := by
  have h1 := code_lo v hv; have h2 := code_lo w hw
  rw [code_cons, code_cons, h]
  rw [h, lo_pow] at h1
  have := Nat.mul_le_mul_right (m ^ w.length) (Nat.succ_le_of_lt hxy)
  rw [Nat.succ_eq_add_one, Nat.add_mul] at this
  rw [Nat.add_mul, Nat.add_mul]; omega
/-- The first shortest word that leads from s to t. -/
structure Least (f : Nat → Nat → Nat) (m s t : Nat) (w : List Nat) : Prop where
  wd : Wd m w
  ends : run f s w = t
  le : ∀ v, Wd m v → run f s v = t → code m w ≤ code m v
theorem Least.uniq {f : Nat → Nat → Nat} {m s t : Nat} {v w : List Nat} (h : Least f m s t v) (k : Least f m s t w) : v = w :=
  code_inj v w h.wd k.wd (Nat.le_antisymm (h.le w k.wd k.ends) (k.le v h.wd h.ends))
/-- A word as the program has it. -/
def toI (w : List Nat) : List Int := w.map fun (x : Nat) => (x : Int)
theorem toI_snoc (w : List Nat) (x : Nat) : toI (w ++ [x]) = toI w ++ [(x : Int)] := by simp [toI]
theorem toI_len (w : List Nat) : (toI w).length = w.length := by simp [toI]
end Go.Proofs.Ytcpmmkennnjalaa.Q
end
section
namespace Go.Proofs.Ytcpmmkennnjalaa.Q
set_option linter.unusedVariables false
set_option linter.unusedSectionVars false
set_option linter.unusedSimpArgs false
/-! ### words that merge two states -/
/-- The shortest words that merge p and q have d letters. -/
def MDist (f : Nat → Nat → Nat) (m p q d : Nat) : Prop := (∃ w, Wd m w ∧ w.length = d ∧ run f p w = run f q w) ∧ ∀ w, Wd m w → run f p w = run f q w → d ≤ w.length
/-- Some word merges p and q. -/
def Mg (f : Nat → Nat → Nat) (m p q : Nat) : Prop := ∃ w, Wd m w ∧ run f p w = run f q w
section
variable {f : Nat → Nat → Nat} {m n p q d e x : Nat}
theorem MDist.uniq (h : MDist f m p q d) (k : MDist f m p q e) : d = e := by
  obtain ⟨⟨v, h1, h2, h3⟩, h4⟩ := h; obtain ⟨⟨w, k1, k2, k3⟩, k4⟩ := k
  have := h4 w k1 k3; have := k4 v h1 h3; omega
theorem MDist.mg (h : MDist f m p q d) : Mg f m p q := by obtain ⟨⟨v, h1, h2, h3⟩, h4⟩ := h; exact ⟨v, h1, h3⟩
theorem MDist.symm (h : MDist f m p q d) : MDist f m q p d := by
  obtain ⟨⟨v, h1, h2, h3⟩, h4⟩ := h
  exact ⟨⟨v, h1, h2, h3.symm⟩, fun w hw hr => h4 w hw hr.symm⟩
theorem Mg.symm (h : Mg f m p q) : Mg f m q p := by obtain ⟨v, h1, h2⟩ := h; exact ⟨v, h1, h2.symm⟩
theorem Mg.refl (f : Nat → Nat → Nat) (m p : Nat) : Mg f m p p := ⟨[], Wd.nil m, rfl⟩
theorem MDist.zero (f : Nat → Nat → Nat) (m p : Nat) : MDist f m p p 0 := ⟨⟨[], Wd.nil m, rfl, rfl⟩, fun _ _ _ => Nat.zero_le _⟩
theorem MDist.eq0 (h : MDist f m p q 0) : p = q := by
  obtain ⟨⟨v, h1, h2, h3⟩, h4⟩ := h
  rw [List.eq_nil_of_length_eq_zero h2] at h3; exact h3
theorem Mg.dist (h : Mg f m p q) : ∃ d, MDist f m p q d := by
  obtain ⟨w, h1, h2⟩ := h
  have key : ∀ k : Nat, (∃ w, Wd m w ∧ w.length ≤ k ∧ run f p w = run f q w) → ∃ d, MDist f m p q d := by
    intro k
    induction k with
    | zero => rintro ⟨w, a, b, c⟩; exact ⟨0, ⟨w, a, by omega, c⟩, fun _ _ _ => Nat.zero_le _⟩
    | succ k ih =>
      rintro ⟨w, a, b, c⟩
      by_cases hk : ∃ w, Wd m w ∧ w.length ≤ k ∧ run f p w = run f q w
      · exact ih hk
      · refine ⟨k + 1, ⟨w, a, ?_, c⟩, fun v hv hr => ?_⟩
        · rcases Nat.lt_or_ge w.length (k + 1) with h | h
          · exact absurd ⟨w, a, by omega, c⟩ hk
          · omega
        · rcases Nat.lt_or_ge v.length (k + 1) with h | h
          · exact absurd ⟨v, hv, by omega, hr⟩ hk
          · omega
  exact key w.length ⟨w, h1, Nat.le_refl _, h2⟩
theorem Mg.step (hx : x < m) (h : Mg f m (f p x) (f q x)) : Mg f m p q := by
  obtain ⟨w, h1, h2⟩ := h; exact ⟨x :: w, Wd.cons hx h1, h2⟩
/-- One letter nearer, and nothing nearer than that. -/
theorem MDist.pred (h : MDist f m p q (d + 1)) : p ≠ q ∧ (∃ x, x < m ∧ MDist f m (f p x) (f q x) d) ∧ ∀ x e, x < m → MDist f m (f p x) (f q x) e → d ≤ e := by
  obtain ⟨⟨v, h1, h2, h3⟩, h4⟩ := h
  have low : ∀ x e, x < m → MDist f m (f p x) (f q x) e → d ≤ e := by
    rintro x e hx ⟨⟨w, k1, k2, k3⟩, _⟩
    have := h4 (x :: w) (Wd.cons hx k1) k3
    simp at this; omega
  refine ⟨?_, ?_, low⟩
  · rintro rfl; have := h4 [] (Wd.nil m) rfl; simp at this
  · cases v with
    | nil => simp at h2
    | cons y v =>
      refine ⟨y, h1.head, ⟨v, h1.tail, by simpa using h2, h3⟩, fun w hw hr => ?_⟩
      have := h4 (y :: w) (Wd.cons h1.head hw) hr
      simp at this; omega
theorem MDist.succ (hpq : p ≠ q) (hx : x < m) (h : MDist f m (f p x) (f q x) d) (hl : ∀ y e, y < m → MDist f m (f p y) (f q y) e → d ≤ e) : MDist f m p q (d + 1) := by
  obtain ⟨⟨v, h1, h2, h3⟩, h4⟩ := h
  refine ⟨⟨x :: v, Wd.cons hx h1, by simp [h2], h3⟩, fun w hw hr => ?_⟩
  cases w with
  | nil => exact absurd hr hpq
  | cons y w =>
    obtain ⟨e, he⟩ := Mg.dist ⟨w, hw.tail, hr⟩
    have h5 := hl y e hw.head he
    have h6 := he.2 w hw.tail hr
    simp; omega
/-- A pair as one state. -/
theorem pair_run (hn : 0 < n) (hf : ∀ s x, s < n → x < m → f s x < n) : ∀ (w : List Nat) (p q : Nat), p < n → q < n → Wd m w → run (fun s x => f (s / n) x * n + f (s % n) x) (p * n + q) w = run f p w * n + run f q w
  | [], _, _, _, _, _ => rfl
  | x :: w, p, q, hp, hq, hw => by
    have e1 : (p * n + q) / n = p := by rw [Nat.add_comm, Nat.add_mul_div_right _ _ hn, Nat.div_eq_of_lt hq, Nat.zero_add]
    have e2 : (p * n + q) % n = q := by rw [Nat.add_comm, Nat.add_mul_mod_self_right, Nat.mod_eq_of_lt hq]
    simp only [run, e1, e2]
    exact pair_run hn hf w _ _ (hf p x hp hw.head) (hf q x hq hw.head) hw.tail
theorem pair_lt {a b : Nat} (ha : a < n) (hb : b < n) : a * n + b < n * n := by
  have := Nat.mul_le_mul_right n (Nat.succ_le_of_lt ha)
  rw [Nat.succ_mul] at this; omega
theorem pair_eq {a b c d : Nat} (hb : b < n) (hd : d < n) (h : a * n + b = c * n + d) : a = c ∧ b = d := by
  have hn : 0 < n := by omega
  have e1 : (a * n + b) / n = a := by rw [Nat.add_comm, Nat.add_mul_div_right _ _ hn, Nat.div_eq_of_lt hb, Nat.zero_add]
  have e2 : (c * n + d) / n = c := by rw [Nat.add_comm, Nat.add_mul_div_right _ _ hn, Nat.div_eq_of_lt hd, Nat.zero_add]
  rw [h, e2] at e1
  refine ⟨e1.symm, ?_⟩
  subst e1; omega
theorem runLt (hf : ∀ s x, s < n → x < m → f s x < n) : ∀ (w : List Nat) (s : Nat), s < n → Wd m w → run f s w < n
  | [], _, hs, _ => hs
  | x :: w, s, hs, hw => runLt hf w _ (hf s x hs hw.head) hw.tail
theorem MDist.lt (hf : ∀ s x, s < n → x < m → f s x < n) (hp : p < n) (hq : q < n) (h : MDist f m p q d) : d < n * n := by
  obtain ⟨⟨v, h1, h2, h3⟩, h4⟩ := h
  have hn : 0 < n := by omega
  obtain ⟨z, z1, z2, z3, z4⟩ := short_word (f := fun s x => f (s / n) x * n + f (s % n) x) (n := n * n) (m := m) (fun s x hs hx => by
    have e1 : s / n < n := Nat.div_lt_of_lt_mul hs
    have e2 : s % n < n := Nat.mod_lt _ hn
    exact pair_lt (hf _ x e1 hx) (hf _ x e2 hx)) _ v (p * n + q) (Nat.le_refl _) (pair_lt hp hq) h1
  rw [pair_run hn hf z p q hp hq z1, pair_run hn hf v p q hp hq h1] at z2
  obtain ⟨e1, e2⟩ := pair_eq (runLt hf z q hq z1) (runLt hf v q hq h1) z2
  have := h4 z z1 (by rw [e1, e2, h3])
  omega
end
/-- The first shortest word that merges p and q. -/
structure LM (f : Nat → Nat → Nat) (m p q : Nat) (w : List Nat) : Prop where
  wd : Wd m w
  ends : run f p w = run f q w
  le : ∀ v, Wd m v → run f p v = run f q v → code m w ≤ code m v
section
variable {f : Nat → Nat → Nat} {m n p q d x : Nat} {v w : List Nat}
theorem LM.uniq (h : LM f m p q v) (k : LM f m p q w) : v = w := code_inj v w h.wd k.wd (Nat.le_antisymm (h.le w k.wd k.ends) (k.le v h.wd h.ends))
theorem LM.symm (h : LM f m p q w) : LM f m q p w := ⟨h.wd, h.ends.symm, fun v hv hr => h.le v hv hr.symm⟩
theorem LM.refl (f : Nat → Nat → Nat) (m p : Nat) : LM f m p p [] := ⟨Wd.nil m, rfl, fun v _ _ => Nat.zero_le _⟩
theorem LM.cons (hm : 0 < m) (hd : MDist f m p q (d + 1)) (hx : x < m) (hl : ∀ y, y < x → ¬ MDist f m (f p y) (f q y) d) (h : LM f m (f p x) (f q x) w) (hw : w.length = d) : LM f m p q (x :: w) := by
  obtain ⟨hne, _, hlow⟩ := hd.pred
  refine ⟨Wd.cons hx h.wd, h.ends, fun v hv hr => ?_⟩
  cases v with
  | nil => exact absurd hr hne
  | cons y v =>
    have hlen := hd.2 (y :: v) hv hr
    simp only [List.length_cons] at hlen
    rcases Nat.lt_or_ge (x :: w).length (y :: v).length with h1 | h1
    · exact Nat.le_of_lt (code_len hm (Wd.cons hx h.wd) hv h1)
    · simp only [List.length_cons] at h1
      have hvl : v.length = w.length := by omega
      have hyx : ¬ y < x := fun hlt => by
        refine hl y hlt ⟨⟨v, hv.tail, by omega, hr⟩, fun u hu hur => ?_⟩
        have := hd.2 (y :: u) (Wd.cons hv.head hu) hur
        simp at this; omega
      rcases Nat.lt_or_ge x y with h2 | h2
      · exact Nat.le_of_lt (code_head h.wd hv.tail (by omega) h2)
      · obtain rfl : x = y := by omega
        rw [code_cons, code_cons, hvl]
        have := h.le v hv.tail hr
        omega
theorem LM.dist (hm : 0 < m) (h : LM f m p q w) : MDist f m p q w.length := by
  refine ⟨⟨w, h.wd, rfl, h.ends⟩, fun v hv hr => ?_⟩
  rcases Nat.lt_or_ge v.length w.length with h1 | h1
  · have := code_len hm hv h.wd h1; have := h.le v hv hr; omega
  · exact h1
end
end Go.Proofs.Ytcpmmkennnjalaa.Q
end
section
namespace Go.Proofs.Ytcpmmkennnjalaa.Q
open Go.RowKit Go.Proofs.YtcpmmkennnjalaaW.PrintWords Go.Proofs.YtcpmmkennnjalaaW.PrintLast Go.Proofs.YtcpmmkennnjalaaW.PrintMore
set_option linter.unusedVariables false
set_option linter.unusedSectionVars false
set_option linter.unusedSimpArgs false
/-! ### the reference's table -/
def TT (tab : List (List Int)) (p q : Nat) : Int := rd (rd_L1 tab (p : Int)) (q : Int)
structure Shape (tab : List (List Int)) (n : Nat) : Prop where
  len : tab.length = n
  row : ∀ p, p < n → (rd_L1 tab (p : Int)).length = n
theorem rdL_set {l : List (List Int)} {i j : Nat} {v : List Int} (hj : j < l.length) : rd_L1 (l.set i v) (j : Int) = if i = j then v else rd_L1 l (j : Int) := by
  rw [rdLE (by rw [List.length_set]; exact hj), rdLE hj, List.getElem_set]
theorem rdS_set {l : List Int} {i j : Nat} {v : Int} (hj : j < l.length) : rd (l.set i v) (j : Int) = if i = j then v else rd l (j : Int) := by
  rw [rdE (by rw [List.length_set]; exact hj), rdE hj, List.getElem_set]
theorem Shape.put {tab : List (List Int)} {n p q : Nat} {v : Int} (h : Shape tab n) (hp : p < n) : Shape (tab.set p ((rd_L1 tab (p : Int)).set q v)) n := by
  refine ⟨by rw [List.length_set]; exact h.len, fun s hs => ?_⟩
  rw [rdL_set (by rw [h.len]; exact hs)]
  split
  · rw [List.length_set]; exact h.row p hp
  · exact h.row s hs
theorem TT_put {tab : List (List Int)} {n p q a b : Nat} {v : Int} (h : Shape tab n) (ha : a < n) (hb : b < n) (hp : p < n) : TT (tab.set p ((rd_L1 tab (p : Int)).set q v)) a b = if p = a ∧ q = b then v else TT tab a b := by
  unfold TT
  rw [rdL_set (by rw [h.len]; exact ha)]
  by_cases e : p = a
  · subst e
    rw [if_pos rfl, rdS_set (by rw [h.row p hp]; exact hb)]
    by_cases e2 : q = b
    · rw [if_pos e2, if_pos ⟨rfl, e2⟩]
    · rw [if_neg e2, if_neg (fun h => e2 h.2)]
  · rw [if_neg e, if_neg (fun h => e h.1)]
/-- What an entry says once the words of fewer than kk letters are known. -/
def Ent (f : Nat → Nat → Nat) (m : Nat) (tab : List (List Int)) (kk p q : Nat) : Prop := (∃ d : Nat, d < kk ∧ TT tab p q = (d : Int) ∧ MDist f m p q d) ∨ (TT tab p q = -1 ∧ ∀ d, d < kk → ¬ MDist f m p q d)
def bef (p q p0 q0 : Nat) : Prop := p < p0 ∨ p = p0 ∧ q < q0
instance (p q p0 q0 : Nat) : Decidable (bef p q p0 q0) := inferInstanceAs (Decidable (_ ∨ _))
theorem bef_next (p q : Nat) : bef p q p (q + 1) := Or.inr ⟨rfl, Nat.lt_succ_self q⟩
theorem ite_iff {c d : Prop} [Decidable c] [Decidable d] (h : c ↔ d) {a b : Nat} : (if c then a else b) = if d then a else b := by
  by_cases hc : c
  · rw [if_pos hc, if_pos (h.1 hc)]
  · rw [if_neg hc, if_neg fun hd => hc (h.2 hd)]
structure InPass (f : Nat → Nat → Nat) (m n : Nat) (tab : List (List Int)) (kk p0 q0 : Nat) (more : Bool) : Prop where
  shape : Shape tab n
  ent : ∀ p q, p < n → q < n → Ent f m tab (if bef p q p0 q0 then kk + 1 else kk) p q
  more : more = true ↔ ∃ p q, p < n ∧ q < n ∧ bef p q p0 q0 ∧ MDist f m p q kk
theorem InPass.test {f : Nat → Nat → Nat} {m n kk p0 q0 : Nat} {tab : List (List Int)} {more : Bool} (h : InPass f m n tab (kk + 1) p0 q0 more) {u v : Nat} (hu : u < n) (hv : v < n) : TT tab u v = (kk : Int) ↔ MDist f m u v kk := by
  have h1 : kk < (if bef u v p0 q0 then kk + 1 + 1 else kk + 1) := by split <;> omega
  rcases h.ent u v hu hv with ⟨d, h2, h3, h4⟩ | ⟨h2, h3⟩
  · rw [h3]
    refine ⟨fun e => ?_, fun e => by rw [h4.uniq e]⟩
    have e2 : d = kk := by omega
    exact e2 ▸ h4
  · rw [h2]
    exact ⟨fun e => by omega, fun e => absurd e (h3 kk h1)⟩
section
variable {rows : List (List Int)} {n m : Nat} (V : VA rows n m)
include V
theorem no_less {p q kk d : Nat} (h : ∀ d, d < kk + 1 → ¬ MDist (nx rows) m p q d) {x e : Nat} (hx : x < m) (he : MDist (nx rows) m (nx rows p x) (nx rows q x) e) : kk ≤ e := by
  obtain ⟨d, hd⟩ := Mg.dist (Mg.step hx he.mg)
  obtain ⟨⟨w, h1, h2, h3⟩, _⟩ := he
  have h4 := hd.2 (x :: w) (Wd.cons hx h1) h3
  simp only [List.length_cons] at h4
  rcases Nat.lt_or_ge d (kk + 1) with h5 | h5
  · exact absurd hd (h d h5)
  · omega
end
end Go.Proofs.Ytcpmmkennnjalaa.Q
end
section
namespace Go.Proofs.Ytcpmmkennnjalaa.Q
set_option linter.unusedVariables false
set_option linter.unusedSectionVars false
set_option linter.unusedSimpArgs false
/-! ### the nearest pair of a set is near (Frankl; Pin) -/
/-- The numbers below n that are not in a list. -/
def compl (n : Nat) : List Nat → List Nat
  | [] => List.range n
  | s :: S => (compl n S).erase s
theorem compl_nodup (n : Nat) : ∀ S, (compl n S).Nodup
  | [] => List.nodup_range
  | s :: S => (compl_nodup n S).erase s
theorem compl_mem {n x : Nat} : ∀ {S : List Nat}, x ∈ compl n S ↔ x < n ∧ x ∉ S
  | [] => by simp [compl]
  | s :: S => by
    unfold compl
    rw [(compl_nodup n S).mem_erase_iff, compl_mem, List.mem_cons]
    constructor
    · rintro ⟨h1, h2, h3⟩; exact ⟨h2, fun h => h.elim h1 h3⟩
    · rintro ⟨h1, h2⟩; exact ⟨fun h => h2 (Or.inl h), h1, fun h => h2 (Or.inr h)⟩
theorem compl_len {n : Nat} : ∀ {S : List Nat}, S.Nodup → (∀ x ∈ S, x < n) → (compl n S).length + S.length = n
  | [], _, _ => by simp [compl]
  | s :: S, hn, hl => by
    rw [List.nodup_cons] at hn
    have ih := compl_len hn.2 fun x hx => hl x (List.mem_cons_of_mem _ hx)
    have hm : s ∈ compl n S := compl_mem.2 ⟨hl s List.mem_cons_self, hn.1⟩
    have hpos := List.length_pos_of_mem hm
    unfold compl
    rw [List.length_erase_of_mem hm, List.length_cons]; omega
theorem Wd.take {m : Nat} {w : List Nat} (h : Wd m w) (i : Nat) : Wd m (w.take i) := fun x hx => h x (List.mem_of_mem_take hx)
theorem Wd.drop {m : Nat} {w : List Nat} (h : Wd m w) (i : Nat) : Wd m (w.drop i) := fun x hx => h x (List.mem_of_mem_drop hx)
theorem near_bound {f : Nat → Nat → Nat} {m n : Nat} (hf : ∀ s x, s < n → x < m → f s x < n) {Q : List Nat} (hQ : Q.Nodup) (hlt : ∀ x ∈ Q, x < n) {p q d : Nat} (hp : p ∈ Q) (hq : q ∈ Q) (hd : MDist f m p q d)
    (hmin : ∀ a ∈ Q, ∀ b ∈ Q, a ≠ b → ∀ e, MDist f m a b e → d ≤ e) : 2 * d ≤ (n - Q.length + 1) * (n - Q.length + 2) := by
  obtain ⟨⟨w, hw, hwl, hwe⟩, hlow⟩ := hd
  have short : ∀ a ∈ Q, ∀ b ∈ Q, a ≠ b → ∀ v, Wd m v → run f a v = run f b v → d ≤ v.length := fun a ha b hb hab v hv hr => by
    obtain ⟨e, he⟩ := Mg.dist ⟨v, hv, hr⟩
    have h1 := hmin a ha b hb hab e he
    have h2 := he.2 v hv hr
    omega
  have hS : ∀ i, i < d → (Q.map fun s => run f s (w.take i)).Nodup := by
    intro i hi
    rw [List.nodup_iff_pairwise_ne, List.pairwise_map]
    refine List.Pairwise.imp_of_mem ?_ (List.nodup_iff_pairwise_ne.1 hQ)
    intro a b ha hb hab he
    have := short a ha b hb hab _ (hw.take i) he
    rw [List.length_take] at this; omega
  have hSl : ∀ i, ∀ x ∈ Q.map (fun s => run f s (w.take i)), x < n := by
    intro i x hx
    obtain ⟨s, hs, rfl⟩ := List.mem_map.1 hx
    exact runLt hf _ s (hlt s hs) (hw.take i)
  refine skew (L := d) (r := n - Q.length) (fun i => (compl n (Q.map fun s => run f s (w.take i))).map fun (x : Nat) => (x : Int)) (fun i => ((run f p (w.take i) : Nat) : Int)) (fun i => ((run f q (w.take i) : Nat) : Int)) ?_ ?_ ?_
  · intro i hi
    have := compl_len (hS i hi) (hSl i)
    rw [List.length_map] at this ⊢; omega
  · intro i hi
    have key : ∀ s ∈ Q, ((run f s (w.take i) : Nat) : Int) ∉ (compl n (Q.map fun s => run f s (w.take i))).map fun (x : Nat) => (x : Int) := by
      intro s hs hm
      obtain ⟨x, hx, he⟩ := List.mem_map.1 hm
      have e : x = run f s (w.take i) := by omega
      subst e
      exact (compl_mem.1 hx).2 (List.mem_map.2 ⟨s, hs, rfl⟩)
    exact ⟨key p hp, key q hq⟩
  · intro i j hi hj
    apply Classical.byContradiction
    intro hn
    rw [not_or] at hn
    have get : ∀ s ∈ Q, ((run f s (w.take i) : Nat) : Int) ∉ (compl n (Q.map fun s => run f s (w.take j))).map (fun (x : Nat) => (x : Int)) → ∃ t ∈ Q, run f t (w.take j) = run f s (w.take i) := by
      intro s hs hm
      have h1 : run f s (w.take i) < n := runLt hf _ s (hlt s hs) (hw.take i)
      have h2 : run f s (w.take i) ∉ compl n (Q.map fun s => run f s (w.take j)) := fun h => hm (List.mem_map.2 ⟨_, h, rfl⟩)
      have h3 : run f s (w.take i) ∈ Q.map fun s => run f s (w.take j) := by
        apply Classical.byContradiction
        intro h; exact h2 (compl_mem.2 ⟨h1, h⟩)
      obtain ⟨t, ht, he⟩ := List.mem_map.1 h3
      exact ⟨t, ht, he⟩
    obtain ⟨s, hs, hse⟩ := get p hp hn.1
    obtain ⟨t, ht, hte⟩ := get q hq hn.2
    have hne : run f p (w.take i) ≠ run f q (w.take i) := fun h => by
      have := hlow _ (hw.take i) h
      rw [List.length_take] at this; omega
    have hst : s ≠ t := fun h => by subst h; exact hne (hse.symm.trans hte)
    have hend : ∀ s0, run f (run f s0 (w.take i)) (w.drop i) = run f s0 w := fun s0 => by
      rw [← run_app, List.take_append_drop]
    have := short s hs t ht hst (w.take j ++ w.drop i) ((hw.take j).app (hw.drop i)) (by rw [run_app, run_app, hse, hte, hend, hend, hwe])
    rw [List.length_append, List.length_take, List.length_drop] at this
    omega
end Go.Proofs.Ytcpmmkennnjalaa.Q
end
section
namespace Go.Proofs.Ytcpmmkennnjalaa.Q
open Go.RowKit Go.Proofs.YtcpmmkennnjalaaW.PrintWords Go.Proofs.YtcpmmkennnjalaaW.PrintLast Go.Proofs.YtcpmmkennnjalaaW.PrintMore
set_option linter.unusedVariables false
theorem ref_has (l : List Int) (z : Int) (hl : l.length ≤ 9223372036854775806) : Ev (fun k => mizmazeref01_Has.f k l z) (decide (z ∈ l)) := by
  unfold mizmazeref01_Has.f
  refine @Ev.every Bool (fun k i => mizmazeref01_Has.l0 k l z (i : Int)) l.length false true _ (fun i => decide (rd l (i : Int) ≠ z)) ?_ ?_ ?_ ?_ ?_
  · intro h
    rw [decide_eq_false_iff_not]
    intro hz
    obtain ⟨i, hi, e⟩ := List.getElem_of_mem hz
    have := of_decide_eq_true (h i hi)
    rw [rdE hi] at this; exact this e
  · intro i hi h
    have h2 := of_decide_eq_false h
    rw [rdE hi] at h2
    rw [decide_eq_true_eq, ← Classical.not_not.1 h2]; exact List.getElem_mem hi
  · intro i hi hp hr
    refine Ev.next ?_
    simp only [mizmazeref01_Has.l0, if_pos (by omega : (i : Int) < (l.length : Int)), if_pos (by omega : (0 : Int) ≤ (i : Int)), if_neg (of_decide_eq_true hp), wrapS (by omega : i + 1 ≤ 9223372036854775807)]
    exact hr
  · intro i hi hp
    refine Ev.next ?_
    simp only [mizmazeref01_Has.l0, if_pos (by omega : (i : Int) < (l.length : Int)), if_pos (by omega : (0 : Int) ≤ (i : Int)), if_pos (Classical.not_not.1 (of_decide_eq_false hp))]
    exact Ev.now _
  · refine Ev.next ?_
    simp only [mizmazeref01_Has.l0, if_neg (by omega : ¬ (l.length : Int) < (l.length : Int))]
    exact Ev.now _
end Go.Proofs.Ytcpmmkennnjalaa.Q
end
section
namespace Go.Proofs.Ytcpmmkennnjalaa.Q
open Go.RowKit Go.Proofs.YtcpmmkennnjalaaW.PrintWords Go.Proofs.YtcpmmkennnjalaaW.PrintLast Go.Proofs.YtcpmmkennnjalaaW.PrintMore
set_option linter.unusedVariables false
theorem Least.short {rows : List (List Int)} {n m s t : Nat} {w : List Nat} (h : Least (nx rows) m s t w) (V : VA rows n m) (hs : s < n) : w.length < n := by
  obtain ⟨z, hz1, hz2, hz3, _⟩ := short_word (fun s x => V.nxLt) _ w s (Nat.le_refl _) hs h.wd
  rcases Nat.lt_or_ge z.length w.length with h1 | h1
  · have := code_len V.m0 hz1 h.wd h1
    have := h.le z hz1 (hz2.trans h.ends); omega
  · omega
theorem toI_rd {w : List Nat} {i : Nat} (h : i < w.length) : rd (toI w) (i : Int) = ((w[i] : Nat) : Int) := by
  rw [rdE (by rw [toI_len]; exact h)]; simp [toI]
theorem inB_toI {m : Nat} {w : List Nat} : inB (m : Int) (toI w) = true ↔ Wd m w := by
  unfold inB toI
  rw [List.all_eq_true]
  constructor
  · intro h x hx
    have := h (x : Int) (List.mem_map.2 ⟨x, hx, rfl⟩)
    simp at this; omega
  · intro h x hx
    obtain ⟨y, hy, rfl⟩ := List.mem_map.1 hx
    have := h y hy
    simp; omega
theorem auto_lead {rows : List (List Int)} {n m s : Nat} (V : VA rows n m) (hs : s < n) {w : List Nat} (hw : Wd m w) (hl : w.length ≤ 1000000) : Ev (fun k => auto_Lead.f k rows (s : Int) (toI w)) ((run (nx rows) s w : Nat) : Int) := by
  have hlen := V.len
  have key : ∀ (d i u : Nat), i + d = w.length → u < n → Ev (fun k => auto_Lead.l0 k (u : Int) (toI w) (w.length : Int) (i : Int) rows) ((run (nx rows) u (w.drop i) : Nat) : Int) := by
    intro d
    induction d with
    | zero =>
      intro i u hi hu
      refine Ev.next ?_
      simp only [auto_Lead.l0, if_neg (by omega : ¬ (i : Int) < (w.length : Int))]
      rw [List.drop_eq_nil_of_le (by omega)]
      exact Ev.now _
    | succ d ih =>
      intro i u hi hu
      have hil : i < w.length := by omega
      have hx := hw w[i] (List.getElem_mem hil)
      have hrow := V.row u hu
      refine Ev.next ?_
      simp only [auto_Lead.l0, if_pos (by omega : (i : Int) < (w.length : Int)), if_pos (by omega : (0 : Int) ≤ (i : Int)), toI_len, if_pos (by omega : (0 : Int) ≤ (u : Int)), if_pos (by omega : (u : Int) < (rows.length : Int)), toI_rd hil, if_pos (by omega : (0 : Int) ≤ ((w[i] : Nat) : Int)), if_pos (by omega : ((w[i] : Nat) : Int) < ((rd_L1 rows (u : Int)).length : Int)), V.nxE hu hx, wrapS (by omega : i + 1 ≤ 9223372036854775807)]
      rw [List.drop_eq_getElem_cons hil]
      exact ih (i + 1) _ (by omega) (V.nxLt hu hx)
  unfold auto_Lead.f
  rw [toI_len]
  exact key w.length 0 s (by omega) hs
end Go.Proofs.Ytcpmmkennnjalaa.Q
end
section
namespace Go.Proofs.Ytcpmmkennnjalaa.Q
open Go.RowKit Go.Proofs.YtcpmmkennnjalaaW.PrintWords Go.Proofs.YtcpmmkennnjalaaW.PrintLast Go.Proofs.YtcpmmkennnjalaaW.PrintMore
set_option linter.unusedVariables false
/-! ### breadth first -/
/-- What holds while letter x of the i-th state met is looked at. -/
structure Bfs (f : Nat → Nat → Nat) (m n s t : Nat) (q : List (Nat × List Nat)) (i x : Nat) : Prop where
  st : q[0]? = some (s, [])
  ok : ∀ e ∈ q, e.1 < n ∧ Wd m e.2 ∧ run f s e.2 = e.1 ∧ e.1 ≠ t
  nd : (q.map Prod.fst).Nodup
  le : ∀ (j : Nat) (e : Nat × List Nat), q[j]? = some e → e.2.length ≤ j
  mono : ∀ (j k : Nat) (a b : Nat × List Nat), j < k → q[j]? = some a → q[k]? = some b → code m a.2 < code m b.2
  done : ∀ (j : Nat) (e : Nat × List Nat) (y : Nat), q[j]? = some e → y < m → (j < i ∨ j = i ∧ y < x) → ∃ a ∈ q, a.1 = f e.1 y ∧ code m a.2 ≤ code m (e.2 ++ [y])
  top : ∀ e : Nat × List Nat, q[i]? = some e → ∀ a ∈ q, code m a.2 < m * code m e.2 + (x + 1)
theorem Bfs.len {f : Nat → Nat → Nat} {m n s t i x : Nat} {q : List (Nat × List Nat)} (B : Bfs f m n s t q i x) : q.length ≤ n := by
  have := nodup_le n _ B.nd (by intro u hu; obtain ⟨e, he, rfl⟩ := List.mem_map.1 hu; exact (B.ok e he).1)
  rwa [List.length_map] at this
/-- Every word is behind the front, or leads to a state met. -/
theorem Bfs.front {f : Nat → Nat → Nat} {m n s t i x : Nat} {q : List (Nat × List Nat)} (B : Bfs f m n s t q i x) {e : Nat × List Nat} (he : q[i]? = some e) (hx : x < m) (v : List Nat) (hv : Wd m v) :
    m * code m e.2 + (x + 1) ≤ code m v ∨ ∃ a ∈ q, a.1 = run f s v ∧ code m a.2 ≤ code m v := by
  induction v using snoc_ind with
  | h0 => exact Or.inr ⟨(s, []), List.mem_of_getElem? B.st, rfl, Nat.le_refl _⟩
  | h1 v y ih =>
    have hy := hv.right y (by simp)
    have hc := code_snoc m v y
    rcases ih hv.left with h | ⟨a, ha, ha1, ha2⟩
    · left; rw [hc]
      have : code m v ≤ m * code m v := Nat.le_mul_of_pos_left _ (by omega)
      omega
    · obtain ⟨j, hj⟩ := List.mem_iff_getElem?.1 ha
      have hm := Nat.mul_le_mul_left m ha2
      by_cases hd : j < i ∨ j = i ∧ y < x
      · obtain ⟨b, hb, hb1, hb2⟩ := B.done j a y hj hy hd
        refine Or.inr ⟨b, hb, by rw [run_snoc, hb1, ha1], ?_⟩
        rw [code_snoc] at hb2; rw [hc]; omega
      · left; rw [hc]
        rcases Nat.lt_or_ge i j with h | h
        · have h2 := Nat.mul_le_mul_left m (Nat.succ_le_of_lt (B.mono i j e a h he hj))
          rw [Nat.mul_succ] at h2
          omega
        · obtain rfl : j = i := by omega
          rw [he] at hj; obtain rfl := Option.some.inj hj
          omega
/-- When all is looked at: every word leads to a state met. -/
theorem Bfs.all {f : Nat → Nat → Nat} {m n s t i x : Nat} {q : List (Nat × List Nat)} (B : Bfs f m n s t q i x) (he : q.length ≤ i) (v : List Nat) (hv : Wd m v) : ∃ a ∈ q, a.1 = run f s v := by
  induction v using snoc_ind with
  | h0 => exact ⟨(s, []), List.mem_of_getElem? B.st, rfl⟩
  | h1 v y ih =>
    obtain ⟨a, ha, ha1⟩ := ih hv.left
    obtain ⟨j, hj⟩ := List.mem_iff_getElem?.1 ha
    have hlt := (List.getElem?_eq_some_iff.1 hj).1
    obtain ⟨b, hb, hb1, _⟩ := B.done j a y hj (hv.right y (by simp)) (Or.inl (by omega))
    exact ⟨b, hb, by rw [run_snoc, hb1, ha1]⟩
theorem Bfs.old {f : Nat → Nat → Nat} {m n s t i x : Nat} {q : List (Nat × List Nat)} (B : Bfs f m n s t q i x) {e a : Nat × List Nat} (he : q[i]? = some e) (ha : a ∈ q) (h : a.1 = f e.1 x) : Bfs f m n s t q i (x + 1) where
  st := B.st
  ok := B.ok
  nd := B.nd
  le := B.le
  mono := B.mono
  done := fun j e' y hj hy hd => by
    by_cases h1 : j < i ∨ j = i ∧ y < x
    · exact B.done j e' y hj hy h1
    · obtain rfl : j = i := by omega
      obtain rfl : y = x := by omega
      rw [he] at hj; obtain rfl := Option.some.inj hj
      refine ⟨a, ha, h, ?_⟩
      have := B.top e he a ha
      rw [code_snoc]; omega
  top := fun e' he' a ha => by have := B.top e' he' a ha; omega
theorem Bfs.new {f : Nat → Nat → Nat} {m n s t i x : Nat} {q : List (Nat × List Nat)} (B : Bfs f m n s t q i x) {e : Nat × List Nat} (he : q[i]? = some e) (hx : x < m) (hf : f e.1 x < n) (hn : ∀ a ∈ q, a.1 ≠ f e.1 x) (ht : f e.1 x ≠ t) : Bfs f m n s t (q ++ [(f e.1 x, e.2 ++ [x])]) i (x + 1) := by
  have hi := (List.getElem?_eq_some_iff.1 he).1
  have hem := List.mem_of_getElem? he
  have hok := B.ok e hem
  have ap : ∀ (j : Nat) (a : Nat × List Nat), (q ++ [(f e.1 x, e.2 ++ [x])])[j]? = some a → (q[j]? = some a ∧ j < q.length) ∨ (j = q.length ∧ a = (f e.1 x, e.2 ++ [x])) := by
    intro j a h
    rcases Nat.lt_trichotomy j q.length with h1 | h1 | h1
    · rw [List.getElem?_append_left h1] at h; exact Or.inl ⟨h, h1⟩
    · subst h1; rw [List.getElem?_append_right (Nat.le_refl _)] at h; simp at h; exact Or.inr ⟨rfl, h.symm⟩
    · rw [List.getElem?_eq_none (by rw [List.length_append]; simp; omega)] at h; exact absurd h (by simp)
  have hi' : (q ++ [(f e.1 x, e.2 ++ [x])])[i]? = some e := by rw [List.getElem?_append_left hi]; exact he
  refine ⟨?_, ?_, ?_, ?_, ?_, ?_, ?_⟩
  · rw [List.getElem?_append_left (by omega)]; exact B.st
  · intro a ha
    rcases List.mem_append.1 ha with h | h
    · exact B.ok a h
    · obtain rfl := List.mem_singleton.1 h
      exact ⟨hf, hok.2.1.app (Wd.one hx), by rw [run_snoc, hok.2.2.1], ht⟩
  · rw [List.map_append, List.nodup_append]
    refine ⟨B.nd, by simp, ?_⟩
    intro u hu v hv h
    obtain ⟨a, ha, rfl⟩ := List.mem_map.1 hu
    simp only [List.map_cons, List.map_nil, List.mem_singleton] at hv
    exact hn a ha (h.trans hv)
  · intro j a h
    rcases ap j a h with ⟨h1, _⟩ | ⟨rfl, rfl⟩
    · exact B.le j a h1
    · have := B.le i e he; simp only [List.length_append, List.length_singleton]; omega
  · intro j k a b hjk ha hb
    rcases ap k b hb with ⟨h1, h2⟩ | ⟨rfl, rfl⟩
    · rcases ap j a ha with ⟨h3, _⟩ | ⟨rfl, _⟩
      · exact B.mono j k a b hjk h3 h1
      · omega
    · rcases ap j a ha with ⟨h3, _⟩ | ⟨rfl, _⟩
      · have := B.top e he a (List.mem_of_getElem? h3)
        simp only [code_snoc]; omega
      · omega
  · intro j a y ha hy hd
    rcases ap j a ha with ⟨h1, h2⟩ | ⟨rfl, _⟩
    · by_cases h3 : j < i ∨ j = i ∧ y < x
      · obtain ⟨b, hb, h4⟩ := B.done j a y h1 hy h3
        exact ⟨b, List.mem_append.2 (Or.inl hb), h4⟩
      · obtain rfl : j = i := by omega
        obtain rfl : y = x := by omega
        rw [he] at h1; obtain rfl := Option.some.inj h1
        exact ⟨(f e.1 y, e.2 ++ [y]), by simp, rfl, Nat.le_refl _⟩
    · omega
  · intro e' he' a ha
    rw [hi'] at he'; obtain rfl := Option.some.inj he'
    rcases List.mem_append.1 ha with h | h
    · have := B.top e he a h; omega
    · obtain rfl := List.mem_singleton.1 h
      simp only [code_snoc]; omega
theorem Bfs.row {f : Nat → Nat → Nat} {m n s t i : Nat} {q : List (Nat × List Nat)} (B : Bfs f m n s t q i m) {e : Nat × List Nat} (he : q[i]? = some e) : Bfs f m n s t q (i + 1) 0 where
  st := B.st
  ok := B.ok
  nd := B.nd
  le := B.le
  mono := B.mono
  done := fun j e' y hj hy hd => B.done j e' y hj hy (by omega)
  top := fun e' he' a ha => by
    have h1 := B.top e he a ha
    have h2 := Nat.mul_le_mul_left m (Nat.succ_le_of_lt (B.mono i (i + 1) e e' (by omega) he he'))
    rw [Nat.mul_succ] at h2; omega
theorem Bfs.start {f : Nat → Nat → Nat} {m n s t : Nat} (hs : s < n) (hst : s ≠ t) : Bfs f m n s t [(s, [])] 0 0 where
  st := rfl
  ok := fun e he => by obtain rfl := List.mem_singleton.1 he; exact ⟨hs, Wd.nil m, rfl, hst⟩
  nd := by simp
  le := fun j e he => by
    cases j with
    | zero => simp at he; subst he; simp
    | succ j => simp at he
  mono := fun j k a b hjk ha hb => by
    cases k with
    | zero => omega
    | succ k => simp at hb
  done := fun j e y _ _ hd => by omega
  top := fun e he a ha => by
    simp at he; subst he
    obtain rfl := List.mem_singleton.1 ha
    simp [code_nil]
end Go.Proofs.Ytcpmmkennnjalaa.Q
end
section
namespace Go.Proofs.Ytcpmmkennnjalaa.Q
open Go.RowKit Go.Proofs.YtcpmmkennnjalaaW.PrintWords Go.Proofs.YtcpmmkennnjalaaW.PrintLast Go.Proofs.YtcpmmkennnjalaaW.PrintMore
set_option linter.unusedVariables false
set_option linter.unusedSectionVars false
set_option linter.unusedSimpArgs false
/-! ### the reference's table -/
section
variable {rows : List (List Int)} {n m : Nat} (V : VA rows n m)
include V
theorem cell_loop {tab : List (List Int)} {kk p q : Nat} (hp : p < n) (hq : q < n) {more : Bool} (hkk : kk ≤ 1000000) (h : InPass (nx rows) m n tab (kk + 1) p q more) (hT : TT tab p q = -1) (hno : ∀ d, d < kk + 1 → ¬ MDist (nx rows) m p q d) :
    ∀ (e x : Nat), x + e = m → (∀ y, y < x → ¬ MDist (nx rows) m (nx rows p y) (nx rows q y) kk) → ∃ tab' more', InPass (nx rows) m n tab' (kk + 1) p (q + 1) more' ∧ ∀ res, Ev (fun k => mizmazeref03_Table.l4 k (n : Int) tab' ((kk + 1 : Nat) : Int) more' (p : Int) ((q + 1 : Nat) : Int) rows) res → Ev (fun k => mizmazeref03_Table.l5 k (n : Int) tab ((kk + 1 : Nat) : Int) more (p : Int) (q : Int) (x : Int) rows) res := by
  have hn60 := V.n60
  have hm6 := V.m6
  have hTr : rd (rd_L1 tab (p : Int)) (q : Int) = -1 := hT
  have hl5 : ∀ k (x : Nat), x < m → mizmazeref03_Table.l5 (k + 1) (n : Int) tab ((kk + 1 : Nat) : Int) more (p : Int) (q : Int) (x : Int) rows = mizmazeref03_Table.j6 k (n : Int) tab ((kk + 1 : Nat) : Int) more (p : Int) (q : Int) (x : Int) true rows := by
    intro k x hx
    rw [mizmazeref03_Table.l5, if_pos (by omega), if_pos (by rw [h.shape.len]; omega), if_pos (by omega), if_pos (by rw [h.shape.row p hp]; omega), hTr, if_pos (by omega), V.letters, Option.bind_some, decide_eq_true (by omega)]
  have hl5e : ∀ k, mizmazeref03_Table.l5 (k + 1) (n : Int) tab ((kk + 1 : Nat) : Int) more (p : Int) (q : Int) (m : Int) rows = mizmazeref03_Table.j6 k (n : Int) tab ((kk + 1 : Nat) : Int) more (p : Int) (q : Int) (m : Int) false rows := by
    intro k
    rw [mizmazeref03_Table.l5, if_pos (by omega), if_pos (by rw [h.shape.len]; omega), if_pos (by omega), if_pos (by rw [h.shape.row p hp]; omega), hTr, if_pos (by omega), V.letters, Option.bind_some, decide_eq_false (by omega)]
  intro e
  induction e with
  | zero =>
    intro x hx hy
    obtain rfl : x = m := by omega
    have hnk : ¬ MDist (nx rows) x p q (kk + 1) := fun hd => by
      obtain ⟨_, ⟨y, hy1, hy2⟩, _⟩ := hd.pred
      exact hy y hy1 hy2
    refine ⟨tab, more, ⟨h.shape, fun a b ha hb => ?_, ?_⟩, fun res hres => ?_⟩
    · by_cases hab : a = p ∧ b = q
      · obtain ⟨rfl, rfl⟩ := hab
        rw [if_pos (bef_next _ _)]
        refine Or.inr ⟨hT, fun d hd => ?_⟩
        rcases Nat.lt_or_ge d (kk + 1) with h1 | h1
        · exact hno d h1
        · obtain rfl : d = kk + 1 := by omega
          exact hnk
      · have e : bef a b p (q + 1) ↔ bef a b p q := by unfold bef; omega
        have := h.ent a b ha hb
        rwa [ite_iff e]
    · rw [h.more]
      constructor
      · rintro ⟨a, b, h1, h2, h3, h4⟩; exact ⟨a, b, h1, h2, by unfold bef at h3 ⊢; omega, h4⟩
      · rintro ⟨a, b, h1, h2, h3, h4⟩
        refine ⟨a, b, h1, h2, ?_, h4⟩
        by_cases hab : a = p ∧ b = q
        · obtain ⟨rfl, rfl⟩ := hab; exact absurd h4 hnk
        · unfold bef at h3 ⊢; omega
    · refine Ev.step (fun k => hl5e k) (Ev.step (fun k => ?_) hres)
      rw [mizmazeref03_Table.j6, if_neg (by decide), wrapS (by omega)]
  | succ e ih =>
    intro x hx hy
    have hxm : x < m := by omega
    have ha := V.nxLt hp hxm
    have hb := V.nxLt hq hxm
    have hj : ∀ k, mizmazeref03_Table.j6 (k + 1) (n : Int) tab ((kk + 1 : Nat) : Int) more (p : Int) (q : Int) (x : Int) true rows = if TT tab (nx rows p x) (nx rows q x) = (kk : Int) then mizmazeref03_Table.l5 k (n : Int) (tab.set p ((rd_L1 tab (p : Int)).set q ((kk + 1 : Nat) : Int))) ((kk + 1 : Nat) : Int) true (p : Int) (q : Int) ((x + 1 : Nat) : Int) rows else mizmazeref03_Table.l5 k (n : Int) tab ((kk + 1 : Nat) : Int) more (p : Int) (q : Int) ((x + 1 : Nat) : Int) rows := by
      intro k
      rw [mizmazeref03_Table.j6, if_pos rfl, if_pos (by omega), if_pos (by rw [V.len]; omega), if_pos (by omega), if_pos (by rw [V.row p hp]; omega), V.nxE hp hxm, if_pos (by omega), if_pos (by rw [h.shape.len]; omega), if_pos (by omega), if_pos (by rw [V.len]; omega), if_pos (by rw [V.row q hq]; omega), V.nxE hq hxm, if_pos (by omega), if_pos (by rw [h.shape.row _ ha]; omega),
        wrapI (by omega) (by omega), show (((kk + 1 : Nat) : Int) - 1) = (kk : Int) by omega]
      by_cases ht : TT tab (nx rows p x) (nx rows q x) = (kk : Int)
      · rw [if_pos ht, if_pos (show rd (rd_L1 tab (nx rows p x : Nat)) (nx rows q x : Nat) = (kk : Int) from ht), if_pos (by rw [h.shape.len]; omega), if_pos (by rw [h.shape.row p hp]; omega), wrapS (by omega)]
        simp only [Int.toNat_natCast]
      · rw [if_neg ht, if_neg (show ¬ rd (rd_L1 tab (nx rows p x : Nat)) (nx rows q x : Nat) = (kk : Int) from ht), wrapS (by omega)]
    by_cases ht : TT tab (nx rows p x) (nx rows q x) = (kk : Int)
    · have hd := (h.test ha hb).1 ht
      have hpq : p ≠ q := by
        rintro rfl
        exact hno 0 (by omega) (MDist.zero _ _ _)
      have hD : MDist (nx rows) m p q (kk + 1) := MDist.succ hpq hxm hd fun y e hy he => no_less V (d := 0) hno hy he
      refine ⟨_, true, ⟨h.shape.put (q := q) (v := ((kk + 1 : Nat) : Int)) hp, fun a b ha hb => ?_, ?_⟩, fun res hres => ?_⟩
      · unfold Ent
        rw [TT_put h.shape ha hb hp]
        by_cases hab : p = a ∧ q = b
        · rw [if_pos hab]
          obtain ⟨rfl, rfl⟩ := hab
          rw [if_pos (bef_next _ _)]
          exact Or.inl ⟨kk + 1, by omega, rfl, hD⟩
        · rw [if_neg hab]
          have e : bef a b p (q + 1) ↔ bef a b p q := by unfold bef; omega
          have := h.ent a b ha hb
          rwa [ite_iff e]
      · exact ⟨fun _ => ⟨p, q, hp, hq, Or.inr ⟨rfl, by omega⟩, hD⟩, fun _ => rfl⟩
      · refine Ev.step (fun k => hl5 k x hxm) (Ev.step (fun k => by rw [hj, if_pos ht]) (Ev.step (f := fun k => mizmazeref03_Table.j6 k (n : Int) (tab.set p ((rd_L1 tab (p : Int)).set q ((kk + 1 : Nat) : Int))) ((kk + 1 : Nat) : Int) true (p : Int) (q : Int) ((x + 1 : Nat) : Int) false rows) (fun k => ?_) (Ev.step (fun k => ?_) hres)))
        · have hs := h.shape.put (q := q) (v := ((kk + 1 : Nat) : Int)) hp
          have hv : rd (rd_L1 (tab.set p ((rd_L1 tab (p : Int)).set q ((kk + 1 : Nat) : Int))) (p : Int)) (q : Int) = ((kk + 1 : Nat) : Int) := by
            have := TT_put (q := q) (v := ((kk + 1 : Nat) : Int)) h.shape hp hq hp
            rw [if_pos ⟨rfl, rfl⟩] at this; exact this
          rw [mizmazeref03_Table.l5, if_pos (by omega), if_pos (by rw [hs.len]; omega), if_pos (by omega), if_pos (by rw [hs.row p hp]; omega), hv, if_neg (by omega)]
        · rw [mizmazeref03_Table.j6, if_neg (by decide), wrapS (by omega)]
    · obtain ⟨tab', more', h1, h2⟩ := ih (x + 1) (by omega) fun y hy2 hyd => by
        rcases Nat.lt_or_ge y x with h3 | h3
        · exact hy y h3 hyd
        · obtain rfl : y = x := by omega
          exact ht ((h.test ha hb).2 hyd)
      exact ⟨tab', more', h1, fun res hres => Ev.step (fun k => hl5 k x hxm) (Ev.step (fun k => by rw [hj, if_neg ht]) (h2 res hres))⟩
theorem cell {tab : List (List Int)} {kk p q : Nat} (hp : p < n) (hq : q < n) {more : Bool} (hkk : kk ≤ 1000000) (h : InPass (nx rows) m n tab (kk + 1) p q more) :
    ∃ tab' more', InPass (nx rows) m n tab' (kk + 1) p (q + 1) more' ∧ ∀ res, Ev (fun k => mizmazeref03_Table.l4 k (n : Int) tab' ((kk + 1 : Nat) : Int) more' (p : Int) ((q + 1 : Nat) : Int) rows) res → Ev (fun k => mizmazeref03_Table.l4 k (n : Int) tab ((kk + 1 : Nat) : Int) more (p : Int) (q : Int) rows) res := by
  have hn60 := V.n60
  have e0 : ¬ bef p q p q := by unfold bef; omega
  have hent := h.ent p q hp hq
  rw [if_neg e0] at hent
  have h4 : ∀ k, mizmazeref03_Table.l4 (k + 1) (n : Int) tab ((kk + 1 : Nat) : Int) more (p : Int) (q : Int) rows = mizmazeref03_Table.l5 k (n : Int) tab ((kk + 1 : Nat) : Int) more (p : Int) (q : Int) ((0 : Nat) : Int) rows := fun k => by
    rw [mizmazeref03_Table.l4, if_pos (by omega)]; rfl
  rcases hent with ⟨d, h1, h2, h3⟩ | ⟨h1, h2⟩
  · refine ⟨tab, more, ⟨h.shape, fun a b ha hb => ?_, ?_⟩, fun res hres => ?_⟩
    · by_cases hab : a = p ∧ b = q
      · obtain ⟨rfl, rfl⟩ := hab
        rw [if_pos (bef_next _ _)]
        exact Or.inl ⟨d, by omega, h2, h3⟩
      · have e : bef a b p (q + 1) ↔ bef a b p q := by unfold bef; omega
        have := h.ent a b ha hb
        rwa [ite_iff e]
    · rw [h.more]
      constructor
      · rintro ⟨a, b, k1, k2, k3, k4⟩; exact ⟨a, b, k1, k2, by unfold bef at k3 ⊢; omega, k4⟩
      · rintro ⟨a, b, k1, k2, k3, k4⟩
        refine ⟨a, b, k1, k2, ?_, k4⟩
        by_cases hab : a = p ∧ b = q
        · obtain ⟨rfl, rfl⟩ := hab; have := h3.uniq k4; omega
        · unfold bef at k3 ⊢; omega
    · have h2' : rd (rd_L1 tab (p : Int)) (q : Int) = (d : Int) := h2
      refine Ev.step (fun k => h4 k) (Ev.step (f := fun k => mizmazeref03_Table.j6 k (n : Int) tab ((kk + 1 : Nat) : Int) more (p : Int) (q : Int) ((0 : Nat) : Int) false rows) (fun k => ?_) (Ev.step (fun k => ?_) hres))
      · rw [mizmazeref03_Table.l5, if_pos (by omega), if_pos (by rw [h.shape.len]; omega), if_pos (by omega), if_pos (by rw [h.shape.row p hp]; omega), h2', if_neg (by omega)]
      · rw [mizmazeref03_Table.j6, if_neg (by decide), wrapS (by omega)]
  · obtain ⟨tab', more', k1, k2⟩ := cell_loop V hp hq hkk h h1 h2 m 0 (by omega) fun y hy => by omega
    exact ⟨tab', more', k1, fun res hres => Ev.step (fun k => h4 k) (k2 res hres)⟩
/-- What the table says in the end. -/
structure TabOk (f : Nat → Nat → Nat) (m n : Nat) (tab : List (List Int)) : Prop where
  shape : Shape tab n
  ent : ∀ p q, p < n → q < n → (∃ d : Nat, TT tab p q = (d : Int) ∧ MDist f m p q d) ∨ (TT tab p q = -1 ∧ ¬ Mg f m p q)
end
end Go.Proofs.Ytcpmmkennnjalaa.Q
end
section
namespace Go.Proofs.Ytcpmmkennnjalaa.Q
set_option linter.unusedVariables false
set_option linter.unusedSectionVars false
set_option linter.unusedSimpArgs false
/-! ### Kari: a value that some word changes is changed by a word of less than n letters -/
theorem sumL_comm {α β : Type} (F : α → β → Int) : ∀ (A : List α) (B : List β), sumL A (fun a => sumL B fun b => F a b) = sumL B fun b => sumL A fun a => F a b
  | [], B => (sumL_zero fun b _ => rfl).symm
  | a :: A, B => by
    rw [sumL_cons, sumL_comm F A B, ← sumL_add]
    exact sumL_congr fun b _ => (sumL_cons a A fun a => F a b).symm
theorem sumL_nonpos {α : Type} {g : α → Int} : ∀ {A : List α}, (∀ a ∈ A, g a ≤ 0) → sumL A g ≤ 0
  | [], _ => Int.le_refl _
  | a :: A, h => by
    rw [sumL_cons]
    have h1 := h a List.mem_cons_self
    have h2 := sumL_nonpos (A := A) fun b hb => h b (List.mem_cons_of_mem _ hb)
    omega
theorem sumL_all_zero {α : Type} {g : α → Int} : ∀ {A : List α}, (∀ a ∈ A, g a ≤ 0) → sumL A g = 0 → ∀ a ∈ A, g a = 0
  | [], _, _ => fun a ha => by cases ha
  | a :: A, h, h0 => by
    rw [sumL_cons] at h0
    have h1 := h a List.mem_cons_self
    have h2 := sumL_nonpos (A := A) fun b hb => h b (List.mem_cons_of_mem _ hb)
    intro b hb
    rcases List.mem_cons.1 hb with rfl | hb
    · omega
    · exact sumL_all_zero (fun c hc => h c (List.mem_cons_of_mem _ hc)) (by omega) b hb
def deltaN (t : Nat) : Nat → Int := fun s => if s = t then 1 else 0
theorem span_delta (n : Nat) (g : Nat → Int) : InSpan ((List.range n).map deltaN) fun s => if s < n then g s else 0 := by
  have h := InSpan.sum (B := (List.range n).map deltaN) (List.range n) g deltaN fun t ht => InSpan.mem (List.mem_map.2 ⟨t, ht, rfl⟩)
  refine h.congr fun s => ?_
  by_cases hs : s < n
  · rw [if_pos hs, sumL_single hs fun t ht hne => by simp [deltaN, Ne.symm hne]]
    simp [deltaN]
  · rw [if_neg hs]
    refine (sumL_zero fun t ht => ?_).symm
    have := List.mem_range.1 ht
    simp [deltaN, show ¬ s = t by omega]
section
variable {f : Nat → Nat → Nat} {n m : Nat} (hf : ∀ s x, s < n → x < m → f s x < n)
/-- the sum of v over the states to which a word leads -/
def evS (f : Nat → Nat → Nat) (n : Nat) (v : Nat → Int) (w : List Nat) : Int := sumL (List.range n) fun s => v (run f s w)
include hf
theorem evS_min {v : Nat → Int} {z : List Nat} (hz : Wd m z) (h : evS f n v z ≠ 0) (hmin : ∀ w, Wd m w → w.length < z.length → evS f n v w = 0) : z.length + 1 ≤ n := by
  apply Classical.byContradiction
  intro hn
  obtain ⟨c, hc, hx⟩ := depend ((List.range n).map deltaN) (List.range (z.length + 1)) (fun i => fun s => if s < n then v (run f s (z.drop (z.length - i))) else 0) List.nodup_range (by simp; omega) (fun i _ => span_delta n _)
  obtain ⟨i, hi, hci, hj⟩ := range_last hc
  have hp : Wd m (z.take (z.length - i)) := hz.take _
  have h0 : sumL (List.range n) (fun s => sumL (List.range (z.length + 1)) fun j => c j * (if run f s (z.take (z.length - i)) < n then v (run f (run f s (z.take (z.length - i))) (z.drop (z.length - j))) else 0)) = 0 :=
    sumL_zero fun s _ => hx _
  rw [sumL_comm, sumL_single hi fun j hjl hne => ?_] at h0
  · rw [sumL_mul] at h0
    rcases Int.mul_eq_zero.1 h0 with h1 | h1
    · exact hci h1
    · refine h (Eq.trans (sumL_congr fun s hs => ?_) h1)
      rw [if_pos (runLt hf _ s (List.mem_range.1 hs) hp), ← run_app, List.take_append_drop]
  · rcases Nat.lt_or_ge i j with h1 | h1
    · rw [hj j hjl h1]
      exact sumL_zero fun s _ => Int.zero_mul _
    · have h2 : j < i := by omega
      have e := hmin (z.take (z.length - i) ++ z.drop (z.length - j)) (hp.app (hz.drop _)) (by rw [List.length_append, List.length_take, List.length_drop]; omega)
      rw [sumL_mul]
      refine Int.mul_eq_zero.2 (.inr (Eq.trans (sumL_congr fun s hs => ?_) e))
      rw [if_pos (runLt hf _ s (List.mem_range.1 hs) hp), ← run_app]
theorem evS_short {v : Nat → Int} : ∀ (d : Nat) (w : List Nat), w.length ≤ d → Wd m w → evS f n v w ≠ 0 → ∃ z, Wd m z ∧ z.length + 1 ≤ n ∧ evS f n v z ≠ 0
  | 0, w, hl, hw, h => ⟨w, hw, evS_min hf hw h fun u _ hu => by omega, h⟩
  | d + 1, w, hl, hw, h => by
    by_cases hs : ∃ u, Wd m u ∧ u.length < w.length ∧ evS f n v u ≠ 0
    · obtain ⟨u, h1, h2, h3⟩ := hs
      exact evS_short d u (by omega) h1 h3
    · exact ⟨w, hw, evS_min hf hw h fun u h1 h2 => Classical.byContradiction fun h3 => hs ⟨u, h1, h2, h3⟩, h⟩
end
section
variable {f : Nat → Nat → Nat} {n m : Nat} (hm : 0 < m) (hE : ∀ g : Nat → Int, sumL (List.range n) (fun s => sumL (List.range m) fun x => g (f s x)) = (m : Int) * sumL (List.range n) g)
include hE
theorem evS_cons (v : Nat → Int) (u : List Nat) : sumL (List.range m) (fun x => evS f n v (x :: u)) = (m : Int) * evS f n v u := by
  unfold evS
  rw [← hE, sumL_comm]
  rfl
include hm
theorem evS_le (v : Nat → Int) : ∀ (l : Nat) (u : List Nat), (∀ w, Wd m w → w.length = l → evS f n v (w ++ u) ≤ 0) → evS f n v u ≤ 0
  | 0, u, h => h [] (Wd.nil _) rfl
  | l + 1, u, h => by
    have h1 : ∀ x ∈ List.range m, evS f n v (x :: u) ≤ 0 := fun x hx => evS_le v l (x :: u) fun w hw hl => by
      have := h (w ++ [x]) (hw.app (fun y hy => by rw [List.mem_singleton.1 hy]; exact List.mem_range.1 hx)) (by rw [List.length_append, hl]; rfl)
      rw [List.append_assoc] at this
      exact this
    have h2 := sumL_nonpos h1
    rw [evS_cons hE] at h2
    apply Classical.byContradiction
    intro h3
    have : 0 < (m : Int) * evS f n v u := Int.mul_pos (by omega) (by omega)
    omega
theorem evS_zero (v : Nat → Int) : ∀ (l : Nat) (u : List Nat), (∀ w, Wd m w → w.length = l → evS f n v (w ++ u) ≤ 0) → evS f n v u = 0 → ∀ w, Wd m w → w.length = l → evS f n v (w ++ u) = 0
  | 0, u, _, h0 => fun w _ hl => by rw [List.eq_nil_of_length_eq_zero hl]; exact h0
  | l + 1, u, h, h0 => by
    have hx : ∀ x, x < m → ∀ w, Wd m w → w.length = l → evS f n v (w ++ x :: u) ≤ 0 := fun x hx w hw hl => by
      have := h (w ++ [x]) (hw.app (fun y hy => by rw [List.mem_singleton.1 hy]; exact hx)) (by rw [List.length_append, hl]; rfl)
      rw [List.append_assoc] at this
      exact this
    have h1 : ∀ x ∈ List.range m, evS f n v (x :: u) ≤ 0 := fun x hxm => evS_le hm hE v l (x :: u) (hx x (List.mem_range.1 hxm))
    have h2 := sumL_all_zero h1 (by rw [evS_cons hE, h0, Int.mul_zero])
    intro w hw hl
    rcases List.eq_nil_or_concat w with rfl | ⟨w', x, rfl⟩
    · cases hl
    · have hxm : x < m := hw x (by simp)
      have hl' : w'.length = l := by simpa using hl
      have := evS_zero v l (x :: u) (hx x hxm) (h2 x (List.mem_range.2 hxm)) w' (fun y hy => hw y (by simp [hy])) hl'
      simpa using this
/-- In an Eulerian automaton: what sums up to nothing, and is changed by some word, is made larger by a word of less than n letters. -/
theorem kari (hf : ∀ s x, s < n → x < m → f s x < n) {v : Nat → Int} (h0 : evS f n v [] = 0) {w : List Nat} (hw : Wd m w) (h : evS f n v w ≠ 0) : ∃ z, Wd m z ∧ z.length + 1 ≤ n ∧ 0 < evS f n v z := by
  obtain ⟨u, hu, hl, h1⟩ := evS_short hf w.length w (Nat.le_refl _) hw h
  apply Classical.byContradiction
  intro hn
  have := evS_zero hm hE v u.length [] (fun z hz hzl => by
    rw [List.append_nil]
    apply Classical.byContradiction
    intro h2
    exact hn ⟨z, hz, by omega, by omega⟩) h0 u hu rfl
  rw [List.append_nil] at this
  exact h1 this
end
end Go.Proofs.Ytcpmmkennnjalaa.Q
end
