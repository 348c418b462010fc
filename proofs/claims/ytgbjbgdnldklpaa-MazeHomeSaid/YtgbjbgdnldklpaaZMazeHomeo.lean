/- Whatever connected maze of the size there is, and wherever one begins, what Universal returns visits all of its rooms, also with letters before it and behind it; it is proved for every input, without conditions. (text 15 of 30) -/
import Derived.Test.YtgbjbgdnldklpaaZMazeHomen
import Derived.Deep.SlicePairs
/-! Part XOpenM -/
section
namespace Go.Proofs.Ytgbjbgdnldklpaa.Q
open Go.RowKit Go.Proofs.YtgbjbgdnldklpaaW.PrintWords Go.Proofs.YtgbjbgdnldklpaaW.PrintLast Go.Proofs.YtgbjbgdnldklpaaW.PrintMore
open Go.ChangeShapes Go.WideShapes
set_option linter.unusedVariables false
set_option linter.unusedSimpArgs false
def DoorsOk (l : List S44) : Prop := l.length ≤ 9223372036854775807 ∧ ∀ b ∈ l, (-9223372036854775808 ≤ b.f0 ∧ b.f0 ≤ 9223372036854775807) ∧ (-9223372036854775808 ≤ b.f1 ∧ b.f1 ≤ 9223372036854775807)
def MazeOk (l : List (List S44)) : Prop := l.length ≤ 9223372036854775807 ∧ ∀ row ∈ l, DoorsOk row
section
variable {H : Type} {enc : TypeId × Value → H} {P : Program} {w : World} {held : Bool}
theorem open_doorsC {t e : TypeId} {f0 f1 : Field} {fuel : Nat} {cs : List Value} {x : DataW H × List MemPlace} (ht : P.underlying t = some (.slice e)) (he : P.underlying e = some (.struct #[f0, f1])) (ce : P.cellsOf e = 2) (o0 : f0.offset = 0) (o1 : f1.offset = 1) (c0 : P.cellsOf f0.type = 1) (c1 : P.cellsOf f1.type = 1)
  (i0 : P.underlying f0.type = some (.int .i64)) (i1 : P.underlying f1.type = some (.int .i64)) (h : DataW.trod enc P w 0 (fun _ => true) held fuel t cs = some x) :
  ∃ (a : Option Addr) (c : Nat) (l : List S44), cs = [.slice a l.length c] ∧ l.length ≤ c ∧ Kd.C k44 w a l.length l ∧ DoorsOk l := by
 rcases Go.Deep.open_slice_pairs ht he ce o0 o1 c0 c1 h with ⟨rfl, _⟩ | ⟨a, len, cap, m, n, V0, V1, D0, D1, P0, P1, rfl, _, hl, hm, hmm, _, hx⟩
 ·exact ⟨none, 0, [], rfl, Nat.le_refl _, Kd.C_nil _ _, by simp, by simp⟩
 simp only [if_true] at hmm
 subst hmm
 unfold maxLen at hm
 have each : ∀ i, i < m → ∃ z : Int × Int, V0 i = .int .i64 z.1 ∧ V1 i = .int .i64 z.2 ∧ (-9223372036854775808 ≤ z.1 ∧ z.1 ≤ 9223372036854775807) ∧ (-9223372036854775808 ≤ z.2 ∧ z.2 ≤ 9223372036854775807) := by
  intro i hi
  obtain ⟨_, _, h0, h1⟩ := hx i hi
  obtain ⟨z0, e0, _, w0⟩ := DataW.trod_int i0 h0
  obtain ⟨z1, e1, _, w1⟩ := DataW.trod_int i1 h1
  exact ⟨(z0, z1), by simpa using e0, by simpa using e1, int_wf w0, int_wf w1⟩
 obtain ⟨z, hz⟩ := Go.Deep.choose_lt each
 have hlen : ((List.range len).map fun i => (⟨(z i).1, (z i).2⟩ : S44)).length = len := by simp
 refine ⟨some a, m, (List.range len).map fun i => ⟨(z i).1, (z i).2⟩, by rw [hlen], by omega, ⟨rfl, by omega, fun _ => ⟨a, rfl, fun j p hj => ?_⟩⟩, by omega, ?_⟩
 ·have hj' : j < len := by have := (List.getElem?_eq_some_iff.1 hj).1; omega
  rw [List.getElem?_map, List.getElem?_range hj'] at hj
  simp only [Option.map_some, Option.some.injEq] at hj
  subst hj
  obtain ⟨x0, x1, _, _⟩ := hx j (by omega)
  obtain ⟨e0, e1, _, _⟩ := hz j (by omega)
  refine ⟨[.int .i64 (z j).1, .int .i64 (z j).2], rfl, k44_mk w ⟨(z j).1, (z j).2⟩, fun i u hu => ?_⟩
  have hsz : k44.sz = 2 := rfl
  match i, hu with
  | 0, hu =>
   simp only [List.getElem?_cons_zero, Option.some.injEq] at hu
   subst hu
   rw [hsz, Nat.add_zero, x0, e0]
  | 1, hu =>
   simp only [List.getElem?_cons_succ, List.getElem?_cons_zero, Option.some.injEq] at hu
   subst hu
   rw [hsz, x1, e1]
  | i + 2, hu => simp at hu
 ·intro b hb
  obtain ⟨i, hi, rfl⟩ := List.mem_map.1 hb
  have hi' : i < len := by simpa using hi
  exact (hz i (by omega)).2.2
theorem open_mazeC {t tr e q : TypeId} {g0 f0 f1 : Field} {v : Value} {r : Reach} {b0 : Nat} {d : DataW H} {ps : List MemPlace} (hs : P.underlying t = some (.struct #[g0])) (hf0 : g0.type = tr) (ho : g0.offset = 0) (hC : P.cellsOf t = 1) (hC0 : P.cellsOf tr = 1) (ht : P.underlying tr = some (.slice e)) (he : P.underlying e = some (.slice q)) (ce : P.cellsOf e = 1)
  (hq : P.underlying q = some (.struct #[f0, f1])) (cq : P.cellsOf q = 2) (o0 : f0.offset = 0) (o1 : f1.offset = 1) (c0 : P.cellsOf f0.type = 1) (c1 : P.cellsOf f1.type = 1) (i0 : P.underlying f0.type = some (.int .i64)) (i1 : P.underlying f1.type = some (.int .i64)) (h3 : q = 44)
  (hv : Value.okWide P w r b0 t v) (h : DataW.Trod enc P w 0 (fun _ => true) held t v d ps) :
  ∃ (a : Option Addr) (c : Nat) (rows : List (List S44)), v = .agg #[.slice a rows.length c] ∧ rows.length ≤ c ∧ Kd.C (Kd.slice 44 k44) w a rows.length rows ∧ MazeOk rows := by
 subst h3
 obtain ⟨cs, rfl, hsz⟩ := okWide_struct hs hv
 obtain ⟨fuel, hf⟩ := h
 obtain ⟨y0, n, _, _, h0⟩ := trod_struct1 hs hf
 subst hf0
 rw [ho, hC0] at h0
 obtain ⟨l⟩ := cs
 match l, hsz.trans hC with
 | [cc], _ =>
  simp only [Value.cells, List.drop_zero] at h0
  rcases Go.Deep.open_slice1 ht ce h0 with ⟨hcs, _⟩ | ⟨a, len, cap, m, n2, V, D, Pl, hcs, _, hl, hm, hmm, _, hx⟩
  ·simp at hcs
   subst hcs
   exact ⟨none, 0, [], rfl, Nat.le_refl _, Kd.C_nil _ _, by simp, by simp⟩
  ·simp at hcs
   subst hcs
   simp only [if_true] at hmm
   subst hmm
   unfold maxLen at hm
   have each : ∀ i, i < m → ∃ y : Option Addr × Nat × List S44, V i = .slice y.1 y.2.2.length y.2.1 ∧ y.2.2.length ≤ y.2.1 ∧ Kd.C k44 w y.1 y.2.2.length y.2.2 ∧ DoorsOk y.2.2 := by
    intro i hi
    obtain ⟨a', c', l', e1, e2, e3, e4⟩ := open_doorsC he hq cq o0 o1 c0 c1 i0 i1 (hx i hi).2
    exact ⟨(a', c', l'), by simpa using e1, e2, e3, e4⟩
   obtain ⟨y, hy⟩ := Go.Deep.choose_lt each
   have hlen : ((List.range len).map fun i => (y i).2.2).length = len := by simp
   refine ⟨some a, m, (List.range len).map fun i => (y i).2.2, by rw [hlen], by omega, ⟨rfl, by omega, fun _ => ⟨a, rfl, fun j p hj => ?_⟩⟩, by omega, ?_⟩
   ·have hj' : j < len := by have := (List.getElem?_eq_some_iff.1 hj).1; omega
    rw [List.getElem?_map, List.getElem?_range hj'] at hj
    simp only [Option.map_some, Option.some.injEq] at hj
    subst hj
    obtain ⟨e1, e2, e3, _⟩ := hy j (by omega)
    refine ⟨[.slice (y j).1 (y j).2.2.length (y j).2.1], rfl, ⟨(y j).1, (y j).2.1, rfl, e2, e3⟩, fun i u hu => ?_⟩
    cases i with
    | zero =>
     simp only [List.getElem?_cons_zero, Option.some.injEq] at hu
     subst hu
     have := (hx j (by omega)).1
     rw [e1] at this
     simpa [Kd.slice] using this
    | succ i => simp at hu
   ·intro row hrow
    obtain ⟨i, hi, rfl⟩ := List.mem_map.1 hrow
    have hi' : i < len := by simpa using hi
    exact (hy i (by omega)).2.2.2
end
end Go.Proofs.Ytgbjbgdnldklpaa.Q
end
