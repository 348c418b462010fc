/- One word for all mazes: the word that is found for some numbers of rooms and doors visits all rooms of whatever connected maze with at most this number of rooms, also with doors before it and after it; it is proved for every input, without conditions. (text 28 of 31) -/
import Derived.Test.YtgbjbgdnldklpaaZTopMazei
import Derived.Laws.IdiomArrays
import Derived.Deep.Strs
/-! Part XOpenT -/
section
namespace Go.Proofs.Ytgbjbgdnldklpaa.Q
open Go.RowKit Go.Proofs.YtgbjbgdnldklpaaW.PrintWords Go.Proofs.YtgbjbgdnldklpaaW.PrintLast Go.Proofs.YtgbjbgdnldklpaaW.PrintMore
open Go.ChangeShapes Go.WideShapes
set_option linter.unusedVariables false
set_option linter.unusedSimpArgs false
section
variable {H : Type} {enc : TypeId × Value → H} {P : Program} {w : World} {held : Bool}
theorem open_arr3 {t : TypeId} {v : Value} {r : Reach} {b0 : Nat} {d : DataW H} {ps : List MemPlace} (ht : P.underlying t = some (.array 3 3)) (hC : P.cellsOf t = 3) (hq : P.underlying 3 = some (.int .i64)) (cq : P.cellsOf 3 = 1)
  (hv : Value.okWide P w r b0 t v) (h : DataW.Trod enc P w 0 (fun _ => true) held t v d ps) :
  ∃ a b c : Int, v = .agg #[.int .i64 a, .int .i64 b, .int .i64 c] ∧ (-9223372036854775808 ≤ a ∧ a ≤ 9223372036854775807) ∧ (-9223372036854775808 ≤ b ∧ b ≤ 9223372036854775807) ∧ (-9223372036854775808 ≤ c ∧ c ≤ 9223372036854775807) := by
 simp only [Value.okWide, ht] at hv
 obtain ⟨cs, rfl, hsz, _⟩ := hv
 obtain ⟨fuel, hf⟩ := h
 obtain ⟨l⟩ := cs
 match l, hsz.trans hC with
 | [c0, c1, c2], _ =>
  simp only [Value.cells] at hf
  obtain ⟨y0, y1, y2, n, _, h0, h1, h2⟩ := trod_array3 ht cq hf
  obtain ⟨z0, e0, _, w0⟩ := DataW.trod_int hq h0
  obtain ⟨z1, e1, _, w1⟩ := DataW.trod_int hq h1
  obtain ⟨z2, e2, _, w2⟩ := DataW.trod_int hq h2
  simp at e0 e1 e2
  subst e0; subst e1; subst e2
  exact ⟨z0, z1, z2, rfl, int_wf w0, int_wf w1, int_wf w2⟩
theorem open_intsL {t e : TypeId} {fuel : Nat} {cs : List Value} {x : DataW H × List MemPlace} (ht : P.underlying t = some (.slice e)) (he : P.underlying e = some (.int .i64)) (hc : P.cellsOf e = 1)
  (h : DataW.trod enc P w 0 (fun _ => true) held fuel t cs = some x) : ∃ (A : Option Addr) (c : Nat) (l : List Int), cs = [.slice A l.length c] ∧ l.length ≤ c ∧ Kd.C (Kd.int .i64) w A l.length l ∧ IntsOk l := by
 rcases open_ints ht he hc h with ⟨hcs, _⟩ | ⟨x, l, cc, zs, hcs, _, hl, hm, hz, _, hcell, hwz⟩
 ·exact ⟨none, 0, [], hcs, Nat.le_refl _, Kd.C_nil _ _, by simp [IntsOk], by simp⟩
 ·simp only [if_true] at hz
  unfold maxLen at hm
  have hl2 : (zs.take l).length = l := by rw [List.length_take]; omega
  exact ⟨some x, cc, zs.take l, by rw [hl2]; exact hcs, by omega, cints (by omega) (by omega) (fun i hi => hcell i (by omega)), by omega, fun z hz => int_wf (hwz z (List.mem_of_mem_take hz))⟩
theorem open_walk3 {t tr : TypeId} {g0 g1 g2 : Field} {v : Value} {r : Reach} {b0 : Nat} {d : DataW H} {ps : List MemPlace} (hs : P.underlying t = some (.struct #[g0, g1, g2])) (hC : P.cellsOf t = 3) (t0 : g0.type = 3) (t1 : g1.type = tr) (t2 : g2.type = tr) (o0 : g0.offset = 0) (o1 : g1.offset = 1) (o2 : g2.offset = 2)
  (hq : P.underlying 3 = some (.int .i64)) (cq : P.cellsOf 3 = 1) (ht : P.underlying tr = some (.slice 3)) (ctr : P.cellsOf tr = 1) (hv : Value.okWide P w r b0 t v) (h : DataW.Trod enc P w 0 (fun _ => true) held t v d ps) :
  ∃ (a : Int) (A1 : Option Addr) (c1 : Nat) (l1 : List Int) (A2 : Option Addr) (c2 : Nat) (l2 : List Int), v = .agg #[.int .i64 a, .slice A1 l1.length c1, .slice A2 l2.length c2] ∧ (-9223372036854775808 ≤ a ∧ a ≤ 9223372036854775807) ∧ l1.length ≤ c1 ∧ Kd.C (Kd.int .i64) w A1 l1.length l1 ∧ IntsOk l1 ∧ l2.length ≤ c2 ∧ Kd.C (Kd.int .i64) w A2 l2.length l2 ∧ IntsOk l2 := by
 obtain ⟨cs, rfl, hsz⟩ := okWide_struct hs hv
 obtain ⟨fuel, hf⟩ := h
 obtain ⟨y0, y1, y2, n, _, _, h0, h1, h2⟩ := Go.Deep.trod_struct3 hs hf
 rw [t0, o0, cq] at h0
 rw [t1, o1, ctr] at h1
 rw [t2, o2, ctr] at h2
 obtain ⟨l⟩ := cs
 match l, hsz.trans hC with
 | [c0, c1, c2], _ =>
  simp only [Value.cells, List.drop_zero, List.drop_succ_cons, List.take_succ_cons, List.take_zero] at h0 h1 h2
  obtain ⟨z0, e0, _, w0⟩ := DataW.trod_int hq h0
  obtain ⟨A1, k1, l1, e1, p1, p2, p3⟩ := open_intsL ht hq cq h1
  obtain ⟨A2, k2, l2, e2, q1, q2, q3⟩ := open_intsL ht hq cq h2
  simp at e0 e1 e2
  subst e0; subst e1; subst e2
  exact ⟨z0, A1, k1, l1, A2, k2, l2, rfl, int_wf w0, p1, p2, p3, q1, q2, q3⟩
end
end Go.Proofs.Ytgbjbgdnldklpaa.Q
end
