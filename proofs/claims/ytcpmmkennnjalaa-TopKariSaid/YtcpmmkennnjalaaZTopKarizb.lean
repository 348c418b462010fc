/- In any Eulerian automaton that has a reset word, whatever set of states, neither empty nor all, is led into by more states with a word of at most n - 1 letters, and its shortest reset word has at most n^2 - 3n + 3 letters; in any circular one at most (n - 1)^2. (At most 9 states) (text 28 of 42) -/
import Derived.Test.YtcpmmkennnjalaaZTopKarij
import Derived.Test.YtcpmmkennnjalaaZTopKariza
section
namespace Go.Proofs.Ytcpmmkennnjalaa.Q
open Go.RowKit Go.Sort Go.Proofs.YtcpmmkennnjalaaW.PrintWords Go.Proofs.YtcpmmkennnjalaaW.PrintLast Go.Proofs.YtcpmmkennnjalaaW.PrintMore
set_option linter.unusedVariables false
theorem putCells_take {α : Type} [Inhabited α] (enc : α → Value) (d : List α) (cur : Array Value) (h : d.length ≤ cur.size) : (putCells enc 0 d.toArray cur).toList.take d.length = encs enc d := by
  refine List.ext_getElem ?_ fun i h1 h2 => ?_
  · simp [putCells, encs]; omega
  · have hi : i < d.length := by simpa [encs] using h2
    simp [putCells, encs, hi]
/-- A row of the call's own, its cells put anew. -/
theorem R_putS {w : World} {base : Nat} {ok : Nat → Prop} {g cap : Nat} {xs ys : List Int} (h : Kd.R (Kd.int .i64) 3 w base ok (.slice (some ⟨g, 0, none⟩) xs.length cap) xs) (n : Nat) (os : Array Obj) {k : Nat} (hk : k ≤ ys.length) (hl : ys.length = xs.length) :
    Kd.R (Kd.int .i64) 3 (grow (putRow (Value.int .i64) (Sort.ahead w n) g 0 ys.toArray) os) base ok (.slice (some ⟨g, 0, none⟩) k cap) (ys.take k) ∧ w.grownBy (grow (putRow (Value.int .i64) (Sort.ahead w n) g 0 ys.toArray) os) (some g) := by
  obtain ⟨h0, inner, ho, hr⟩ := h
  rcases ho.2 with ⟨hn, _⟩ | ⟨g', cap', cur, hv, hb, hh, hnc, hcm, hcs, ht⟩
  · simp at hn
  · have e : g = g' ∧ cap = cap' := by simp at hv; exact hv
    obtain ⟨rfl, rfl⟩ := e
    have hlt : g < w.heap.size := blk_lt hh
    have hcs1 : cur.size = cap := by rw [hcs]; show cap * 1 = cap; omega
    have hsz : (putRow (Value.int .i64) (Sort.ahead w n) g 0 ys.toArray).heap.size = w.heap.size := by simp
    have hg : (putRow (Value.int .i64) (Sort.ahead w n) g 0 ys.toArray).heap[g]? = some (.cells (putCells (Value.int .i64) 0 ys.toArray cur) 3 (0, 0)) := by
      show (w.heap.modify g (onCells (putCells (Value.int .i64) 0 ys.toArray)))[g]? = _
      rw [Array.getElem?_modify, if_pos rfl, hh]; rfl
    have hother : ∀ i, i ≠ g → (putRow (Value.int .i64) (Sort.ahead w n) g 0 ys.toArray).heap[i]? = w.heap[i]? := by
      intro i hi
      show (w.heap.modify g (onCells (putCells (Value.int .i64) 0 ys.toArray)))[i]? = _
      rw [Array.getElem?_modify, if_neg (fun e => hi e.symm)]
    have hlen : (ys.take k).length = k := by rw [List.length_take]; omega
    have htake : (putCells (Value.int .i64) 0 ys.toArray cur).toList.take k = encs (Value.int .i64) (ys.take k) := by
      have h1 := putCells_take (Value.int .i64) ys cur (by omega)
      have h2 := congrArg (List.take k) h1
      rw [List.take_take, Nat.min_eq_left hk] at h2
      rw [h2]; simp [encs, List.map_take]
    refine ⟨⟨h0, encs (Value.int .i64) (ys.take k), ⟨?_, Or.inr ⟨g, cap, putCells (Value.int .i64) 0 ys.toArray cur, ?_, hb, ?_, ?_, hcm, ?_, ?_⟩⟩, Kd.reps_scalar _⟩, ⟨rfl, rfl, rfl, ?_, ?_⟩⟩
    · rw [encs_length]; show _ = _ * 1; omega
    · rw [hlen]
    · rw [heap_grow_old _ _ (by rw [hsz]; exact hlt)]; exact hg
    · rw [hlen]; omega
    · simp only [putCells, Array.size_mapIdx]; exact hcs
    · rw [hlen]; show List.take (k * 1) _ = _; rw [Nat.mul_one]; exact htake
    · rw [size_grow, hsz]; omega
    · intro i hi hne
      rw [heap_grow_old _ _ (by rw [hsz]; exact hi)]
      exact hother i (fun e => hne (by rw [e]))
theorem R_holds {w : World} {base : Nat} {ok : Nat → Prop} {g cap : Nat} {xs : List Int} (h : Kd.R (Kd.int .i64) 3 w base ok (.slice (some ⟨g, 0, none⟩) xs.length cap) xs) : Holds (Value.int .i64) w g 0 xs.toArray := by
  intro j hj
  have hj' : j < xs.length := by simpa using hj
  have h1 := Kd.R_celln (0 : Int) h (j : Int) (by omega) (by omega)
  rw [Int.toNat_natCast] at h1
  rw [Nat.zero_add]
  refine ⟨h1.1.trans ?_, h1.2⟩
  congr 2
  show xs.getD j 0 = xs.toArray[j]!
  simp [hj']
theorem R_parts {w : World} {base : Nat} {ok : Nat → Prop} {v : Value} {xs : List Int} (h : Kd.R (Kd.int .i64) 3 w base ok v xs) : (v = .slice none 0 0 ∧ xs = []) ∨ ∃ g cap, v = .slice (some ⟨g, 0, none⟩) xs.length cap ∧ g < w.heap.size ∧ xs.length ≤ cap ∧ cap ≤ maxLen := by
  obtain ⟨h0, inner, ho, hr⟩ := h
  rcases ho.2 with ⟨hn, hz⟩ | ⟨g, cap, cur, hv, hb, hh, hnc, hcm, hcs, ht⟩
  · exact Or.inl ⟨hn, List.eq_nil_of_length_eq_zero hz⟩
  · exact Or.inr ⟨g, cap, hv, blk_lt hh, hnc, hcm⟩
/-- slices.Sort of a row of the call's own. -/
theorem sort_R {w : World} {base : Nat} {ok : Nat → Prop} {v : Value} {xs : List Int} (h : Kd.R (Kd.int .i64) 3 w base ok v xs) (hs : xs.length < 4611686018427387904) :
    Calls Try.prog 54 #[v] w fun e w' => e = .returned (.tuple #[]) ∧ Kd.R (Kd.int .i64) 3 w' base ok v (xs.mergeSort fun x y => decide (x ≤ y)) ∧ w.grownBy w' v.ownBlock := by
  rcases R_parts h with ⟨rfl, rfl⟩ | ⟨g, cap, rfl, hlt, hc, hm⟩
  · refine (Try.slices_Sort_int_none none 0 w).mono ?_
    rintro e w' ⟨rfl, rfl⟩
    exact ⟨rfl, by simpa using h, grown_of_below (Below.refl _ _) _⟩
  · refine (Try.slices_Sort_int g 0 cap xs w (R_holds h) hlt hs).mono ?_
    rintro e w' ⟨rfl, n, os, rfl⟩
    have hl : (xs.mergeSort fun x y => decide (x ≤ y)).length = xs.length := List.length_mergeSort _
    have := R_putS h n os (k := xs.length) (ys := xs.mergeSort fun x y => decide (x ≤ y)) (by omega) hl
    rw [List.take_of_length_le (by omega)] at this
    exact ⟨rfl, this.1, this.2⟩
/-- slices.Compact of a row of the call's own. -/
theorem compact_R {w : World} {base : Nat} {ok : Nat → Prop} {v : Value} {xs : List Int} (h : Kd.R (Kd.int .i64) 3 w base ok v xs) (hl : (Lib.compact xs).length ≤ xs.length) :
    Calls Try.prog 55 #[v] w fun e w' => ∃ v', e = .returned v' ∧ v'.ownBlock = v.ownBlock ∧ Kd.R (Kd.int .i64) 3 w' base ok v' (Lib.compact xs) ∧ w.grownBy w' v.ownBlock := by
  rcases R_parts h with ⟨rfl, rfl⟩ | ⟨g, cap, rfl, hlt, hc, hm⟩
  · refine (Try.slices_Compact_int_empty none 0 w).mono ?_
    rintro e w' ⟨rfl, rfl⟩
    exact ⟨_, rfl, rfl, by simpa [Lib.compact, Lib.compactUpTo] using h, grown_of_below (Below.refl _ _) _⟩
  · refine (Try.slices_Compact_int g 0 cap xs w (R_holds h) (by unfold maxLen at hm; omega) hc).mono ?_
    rintro e w' ⟨rfl, n, rfl⟩
    have hl2 : (Lib.compact xs ++ List.replicate (xs.length - (Lib.compact xs).length) 0).length = xs.length := by rw [List.length_append, List.length_replicate]; omega
    have := R_putS h n #[] (k := (Lib.compact xs).length) (ys := Lib.compact xs ++ List.replicate (xs.length - (Lib.compact xs).length) 0) (by omega) hl2
    rw [List.take_left, grow_empty] at this
    exact ⟨_, rfl, rfl, this.1, this.2⟩
end Go.Proofs.Ytcpmmkennnjalaa.Q
end
section
namespace Go.Proofs.Ytcpmmkennnjalaa.Q
open Go.RowKit Go.Sort Go.Proofs.YtcpmmkennnjalaaW.PrintWords Go.Proofs.YtcpmmkennnjalaaW.PrintLast Go.Proofs.YtcpmmkennnjalaaW.PrintMore
set_option linter.unusedVariables false
/-- slices.Reverse of a row of the call's own. -/
theorem reverse_R {w : World} {base : Nat} {ok : Nat → Prop} {v : Value} {xs : List Int} (h : Kd.R (Kd.int .i64) 3 w base ok v xs) :
    Calls Try.prog 84 #[v] w fun e w' => e = .returned (.tuple #[]) ∧ Kd.R (Kd.int .i64) 3 w' base ok v xs.reverse ∧ w.grownBy w' v.ownBlock := by
  rcases R_parts h with ⟨rfl, rfl⟩ | ⟨g, cap, rfl, hlt, hc, hm⟩
  · refine (Try.slices_Reverse_int_empty none 0 w).mono ?_
    rintro e w' ⟨rfl, rfl⟩
    exact ⟨rfl, by simpa using h, grown_of_below (Below.refl _ _) _⟩
  · refine (Try.slices_Reverse_int g 0 cap xs w (R_holds h) (by unfold maxLen at hm; omega)).mono ?_
    rintro e w' ⟨rfl, n, rfl⟩
    have := R_putS h n #[] (k := xs.length) (ys := xs.reverse) (by simp) (by simp)
    rw [List.take_of_length_le (by simp), grow_empty] at this
    exact ⟨rfl, this.1, this.2⟩
end Go.Proofs.Ytcpmmkennnjalaa.Q
end
section
namespace Go.Proofs.Ytcpmmkennnjalaa.Q
open Go.RowKit Go.Proofs.YtcpmmkennnjalaaW.PrintWords Go.Proofs.YtcpmmkennnjalaaW.PrintLast Go.Proofs.YtcpmmkennnjalaaW.PrintMore
set_option linter.unusedVariables false
set_option linter.unusedSimpArgs false
/-! ### the word of a set that was met -/
/-- A list of steps. -/
def kSt : Kd (Int × Int) := Kd.pair (Kd.int .i64) (Kd.int .i64)
def rdSt (l : List (Int × Int)) (i : Int) : Int × Int := l.getD i.toNat (0, 0)
def short_word.l0 : Nat → List (Int × Int) → Int → List Int → Option (List Int)
  | 0, _, _, _ => none
  | k + 1, steps, i, out => if 0 ≤ i then (if i < (steps.length : Int) then (if (rdSt steps i).1 ≥ 0 then (if out.length < 17592186044416 then short_word.l0 k steps (rdSt steps i).1 (out ++ [(rdSt steps i).2]) else none) else some out.reverse) else none) else none
def short_word.f (k : Nat) (steps : List (Int × Int)) (i : Int) : Option (List Int) := short_word.l0 k steps i []
theorem St_at {W : World} {e base : Nat} {ok : Nat → Prop} {v : Value} {l : List (Int × Int)} (h : Kd.R kSt e W base ok v l) (i : Int) (h0 : 0 ≤ i) (h1 : i < (l.length : Int)) :
    ∃ ad c, v = .slice (some ad) l.length c ∧ W.cell? (ad.add (i.toNat * 2)) = some (.int .i64 (rdSt l i).1) ∧ W.cell? ⟨(ad.add (i.toNat * 2)).block, (ad.add (i.toNat * 2)).off + 1, none⟩ = some (.int .i64 (rdSt l i).2) := by
  obtain ⟨A, c, e, _, hC⟩ := Kd.R_reads h
  obtain ⟨ad, cs, e2, _, hK, hc0⟩ := Kd.C_get hC (0, 0) i h0 h1
  subst e2
  have hc : ∀ j u, cs[j]? = some u → W.cell? (ad.add (i.toNat * 2 + j)) = some u := hc0
  obtain ⟨a0, a1, rfl, k0, k1⟩ := hK
  have e0 : a0 = [.int .i64 (rdSt l i).1] := k0
  have e1 : a1 = [.int .i64 (rdSt l i).2] := k1
  subst e0; subst e1
  exact ⟨ad, c, e, hc 0 _ rfl, by rw [← add_field _ _ 1 (by omega)]; exact hc 1 _ rfl⟩
set_option maxHeartbeats 4000000 in
set_option maxRecDepth 100000 in
theorem short_word.calls (k : Nat) (steps : List (Int × Int)) (i : Int) (r : List Int) (X base : Nat) (ok : Nat → Prop) (v : Value) (w : World) (hX : w.heap[X]? = some (.cells #[v] 110 (0, 0))) (hS : Kd.R kSt 109 w base ok v steps) (h : short_word.f k steps i = some r) :
    Calls Try.prog 83 #[.int .i64 i, .pointer (some ⟨X, 0, none⟩)] w fun e w' => ∃ v0_ : Value, e = .returned v0_ ∧ Kd.R (Kd.int .i64) 3 w' w.heap.size (fun _ => True) v0_ r ∧ Below w.heap.size w w' := by
  have HX := Aside0.mk hX
  have HS := Aside0.mk hS
  have H' : Aside0 (short_word.l0 k steps i [] = some r) := ⟨h⟩
  have HB0 := Aside0.mk (Below.refl w.heap.size w)
  clear h hX hS
  go_enter Try.func83, Try.ntmps83
  go_wp2_with fail
  go_loopg [0, 4] k (fun kq v0 v4 w' => ∃ (j : Int) (out : List Int), v0 = .int .i64 j ∧ Aside0 (short_word.l0 kq steps j out = some r) ∧ Aside0 (kq ≤ k) ∧ Aside0 (Kd.R (Kd.int .i64) 3 w' w.heap.size (fun _ => True) v4 out) ∧ Aside0 (Below w.heap.size w w'))
  case atStart => exact ⟨i, [], rfl, H', ⟨Nat.le_refl _⟩, ⟨Kd.R_nil _ _ _ _ _⟩, HB0⟩
  case round =>
    clear H' HB0
    obtain ⟨j, out, rfl, HA, HK, HO, HB⟩ := hrel
    cases gk with
    | zero => exact absurd HA.out (by simp [short_word.l0])
    | succ k1 =>
      have H := HA.out
      clear HA
      simp only [short_word.l0] at H
      by_cases d1 : 0 ≤ j
      · rw [if_pos d1] at H
        by_cases d2 : j < (steps.length : Int)
        · rw [if_pos d2] at H
          obtain ⟨ad, c, e5, hy0, hy1⟩ := St_at (Kd.R_below HS.out HB.out) j d1 d2
          have hcX : wr.cell? ⟨X, 0, none⟩ = some v := (blk_cell (blk_below HX.out HB.out) 0).trans rfl
          have q1 := eq_true d1
          have q2 := eq_true d2
          have D1 := Aside0.mk d1
          have D2 := Aside0.mk d2
          have HSW := Aside0.mk (Kd.R_below HS.out HB.out)
          obtain ⟨st, hst⟩ : ∃ st, rdSt steps j = st := ⟨_, rfl⟩
          rw [hst] at H hy0 hy1
          have HST := Aside0.mk hst
          clear hst
          obtain ⟨fr, lt⟩ := st
          simp only at H hy0 hy1
          by_cases d3 : fr ≥ 0
          · rw [if_pos d3] at H
            by_cases d4 : out.length < 17592186044416
            · rw [if_pos d4] at H
              have H' := Aside0.mk H
              have D4 := Aside0.mk d4
              have d3b : decide (0 ≤ fr) = true := decide_eq_true d3
              subst e5
              clear H d1 d2 d3 d4
              go_wp2_with ((with_reducible refine gate_builtin (b := .append) (xs := #[.tmp 16, .tmp 22]) rfl ?_); at_builtin; refine Kd.R_append (Kd.int .i64) (w0 := w) w.heap.size rfl (.tmp 16) (.tmp 22) 34 3 (.int .i64 0) 8 rfl Try.underlying34 info3 rfl (by decide) (by omega) u4 out lt [.int .i64 lt] (fun _ => True) (fun _ => False) rfl rfl ?aP (fun _ hk => hk.elim) ?aF ?aO ?aB ?aS ?aL ?_; (case aP => exact rfl); (case aB => exact HB.out); (case aF => exact (fun _ _ => trivial)); (case aO => exact HO.out); (case aS => exact HB.out.size); (case aL => have := D4.out; omega); intro v8 w8 ho hb hg hat;  have HO8 := Aside0.mk ho; have HB8 := Aside0.mk hb; have hcX8 : w8.cell? ⟨X, 0, none⟩ = some (.slice (some ad) steps.length c) := (blk_cell (blk_below HX.out hb) 0).trans rfl;  obtain ⟨ad8, c8, e8, hz0, hz1⟩ := St_at (Kd.R_below HS.out hb) j D1.out D2.out; cases e8; rw [HST.out] at hz0 hz1; simp only at hz0 hz1; clear ho hb hg hat)
              go_roundg k1
              case measure => omega
              case rel => exact ⟨_, _, rfl, H', ⟨by have := HK.out; omega⟩, HO8, HB8⟩
            · rw [if_neg d4] at H; exact absurd H (by simp)
          · rw [if_neg d3] at H
            obtain rfl := Option.some.inj H
            have d3b : decide (0 ≤ fr) = false := decide_eq_false d3
            subst e5
            clear H d1 d2 d3
            go_wp2_with (go_at_call 84; refine (reverse_R HO.out).mono ?_; rintro e w9 ⟨rfl, hO9, hg9⟩; have HO9 := Aside0.mk hO9; have HB9 := Aside0.mk (pw_below_grown HB.out _ HB.out.size hg9 (fun k e => Kd.R_base HO.out k e)); clear hO9 hg9)
            go_ret
            exact ⟨_, rfl, HO9.out, HB9.out⟩
        · rw [if_neg d2] at H; exact absurd H (by simp)
      · rw [if_neg d1] at H; exact absurd H (by simp)
end Go.Proofs.Ytcpmmkennnjalaa.Q
end
