/- In an Eulerian automaton of at most MaxSmall states that has a reset word, Extend of each set that is neither empty nor contains all states is a word of at most n - 1 letters whose preimage has more states. (text 17 of 44) -/
import Derived.Test.YtcpmmkennnjalaaZEulerKaril
import Derived.Test.YtcpmmkennnjalaaZEulerKarid
section
namespace Go.Proofs.Ytcpmmkennnjalaa.Q
open Go.RowKit Go.Sort Go.Proofs.YtcpmmkennnjalaaW.PrintWords Go.Proofs.YtcpmmkennnjalaaW.PrintLast Go.Proofs.YtcpmmkennnjalaaW.PrintMore
set_option linter.unusedVariables false
theorem putCells_take {α : Type} [Inhabited α] (enc : α → Value) (d : List α) (cur : Array Value) (h : d.length ≤ cur.size) : (putCells enc 0 d.toArray cur).toList.take d.length = encs enc d := by
  refine List.ext_getElem ?_ fun i h1 h2 => ?_
  · simp [putCells, encs]; omega
  · have hi : i < d.length := by simpa [encs] using h2
    simp [putCells, encs, hi]
/-- A row of the call's own, its cells put anew. -/
theorem R_putS {w : World} {base : Nat} {ok : Nat → Prop} {g cap : Nat} {xs ys : List Int} (h : Kd.R (Kd.int .i64) 3 w base ok (.slice (some ⟨g, 0, none⟩) xs.length cap) xs) (n : Nat) (os : Array Obj) {k : Nat} (hk : k ≤ ys.length) (hl : ys.length = xs.length) :
    Kd.R (Kd.int .i64) 3 (grow (putRow (Value.int .i64) (Sort.ahead w n) g 0 ys.toArray) os) base ok (.slice (some ⟨g, 0, none⟩) k cap) (ys.take k) ∧ w.grownBy (grow (putRow (Value.int .i64) (Sort.ahead w n) g 0 ys.toArray) os) (some g) := by
  obtain ⟨h0, inner, ho, hr⟩ := h
  rcases ho.2 with ⟨hn, _⟩ | ⟨g', cap', cur, hv, hb, hh, hnc, hcm, hcs, ht⟩
  · simp at hn
  · have e : g = g' ∧ cap = cap' := by simp at hv; exact hv
    obtain ⟨rfl, rfl⟩ := e
    have hlt : g < w.heap.size := blk_lt hh
    have hcs1 : cur.size = cap := by rw [hcs]; show cap * 1 = cap; omega
    have hsz : (putRow (Value.int .i64) (Sort.ahead w n) g 0 ys.toArray).heap.size = w.heap.size := by simp
    have hg : (putRow (Value.int .i64) (Sort.ahead w n) g 0 ys.toArray).heap[g]? = some (.cells (putCells (Value.int .i64) 0 ys.toArray cur) 3 (0, 0)) := by
      show (w.heap.modify g (onCells (putCells (Value.int .i64) 0 ys.toArray)))[g]? = _
      rw [Array.getElem?_modify, if_pos rfl, hh]; rfl
    have hother : ∀ i, i ≠ g → (putRow (Value.int .i64) (Sort.ahead w n) g 0 ys.toArray).heap[i]? = w.heap[i]? := by
      intro i hi
      show (w.heap.modify g (onCells (putCells (Value.int .i64) 0 ys.toArray)))[i]? = _
      rw [Array.getElem?_modify, if_neg (fun e => hi e.symm)]
    have hlen : (ys.take k).length = k := by rw [List.length_take]; omega
    have htake : (putCells (Value.int .i64) 0 ys.toArray cur).toList.take k = encs (Value.int .i64) (ys.take k) := by
      have h1 := putCells_take (Value.int .i64) ys cur (by omega)
      have h2 := congrArg (List.take k) h1
      rw [List.take_take, Nat.min_eq_left hk] at h2
      rw [h2]; simp [encs, List.map_take]
    refine ⟨⟨h0, encs (Value.int .i64) (ys.take k), ⟨?_, Or.inr ⟨g, cap, putCells (Value.int .i64) 0 ys.toArray cur, ?_, hb, ?_, ?_, hcm, ?_, ?_⟩⟩, Kd.reps_scalar _⟩, ⟨rfl, rfl, rfl, ?_, ?_⟩⟩
    · rw [encs_length]; show _ = _ * 1; omega
    · rw [hlen]
    · rw [heap_grow_old _ _ (by rw [hsz]; exact hlt)]; exact hg
    · rw [hlen]; omega
    · simp only [putCells, Array.size_mapIdx]; exact hcs
    · rw [hlen]; show List.take (k * 1) _ = _; rw [Nat.mul_one]; exact htake
    · rw [size_grow, hsz]; omega
    · intro i hi hne
      rw [heap_grow_old _ _ (by rw [hsz]; exact hi)]
      exact hother i (fun e => hne (by rw [e]))
theorem R_holds {w : World} {base : Nat} {ok : Nat → Prop} {g cap : Nat} {xs : List Int} (h : Kd.R (Kd.int .i64) 3 w base ok (.slice (some ⟨g, 0, none⟩) xs.length cap) xs) : Holds (Value.int .i64) w g 0 xs.toArray := by
  intro j hj
  have hj' : j < xs.length := by simpa using hj
  have h1 := Kd.R_celln (0 : Int) h (j : Int) (by omega) (by omega)
  rw [Int.toNat_natCast] at h1
  rw [Nat.zero_add]
  refine ⟨h1.1.trans ?_, h1.2⟩
  congr 2
  show xs.getD j 0 = xs.toArray[j]!
  simp [hj']
theorem R_parts {w : World} {base : Nat} {ok : Nat → Prop} {v : Value} {xs : List Int} (h : Kd.R (Kd.int .i64) 3 w base ok v xs) : (v = .slice none 0 0 ∧ xs = []) ∨ ∃ g cap, v = .slice (some ⟨g, 0, none⟩) xs.length cap ∧ g < w.heap.size ∧ xs.length ≤ cap ∧ cap ≤ maxLen := by
  obtain ⟨h0, inner, ho, hr⟩ := h
  rcases ho.2 with ⟨hn, hz⟩ | ⟨g, cap, cur, hv, hb, hh, hnc, hcm, hcs, ht⟩
  · exact Or.inl ⟨hn, List.eq_nil_of_length_eq_zero hz⟩
  · exact Or.inr ⟨g, cap, hv, blk_lt hh, hnc, hcm⟩
/-- slices.Sort of a row of the call's own. -/
theorem sort_R {w : World} {base : Nat} {ok : Nat → Prop} {v : Value} {xs : List Int} (h : Kd.R (Kd.int .i64) 3 w base ok v xs) (hs : xs.length < 4611686018427387904) :
    Calls Try.prog 54 #[v] w fun e w' => e = .returned (.tuple #[]) ∧ Kd.R (Kd.int .i64) 3 w' base ok v (xs.mergeSort fun x y => decide (x ≤ y)) ∧ w.grownBy w' v.ownBlock := by
  rcases R_parts h with ⟨rfl, rfl⟩ | ⟨g, cap, rfl, hlt, hc, hm⟩
  · refine (Try.slices_Sort_int_none none 0 w).mono ?_
    rintro e w' ⟨rfl, rfl⟩
    exact ⟨rfl, by simpa using h, grown_of_below (Below.refl _ _) _⟩
  · refine (Try.slices_Sort_int g 0 cap xs w (R_holds h) hlt hs).mono ?_
    rintro e w' ⟨rfl, n, os, rfl⟩
    have hl : (xs.mergeSort fun x y => decide (x ≤ y)).length = xs.length := List.length_mergeSort _
    have := R_putS h n os (k := xs.length) (ys := xs.mergeSort fun x y => decide (x ≤ y)) (by omega) hl
    rw [List.take_of_length_le (by omega)] at this
    exact ⟨rfl, this.1, this.2⟩
/-- slices.Compact of a row of the call's own. -/
theorem compact_R {w : World} {base : Nat} {ok : Nat → Prop} {v : Value} {xs : List Int} (h : Kd.R (Kd.int .i64) 3 w base ok v xs) (hl : (Lib.compact xs).length ≤ xs.length) :
    Calls Try.prog 55 #[v] w fun e w' => ∃ v', e = .returned v' ∧ v'.ownBlock = v.ownBlock ∧ Kd.R (Kd.int .i64) 3 w' base ok v' (Lib.compact xs) ∧ w.grownBy w' v.ownBlock := by
  rcases R_parts h with ⟨rfl, rfl⟩ | ⟨g, cap, rfl, hlt, hc, hm⟩
  · refine (Try.slices_Compact_int_empty none 0 w).mono ?_
    rintro e w' ⟨rfl, rfl⟩
    exact ⟨_, rfl, rfl, by simpa [Lib.compact, Lib.compactUpTo] using h, grown_of_below (Below.refl _ _) _⟩
  · refine (Try.slices_Compact_int g 0 cap xs w (R_holds h) (by unfold maxLen at hm; omega) hc).mono ?_
    rintro e w' ⟨rfl, n, rfl⟩
    have hl2 : (Lib.compact xs ++ List.replicate (xs.length - (Lib.compact xs).length) 0).length = xs.length := by rw [List.length_append, List.length_replicate]; omega
    have := R_putS h n #[] (k := (Lib.compact xs).length) (ys := Lib.compact xs ++ List.replicate (xs.length - (Lib.compact xs).length) 0) (by omega) hl2
    rw [List.take_left, grow_empty] at this
    exact ⟨_, rfl, rfl, this.1, this.2⟩
end Go.Proofs.Ytcpmmkennnjalaa.Q
end
section
namespace Go.Proofs.Ytcpmmkennnjalaa.Q
open Go.RowKit Go.Sort Go.Proofs.YtcpmmkennnjalaaW.PrintWords Go.Proofs.YtcpmmkennnjalaaW.PrintLast Go.Proofs.YtcpmmkennnjalaaW.PrintMore
set_option linter.unusedVariables false
end Go.Proofs.Ytcpmmkennnjalaa.Q
end
section
namespace Go.Proofs.Ytcpmmkennnjalaa.Q
open Go.RowKit Go.Proofs.YtcpmmkennnjalaaW.PrintWords Go.Proofs.YtcpmmkennnjalaaW.PrintLast Go.Proofs.YtcpmmkennnjalaaW.PrintMore
set_option linter.unusedVariables false
set_option linter.unusedSimpArgs false
/-! ### the word of a set that was met -/
/-- A list of steps. -/
def kSt : Kd (Int × Int) := Kd.pair (Kd.int .i64) (Kd.int .i64)
end Go.Proofs.Ytcpmmkennnjalaa.Q
end
