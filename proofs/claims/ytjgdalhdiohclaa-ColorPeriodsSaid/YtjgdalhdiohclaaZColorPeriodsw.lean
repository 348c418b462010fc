/- In any colouring of a strongly connected automaton of period d, any word leads from all states to at least d states; if d is greater than 1 there is no reset word, and Road returns ErrNone. (text 23 of 31) -/
import Derived.Test.YtjgdalhdiohclaaZColorPeriodsu
import Derived.Test.YtjgdalhdiohclaaZColorPeriodsj
open Go.RowKit Go.Proofs.YtjgdalhdiohclaaW.PrintWords Go.Proofs.YtjgdalhdiohclaaW.PrintLast Go.Proofs.YtjgdalhdiohclaaW.PrintMore
/-! Part MImage -/
section
namespace Go.Proofs.Ytjgdalhdiohclaa.Q
set_option linter.unusedVariables false
theorem compactUpTo_mem (d : Array Int) : ∀ m j, j < m → d[j]! ∈ Lib.compactUpTo d m := by
 intro m
 induction m with
 | zero => intro j h; omega
 | succ m ih =>
  intro j h
  rw [Lib.compactUpTo_succ]
  by_cases hj : j < m
  ·exact List.mem_append.2 (Or.inl (ih j hj))
  ·obtain rfl : j = m := by omega
   by_cases hk : Lib.keeps d j = true
   ·rw [if_pos hk]; exact List.mem_append.2 (Or.inr (by simp))
   ·rw [if_neg hk]
    have hk2 : ¬ (j = 0 ∨ d[j]! ≠ d[j - 1]!) := fun h => hk (decide_eq_true h)
    have h0 : j ≠ 0 := fun e => hk2 (Or.inl e)
    have he : d[j]! = d[j - 1]! := Classical.not_not.1 fun e => hk2 (Or.inr e)
    rw [List.append_nil, he]; exact ih (j - 1) (by omega)
theorem compact_mem {l : List Int} {x : Int} (h : x ∈ l) : x ∈ Lib.compact l := by
 obtain ⟨i, hi, rfl⟩ := List.getElem_of_mem h
 have := compactUpTo_mem l.toArray l.length i hi
 simp only [List.getElem!_toArray] at this
 rw [getElem!_pos l i hi] at this
 exact this
theorem compact_sub {l : List Int} {x : Int} (h : x ∈ Lib.compact l) : x ∈ l := by
 unfold Lib.compact Lib.compactUpTo at h
 obtain ⟨i, hi, rfl⟩ := List.mem_map.1 h
 have hi2 := List.mem_range.1 (List.mem_filter.1 hi).1
 simp only [List.getElem!_toArray]
 rw [getElem!_pos l i hi2]; exact List.getElem_mem hi2
theorem compact_len (l : List Int) : (Lib.compact l).length ≤ l.length := by
 unfold Lib.compact Lib.compactUpTo
 rw [List.length_map]
 exact Nat.le_trans (List.length_filter_le _ _) (Nat.le_of_eq List.length_range)
theorem tidy_mem {l : List Int} {x : Int} : x ∈ tidy l ↔ x ∈ l := by
 rw [tidy_eq]
 exact ⟨fun h => List.mem_mergeSort.1 (compact_sub h), fun h => compact_mem (List.mem_mergeSort.2 h)⟩
theorem tidy_len (l : List Int) : (tidy l).length ≤ l.length := by
 rw [tidy_eq]
 exact Nat.le_trans (compact_len _) (Nat.le_of_eq (List.length_mergeSort _))
theorem auto_set_yes {rows : List (List Int)} {n m : Nat} (V : VA rows n m) {q : List Nat} (hq : ∀ x ∈ q, x < n) (hs : q.Pairwise (· < ·)) (hl : q.length ≤ 1000000) : Ev (fun k => auto_Set.f k rows (toI q)) true := by
 have hlen := V.len
 unfold auto_Set.f
 rw [toI_len]
 have key : ∀ d i : Nat, i + d = q.length → Ev (fun k => auto_Set.l0 k (toI q) (toI q) (q.length : Int) (i : Int) rows) true := by
  intro d
  induction d with
  | zero =>
   intro i hi
   refine Ev.next ?_
   simp only [auto_Set.l0, if_neg (by omega : ¬ (i : Int) < (q.length : Int))]
   exact Ev.now _
  | succ d ih =>
   intro i hi
   have hil : i < q.length := by omega
   have hx := hq q[i] (List.getElem_mem hil)
   refine Ev.next ?_
   simp only [auto_Set.l0, if_pos (by omega : (i : Int) < (q.length : Int)), if_pos (by omega : (0 : Int) ≤ (i : Int)), toI_len, toI_rd hil, auto_state, Option.bind_some, decide_eq_true (by omega : (0 : Int) ≤ ((q[i] : Nat) : Int) ∧ ((q[i] : Nat) : Int) < (rows.length : Int)), if_true, wrapS (by omega : i + 1 ≤ 9223372036854775807)]
   by_cases h0 : i = 0
   ·simp only [if_neg (by omega : ¬ (i : Int) > 0)]
    exact ih (i + 1) (by omega)
   ·have hw : wrap64 ((i : Int) - 1) = ((i - 1 : Nat) : Int) := by rw [wrapI (by omega) (by omega)]; omega
    have hlt : q[i - 1] < q[i] := List.pairwise_iff_getElem.1 hs (i - 1) i (by omega) hil (by omega)
    simp only [if_pos (by omega : (i : Int) > 0), hw, if_pos (by omega : (0 : Int) ≤ ((i - 1 : Nat) : Int)), if_pos (by omega : ((i - 1 : Nat) : Int) < (q.length : Int)), toI_rd (by omega : i - 1 < q.length), if_neg (by omega : ¬ ((q[i - 1] : Nat) : Int) ≥ ((q[i] : Nat) : Int))]
    exact ih (i + 1) (by omega)
 exact key q.length 0 (by omega)
theorem auto_image {rows : List (List Int)} {n m : Nat} (V : VA rows n m) {q w : List Nat} (hq : ∀ x ∈ q, x < n) (hs : q.Pairwise (· < ·)) (hl : q.length ≤ 1000000) (hw : Wd m w) (hwl : w.length ≤ 40000) :
  Ev (fun k => auto_Image.f k rows (toI q) (toI w)) (tidy (toI (q.map fun s => run (nx rows) s w)), 0) := by
 have hlen := V.len; have h60 := V.n60; have hn0 := V.n0
 have key : ∀ d i : Nat, i + d = q.length → Ev (fun k => auto_Image.l0 k (toI ((q.take i).map fun s => run (nx rows) s w)) rows (toI q) (toI w) (i : Int)) (tidy (toI (q.map fun s => run (nx rows) s w))) := by
  intro d
  induction d with
  | zero =>
   intro i hi
   have e : q.take i = q := List.take_of_length_le (by omega)
   refine Ev.next ?_
   rw [e]
   have hll : (toI (q.map fun s => run (nx rows) s w)).length = q.length := by rw [toI_len, List.length_map]
   have ht := tidy_len (toI (q.map fun s => run (nx rows) s w))
   simp only [auto_Image.l0, toI_len, if_neg (by omega : ¬ (i : Int) < (q.length : Int)), List.length_map, if_pos (by omega : q.length < 4611686018427387904), if_pos (by omega : (tidy (toI (q.map fun s => run (nx rows) s w))).length ≤ q.length)]
   exact Ev.now _
  | succ d ih =>
   intro i hi
   have hil : i < q.length := by omega
   have hx := hq q[i] (List.getElem_mem hil)
   have htl : (q.take i).length = i := by rw [List.length_take]; omega
   refine Ev.next ?_
   simp only [auto_Image.l0, toI_len, if_pos (by omega : (i : Int) < (q.length : Int)), if_pos (by omega : (0 : Int) ≤ (i : Int)), toI_rd hil, List.length_map, htl, if_pos (by omega : i < 17592186044416), wrapS (by omega : i + 1 ≤ 9223372036854775807)]
   refine Ev.bind (auto_lead V hx hw (by omega)) ?_
   have e : toI ((q.take i).map fun s => run (nx rows) s w) ++ [((run (nx rows) q[i] w : Nat) : Int)] = toI ((q.take (i + 1)).map fun s => run (nx rows) s w) := by
    rw [← toI_snoc, List.take_succ_eq_append_getElem hil, List.map_append]; rfl
   rw [e]
   exact ih (i + 1) (by omega)
 unfold auto_Image.f
 simp only [auto_Valid.f, validB_of V, Option.bind_some, if_true]
 refine Ev.bind (auto_set_yes V hq hs hl) ?_
 simp only [if_true, auto_word V, toI_len, Option.bind_some, decide_eq_true hwl, inB_toI.2 hw, Bool.and_self, hlen, inB_toI.2 (show Wd n q from hq), if_pos hn0, if_pos (by omega : n ≤ 281474976710656)]
 exact Ev.bind (key q.length 0 (by omega)) (Ev.now _)
end Go.Proofs.Ytjgdalhdiohclaa.Q
end
