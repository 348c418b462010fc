/- No word leads from all states to fewer states than the rank; a reset word is not shorter than the shortest one and does not come before it; the rank is 1 exactly if there is a reset word, for any automaton and word. (text 33 of 35) -/
import Derived.Test.YtogoppejcmaocaaZShortLeastw
import Derived.Test.YtogoppejcmaocaaZShortLeasti
/-! Part MImage -/
section
namespace Go.Proofs.Ytogoppejcmaocaa.Q
open Go.RowKit Go.Proofs.YtogoppejcmaocaaW.PrintWords Go.Proofs.YtogoppejcmaocaaW.PrintLast Go.Proofs.YtogoppejcmaocaaW.PrintMore
set_option linter.unusedVariables false
/-! ### auto.Image -/
theorem compact_len (l : List Int) : (Lib.compact l).length ≤ l.length := by
  unfold Lib.compact Lib.compactUpTo
  rw [List.length_map]
  exact Nat.le_trans (List.length_filter_le _ _) (Nat.le_of_eq List.length_range)
theorem tidy_len (l : List Int) : (tidy l).length ≤ l.length := by
  rw [tidy_eq]
  exact Nat.le_trans (compact_len _) (Nat.le_of_eq (List.length_mergeSort _))
/-- A set of states in order. -/
theorem auto_set_yes {rows : List (List Int)} {n m : Nat} (V : VA rows n m) {q : List Nat} (hq : ∀ x ∈ q, x < n) (hs : q.Pairwise (· < ·)) (hl : q.length ≤ 1000000) : Ev (fun k => auto_Set.f k rows (toI q)) true := by
  have hlen := V.len
  unfold auto_Set.f
  rw [toI_len]
  have key : ∀ d i : Nat, i + d = q.length → Ev (fun k => auto_Set.l0 k (toI q) (toI q) (q.length : Int) (i : Int) rows) true := by
    intro d
    induction d with
    | zero =>
      intro i hi
      refine Ev.next ?_
      simp only [auto_Set.l0, if_neg (by omega : ¬ (i : Int) < (q.length : Int))]
      exact Ev.now _
    | succ d ih =>
      intro i hi
      have hil : i < q.length := by omega
      have hx := hq q[i] (List.getElem_mem hil)
      refine Ev.next ?_
      simp only [auto_Set.l0, if_pos (by omega : (i : Int) < (q.length : Int)), if_pos (by omega : (0 : Int) ≤ (i : Int)), toI_len, toI_rd hil, auto_state, Option.bind_some, decide_eq_true (by omega : (0 : Int) ≤ ((q[i] : Nat) : Int) ∧ ((q[i] : Nat) : Int) < (rows.length : Int)), if_true, wrapS (by omega : i + 1 ≤ 9223372036854775807)]
      by_cases h0 : i = 0
      · simp only [if_neg (by omega : ¬ (i : Int) > 0)]
        exact ih (i + 1) (by omega)
      · have hw : wrap64 ((i : Int) - 1) = ((i - 1 : Nat) : Int) := by rw [wrapI (by omega) (by omega)]; omega
        have hlt : q[i - 1] < q[i] := List.pairwise_iff_getElem.1 hs (i - 1) i (by omega) hil (by omega)
        simp only [if_pos (by omega : (i : Int) > 0), hw, if_pos (by omega : (0 : Int) ≤ ((i - 1 : Nat) : Int)), if_pos (by omega : ((i - 1 : Nat) : Int) < (q.length : Int)), toI_rd (by omega : i - 1 < q.length), if_neg (by omega : ¬ ((q[i - 1] : Nat) : Int) ≥ ((q[i] : Nat) : Int))]
        exact ih (i + 1) (by omega)
  exact key q.length 0 (by omega)
theorem auto_image {rows : List (List Int)} {n m : Nat} (V : VA rows n m) {q w : List Nat} (hq : ∀ x ∈ q, x < n) (hs : q.Pairwise (· < ·)) (hl : q.length ≤ 1000000) (hw : Wd m w) (hwl : w.length ≤ 40000) :
    Ev (fun k => auto_Image.f k rows (toI q) (toI w)) (tidy (toI (q.map fun s => run (nx rows) s w)), 0) := by
  have hlen := V.len; have h60 := V.n60; have hn0 := V.n0
  have key : ∀ d i : Nat, i + d = q.length → Ev (fun k => auto_Image.l0 k (toI ((q.take i).map fun s => run (nx rows) s w)) rows (toI q) (toI w) (i : Int)) (tidy (toI (q.map fun s => run (nx rows) s w))) := by
    intro d
    induction d with
    | zero =>
      intro i hi
      have e : q.take i = q := List.take_of_length_le (by omega)
      refine Ev.next ?_
      rw [e]
      have hll : (toI (q.map fun s => run (nx rows) s w)).length = q.length := by rw [toI_len, List.length_map]
      have ht := tidy_len (toI (q.map fun s => run (nx rows) s w))
      simp only [auto_Image.l0, toI_len, if_neg (by omega : ¬ (i : Int) < (q.length : Int)), List.length_map, if_pos (by omega : q.length < 4611686018427387904), if_pos (by omega : (tidy (toI (q.map fun s => run (nx rows) s w))).length ≤ q.length)]
      exact Ev.now _
    | succ d ih =>
      intro i hi
      have hil : i < q.length := by omega
      have hx := hq q[i] (List.getElem_mem hil)
      have htl : (q.take i).length = i := by rw [List.length_take]; omega
      refine Ev.next ?_
      simp only [auto_Image.l0, toI_len, if_pos (by omega : (i : Int) < (q.length : Int)), if_pos (by omega : (0 : Int) ≤ (i : Int)), toI_rd hil, List.length_map, htl, if_pos (by omega : i < 17592186044416), wrapS (by omega : i + 1 ≤ 9223372036854775807)]
      refine Ev.bind (auto_lead V hx hw (by omega)) ?_
      have e : toI ((q.take i).map fun s => run (nx rows) s w) ++ [((run (nx rows) q[i] w : Nat) : Int)] = toI ((q.take (i + 1)).map fun s => run (nx rows) s w) := by
        rw [← toI_snoc, List.take_succ_eq_append_getElem hil, List.map_append]; rfl
      rw [e]
      exact ih (i + 1) (by omega)
  unfold auto_Image.f
  simp only [auto_Valid.f, validB_of V, Option.bind_some, if_true]
  refine Ev.bind (auto_set_yes V hq hs hl) ?_
  simp only [if_true, auto_word V, toI_len, Option.bind_some, decide_eq_true hwl, inB_toI.2 hw, Bool.and_self, hlen, inB_toI.2 (show Wd n q from hq), if_pos hn0, if_pos (by omega : n ≤ 281474976710656)]
  exact Ev.bind (key q.length 0 (by omega)) (Ev.now _)
end Go.Proofs.Ytogoppejcmaocaa.Q
end
