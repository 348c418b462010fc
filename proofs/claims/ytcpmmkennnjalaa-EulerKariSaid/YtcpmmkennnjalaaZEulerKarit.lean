/- In an Eulerian automaton of at most MaxSmall states that has a reset word, Extend of each set that is neither empty nor contains all states is a word of at most n - 1 letters whose preimage has more states. (text 20 of 44) -/
import Derived.Test.YtcpmmkennnjalaaZEulerKarip
import Derived.Test.YtcpmmkennnjalaaZEulerKario
import Derived.Test.YtcpmmkennnjalaaZEulerKarin
section
namespace Go.Proofs.Ytcpmmkennnjalaa.Pure
open Go.RowKit Go.Proofs.YtcpmmkennnjalaaW.PrintWords Go.Proofs.YtcpmmkennnjalaaW.PrintLast Go.Proofs.YtcpmmkennnjalaaW.PrintMore Go.Proofs.Ytcpmmkennnjalaa.Q
set_option linter.unusedVariables false
set_option linter.unusedSimpArgs false
/-! ### double counting -/
section
variable {rows : List (List Int)} {n m : Nat} (V : VA rows n m)
include V
theorem row_list {s : Nat} (hs : s < n) : rd_L1 rows (s : Int) = (List.range m).map fun x => ((nx rows s x : Nat) : Int) := by
  have hr := V.row s hs
  refine List.ext_getElem (by simpa using hr) fun i h1 h2 => ?_
  have hi : i < m := by omega
  rw [List.getElem_map, List.getElem_range, ← V.nxE hs hi, rdE h1]
theorem rows_list : rows = (List.range n).map fun s : Nat => rd_L1 rows (s : Int) := by
  have hl := V.len
  refine List.ext_getElem (by simpa using hl) fun i h1 h2 => ?_
  rw [List.getElem_map, List.getElem_range, rdLE h1]
theorem inn_count (t : Nat) : inn rows t = ((List.range n).map fun s => (List.range m).countP fun x => decide (nx rows s x = t)).sum := by
  have e : inn rows t = (((List.range n).map fun s : Nat => rd_L1 rows (s : Int)).map fun r => r.count (t : Int)).sum := by
    rw [← rows_list V]; rfl
  rw [e, List.map_map]
  congr 1
  refine List.map_congr_left fun s hs => ?_
  show (rd_L1 rows (s : Int)).count (t : Int) = _
  rw [row_list V (List.mem_range.1 hs), List.count, List.countP_map]
  refine List.countP_congr fun x _ => ?_
  simp
  omega
/-! ### the set -/
theorem ref_set {l : List Int} : ∃ b, Ev (fun k => mizmazeref01_Set.f k rows l) b ∧ (b = true → ∃ q : List Nat, (∀ x ∈ q, x < n) ∧ q.Pairwise (· < ·) ∧ q.length ≤ n ∧ l = toI q) := by
  have hlen := V.len
  have h60 := V.n60
  unfold mizmazeref01_Set.f
  by_cases h1 : l.length > n
  · refine ⟨false, ?_, fun h => by cases h⟩
    simp only [if_pos (show (l.length : Int) > (rows.length : Int) by omega)]
    refine Ev.next ?_
    simp only [mizmazeref01_Set.j0, if_true]
    exact Ev.now _
  · simp only [hlen, if_neg (show ¬ (l.length : Int) > (n : Int) by omega)]
    cases hb : inB (n : Int) l with
    | false =>
      refine ⟨false, ?_, fun h => by cases h⟩
      refine Ev.bind (ref_below l _ (by omega)) ?_
      rw [hb]
      refine Ev.next ?_
      simp only [mizmazeref01_Set.j0, Bool.not_false, if_true]
      exact Ev.now _
    | true =>
      obtain ⟨q, hq, rfl⟩ := toI_of hb
      rw [toI_len] at h1
      have key : ∀ d i : Nat, i + d = q.length → 0 < i → ∃ b, Ev (fun k => mizmazeref01_Set.l0 k (toI q) (i : Int)) b ∧ (b = true → ∀ j, i ≤ j → ∀ h : j < q.length, q[j - 1]'(by omega) < q[j]) := by
        intro d
        induction d with
        | zero =>
          intro i hi h0
          refine ⟨true, ?_, fun _ j h2 h3 => by omega⟩
          refine Ev.step (f := fun _ => some true) (fun k => by rw [mizmazeref01_Set.l0, toI_len, if_neg (by omega)]) (Ev.now _)
        | succ d ih =>
          intro i hi h0
          have hil : i < q.length := by omega
          have hw : wrap64 ((i : Int) - 1) = ((i - 1 : Nat) : Int) := by rw [wrapI (by omega) (by omega)]; omega
          by_cases hlt : q[i - 1]'(by omega) < q[i]
          · obtain ⟨b, hb1, hb2⟩ := ih (i + 1) (by omega) (by omega)
            refine ⟨b, Ev.step (f := fun k => mizmazeref01_Set.l0 k (toI q) ((i + 1 : Nat) : Int)) (fun k => ?_) hb1, fun hbt j h2 h3 => ?_⟩
            · rw [mizmazeref01_Set.l0, toI_len, if_pos (by omega), if_pos (by omega), hw, if_pos (by omega), if_pos (by omega), toI_rd hil, toI_rd (show i - 1 < q.length by omega), if_neg (by omega), wrapS (by omega)]
            · rcases Nat.eq_or_lt_of_le h2 with h4 | h4
              · subst h4; exact hlt
              · exact hb2 hbt j h4 h3
          · refine ⟨false, Ev.step (f := fun _ => some false) (fun k => ?_) (Ev.now _), fun h => by cases h⟩
            rw [mizmazeref01_Set.l0, toI_len, if_pos (by omega), if_pos (by omega), hw, if_pos (by omega), if_pos (by omega), toI_rd hil, toI_rd (show i - 1 < q.length by omega), if_pos (by omega)]
      have start : ∃ b, Ev (fun k => mizmazeref01_Set.l0 k (toI q) (1 : Int)) b ∧ (b = true → ∀ j, 1 ≤ j → ∀ h : j < q.length, q[j - 1]'(by omega) < q[j]) := by
        rcases Nat.eq_zero_or_pos q.length with h0 | h0
        · refine ⟨true, Ev.step (f := fun _ => some true) (fun k => by rw [mizmazeref01_Set.l0, toI_len, if_neg (by omega)]) (Ev.now _), fun _ j h2 h3 => by omega⟩
        · exact key (q.length - 1) 1 (by omega) (by omega)
      obtain ⟨b, hb1, hb2⟩ := start
      refine ⟨b, ?_, fun hbt => ⟨q, hq, ?_, by omega, rfl⟩⟩
      · refine Ev.bind (ref_below (toI q) _ (by rw [toI_len]; omega)) ?_
        rw [hb]
        refine Ev.next ?_
        simp only [mizmazeref01_Set.j0, Bool.not_true, Bool.false_eq_true, if_false]
        exact hb1
      · have adj := hb2 hbt
        have up : ∀ d i : Nat, ∀ h : i + d + 1 < q.length, q[i]'(by omega) < q[i + d + 1] := by
          intro d
          induction d with
          | zero => intro i h; exact adj (i + 1) (by omega) h
          | succ d ih =>
            intro i h
            have h1 := ih i (by omega)
            have h2 := adj (i + (d + 1) + 1) (by omega) h
            simp only [Nat.add_sub_cancel] at h2
            exact Nat.lt_trans h1 h2
        refine List.pairwise_iff_getElem.2 fun i j hi hj hij => ?_
        have := up (j - i - 1) i (by omega)
        simpa [show i + (j - i - 1) + 1 = j from by omega] using this
/-! ### the preimage -/
omit V in
theorem metS_get (q : List Nat) : ∀ (mm : List Bool), (∀ x ∈ q, x < mm.length) → ∀ t : Nat, ((toI q).foldl (fun m t => m.set t.toNat true) mm).getD t false = (mm.getD t false || decide (t ∈ q)) := by
  induction q with
  | nil => intro mm _ t; simp [toI]
  | cons x q ih =>
    intro mm hx t
    have h0 := hx x List.mem_cons_self
    show ((toI q).foldl (fun m t => m.set t.toNat true) (mm.set ((x : Int).toNat) true)).getD t false = _
    rw [ih _ (fun y hy => by rw [List.length_set]; exact hx y (List.mem_cons_of_mem _ hy)) t, Int.toNat_natCast]
    have e : (mm.set x true).getD t false = (mm.getD t false || decide (t = x)) := by
      rw [List.getD_eq_getElem?_getD, List.getElem?_set, List.getD_eq_getElem?_getD]
      by_cases h : x = t
      · subst h; rw [if_pos rfl, if_pos h0, Option.getD_some, decide_eq_true rfl, Bool.or_true]
      · rw [if_neg h, decide_eq_false (fun h2 => h h2.symm), Bool.or_false]
    rw [e, Bool.or_assoc]
    congr 1
    rw [Bool.eq_iff_iff, Bool.or_eq_true, decide_eq_true_eq, decide_eq_true_eq, decide_eq_true_eq, List.mem_cons]
omit V in
theorem metS_len (l : List Int) : ∀ mm : List Bool, (l.foldl (fun m t => m.set t.toNat true) mm).length = mm.length := by
  induction l with
  | nil => intro mm; rfl
  | cons x l ih => intro mm; show (l.foldl _ (mm.set x.toNat true)).length = _; rw [ih, List.length_set]
def preL (rows : List (List Int)) (n : Nat) (q w : List Nat) : List Nat := (List.range n).filter fun s => decide (run (nx rows) s w ∈ q)
theorem auto_pre {q w : List Nat} (hq : ∀ x ∈ q, x < n) (hs : q.Pairwise (· < ·)) (hl : q.length ≤ 1000000) (hw : Wd m w) (hwl : w.length ≤ 40000) :
    Ev (fun k => auto_Preimage.f k rows (toI q) (toI w)) (toI (preL rows n q w), 0) := by
  have hlen := V.len; have h60 := V.n60; have hn0 := V.n0
  have hml : (metS n (toI q)).length = n := by unfold metS; rw [metS_len, List.length_replicate]
  have hmg : ∀ t : Nat, rdOf false (metS n (toI q)) (t : Int) = decide (t ∈ q) := fun t => by
    show (metS n (toI q)).getD t false = _
    unfold metS
    rw [metS_get q _ (fun x hx => by rw [List.length_replicate]; exact hq x hx) t]
    have : (List.replicate n false).getD t false = false := by
      rw [List.getD_eq_getElem?_getD, List.getElem?_replicate]
      split <;> rfl
    rw [this, Bool.false_or]
  have key : ∀ d i : Nat, i + d = n → Ev (fun k => auto_Preimage.l0 k (toI ((List.range i).filter fun s => decide (run (nx rows) s w ∈ q))) rows (metS n (toI q)) (toI w) (i : Int)) (toI (preL rows n q w)) := by
    intro d
    induction d with
    | zero =>
      intro i hi
      obtain rfl : i = n := by omega
      refine Ev.next ?_
      simp only [auto_Preimage.l0, if_neg (show ¬ (i : Int) < (rows.length : Int) by omega)]
      exact Ev.now _
    | succ d ih =>
      intro i hi
      have hin : i < n := by omega
      have hr := V.runLt hin hw
      have hfl : ((List.range i).filter fun s => decide (run (nx rows) s w ∈ q)).length ≤ i := Nat.le_trans (List.length_filter_le _ _) (by simp)
      refine Ev.next ?_
      simp only [auto_Preimage.l0, if_pos (show (i : Int) < (rows.length : Int) by omega), if_pos (show (0 : Int) ≤ (i : Int) by omega)]
      refine Ev.bind (auto_lead V hin hw (by omega)) ?_
      simp only [if_pos (show (0 : Int) ≤ ((run (nx rows) i w : Nat) : Int) by omega), hml, if_pos (show ((run (nx rows) i w : Nat) : Int) < (n : Int) by omega), hmg, toI_len, if_pos (show ((List.range i).filter fun s => decide (run (nx rows) s w ∈ q)).length < 17592186044416 by omega), wrapS (show i + 1 ≤ 9223372036854775807 by omega)]
      have hih := ih (i + 1) (by omega)
      rw [List.range_succ, List.filter_append] at hih
      by_cases hm : run (nx rows) i w ∈ q
      · simp only [decide_eq_true hm, if_true]
        rw [List.filter_cons_of_pos (by simpa using hm), List.filter_nil, toI_snoc] at hih
        exact hih
      · simp only [decide_eq_false hm, Bool.false_eq_true, if_false]
        rw [List.filter_cons_of_neg (by simpa using hm), List.filter_nil, List.append_nil] at hih
        exact hih
  unfold auto_Preimage.f
  simp only [auto_Valid.f, validB_of V, Option.bind_some, if_true]
  refine Ev.bind (auto_set_yes V hq hs hl) ?_
  simp only [if_true, auto_word V, toI_len, Option.bind_some, decide_eq_true hwl, inB_toI.2 hw, Bool.and_self, hlen, inB_toI.2 (show Wd n q from hq), if_pos hn0, if_pos (by omega : n ≤ 281474976710656)]
  exact Ev.bind (key n 0 (by omega)) (Ev.now _)
end
end Go.Proofs.Ytcpmmkennnjalaa.Pure
end
