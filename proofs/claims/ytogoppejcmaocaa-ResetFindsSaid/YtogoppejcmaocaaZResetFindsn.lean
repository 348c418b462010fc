/- Reset returns a reset word of at most (n^3 - n) / 6 letters, or the documented error, for any automaton. (text 14 of 26) -/
import Derived.Test.YtogoppejcmaocaaZResetFindsi
import Derived.Test.YtogoppejcmaocaaZResetFindsm
import Derived.Test.YtogoppejcmaocaaZResetFindsh
/-! Part MRun -/
section
namespace Go.Proofs.Ytogoppejcmaocaa.Q
open Go.RowKit Go.Proofs.YtogoppejcmaocaaW.PrintWords Go.Proofs.YtogoppejcmaocaaW.PrintLast Go.Proofs.YtogoppejcmaocaaW.PrintMore
set_option linter.unusedVariables false
theorem Least.short {rows : List (List Int)} {n m s t : Nat} {w : List Nat} (h : Least (nx rows) m s t w) (V : VA rows n m) (hs : s < n) : w.length < n := by
  obtain ⟨z, hz1, hz2, hz3, _⟩ := short_word (fun s x => V.nxLt) _ w s (Nat.le_refl _) hs h.wd
  rcases Nat.lt_or_ge z.length w.length with h1 | h1
  · have := code_len V.m0 hz1 h.wd h1
    have := h.le z hz1 (hz2.trans h.ends); omega
  · omega
theorem toI_rd {w : List Nat} {i : Nat} (h : i < w.length) : rd (toI w) (i : Int) = ((w[i] : Nat) : Int) := by
  rw [rdE (by rw [toI_len]; exact h)]; simp [toI]
theorem inB_toI {m : Nat} {w : List Nat} : inB (m : Int) (toI w) = true ↔ Wd m w := by
  unfold inB toI
  rw [List.all_eq_true]
  constructor
  · intro h x hx
    have := h (x : Int) (List.mem_map.2 ⟨x, hx, rfl⟩)
    simp at this; omega
  · intro h x hx
    obtain ⟨y, hy, rfl⟩ := List.mem_map.1 hx
    have := h y hy
    simp; omega
theorem auto_lead {rows : List (List Int)} {n m s : Nat} (V : VA rows n m) (hs : s < n) {w : List Nat} (hw : Wd m w) (hl : w.length ≤ 1000000) : Ev (fun k => auto_Lead.f k rows (s : Int) (toI w)) ((run (nx rows) s w : Nat) : Int) := by
  have hlen := V.len
  have key : ∀ (d i u : Nat), i + d = w.length → u < n → Ev (fun k => auto_Lead.l0 k (u : Int) (toI w) (w.length : Int) (i : Int) rows) ((run (nx rows) u (w.drop i) : Nat) : Int) := by
    intro d
    induction d with
    | zero =>
      intro i u hi hu
      refine Ev.next ?_
      simp only [auto_Lead.l0, if_neg (by omega : ¬ (i : Int) < (w.length : Int))]
      rw [List.drop_eq_nil_of_le (by omega)]
      exact Ev.now _
    | succ d ih =>
      intro i u hi hu
      have hil : i < w.length := by omega
      have hx := hw w[i] (List.getElem_mem hil)
      have hrow := V.row u hu
      refine Ev.next ?_
      simp only [auto_Lead.l0, if_pos (by omega : (i : Int) < (w.length : Int)), if_pos (by omega : (0 : Int) ≤ (i : Int)), toI_len, if_pos (by omega : (0 : Int) ≤ (u : Int)), if_pos (by omega : (u : Int) < (rows.length : Int)), toI_rd hil, if_pos (by omega : (0 : Int) ≤ ((w[i] : Nat) : Int)), if_pos (by omega : ((w[i] : Nat) : Int) < ((rd_L1 rows (u : Int)).length : Int)), V.nxE hu hx, wrapS (by omega : i + 1 ≤ 9223372036854775807)]
      rw [List.drop_eq_getElem_cons hil]
      exact ih (i + 1) _ (by omega) (V.nxLt hu hx)
  unfold auto_Lead.f
  rw [toI_len]
  exact key w.length 0 s (by omega) hs
theorem ref_has (l : List Int) (z : Int) (hl : l.length ≤ 9223372036854775806) : Ev (fun k => mizmazeref01_Has.f k l z) (decide (z ∈ l)) := by
  unfold mizmazeref01_Has.f
  refine @Ev.every Bool (fun k i => mizmazeref01_Has.l0 k l z (i : Int)) l.length false true _ (fun i => decide (rd l (i : Int) ≠ z)) ?_ ?_ ?_ ?_ ?_
  · intro h
    rw [decide_eq_false_iff_not]
    intro hz
    obtain ⟨i, hi, e⟩ := List.getElem_of_mem hz
    have := of_decide_eq_true (h i hi)
    rw [rdE hi] at this; exact this e
  · intro i hi h
    have h2 := of_decide_eq_false h
    rw [rdE hi] at h2
    rw [decide_eq_true_eq, ← Classical.not_not.1 h2]; exact List.getElem_mem hi
  · intro i hi hp hr
    refine Ev.next ?_
    simp only [mizmazeref01_Has.l0, if_pos (by omega : (i : Int) < (l.length : Int)), if_pos (by omega : (0 : Int) ≤ (i : Int)), if_neg (of_decide_eq_true hp), wrapS (by omega : i + 1 ≤ 9223372036854775807)]
    exact hr
  · intro i hi hp
    refine Ev.next ?_
    simp only [mizmazeref01_Has.l0, if_pos (by omega : (i : Int) < (l.length : Int)), if_pos (by omega : (0 : Int) ≤ (i : Int)), if_pos (Classical.not_not.1 (of_decide_eq_false hp))]
    exact Ev.now _
  · refine Ev.next ?_
    simp only [mizmazeref01_Has.l0, if_neg (by omega : ¬ (l.length : Int) < (l.length : Int))]
    exact Ev.now _
end Go.Proofs.Ytogoppejcmaocaa.Q
end
/-! Part MRefImg -/
section
namespace Go.Proofs.Ytogoppejcmaocaa.Q
open Go.RowKit Go.Proofs.YtogoppejcmaocaaW.PrintWords Go.Proofs.YtogoppejcmaocaaW.PrintLast Go.Proofs.YtogoppejcmaocaaW.PrintMore
set_option linter.unusedVariables false
set_option linter.unusedSectionVars false
set_option linter.unusedSimpArgs false
/-! ### reference 1: words and images -/
theorem ref_word' {rows : List (List Int)} {n m : Nat} (V : VA rows n m) (l : List Int) : Ev (fun k => mizmazeref01_Word.f k rows l) (decide (l.length ≤ 40000) && inB (m : Int) l) := by
  unfold mizmazeref01_Word.f
  by_cases h : l.length ≤ 40000
  · simp only [if_pos (by omega : (l.length : Int) ≤ 40000), V.letters, Option.bind_some]
    rw [decide_eq_true h, Bool.true_and]
    exact Ev.bind (ref_below _ _ (by omega)) (Ev.now _)
  · simp only [if_neg (by omega : ¬ (l.length : Int) ≤ 40000)]
    rw [decide_eq_false h, Bool.false_and]; exact Ev.now _
theorem ref_run {rows : List (List Int)} {n m s : Nat} (V : VA rows n m) (hs : s < n) {w : List Nat} (hw : Wd m w) (hl : w.length ≤ 1000000) : Ev (fun k => mizmazeref01_Run.f k rows (s : Int) (toI w)) ((run (nx rows) s w : Nat) : Int) := by
  have hlen := V.len
  have key : ∀ (d i s : Nat), i + d = w.length → s < n → Ev (fun k => mizmazeref01_Run.l0 k (s : Int) (toI w) (i : Int) rows) ((run (nx rows) s (w.drop i) : Nat) : Int) := by
    intro d
    induction d with
    | zero =>
      intro i s hi hs
      rw [List.drop_eq_nil_of_le (by omega)]
      refine Ev.step (f := fun _ => some (s : Int)) (fun k => ?_) (Ev.now _)
      rw [mizmazeref01_Run.l0, toI_len, if_neg (by omega)]
    | succ d ih =>
      intro i s hi hs
      have hil : i < w.length := by omega
      have hx := hw w[i] (List.getElem_mem hil)
      rw [List.drop_eq_getElem_cons hil]
      refine Ev.step (fun k => ?_) (ih (i + 1) _ (by omega) (V.nxLt hs hx))
      rw [mizmazeref01_Run.l0, toI_len, if_pos (by omega), if_pos (by omega), if_pos (by omega), if_pos (by omega), toI_rd hil, if_pos (by omega), V.row s hs, if_pos (by omega), V.nxE hs hx, wrapS (by omega)]
  have := key w.length 0 s (by omega) hs
  rw [List.drop_zero] at this
  exact this
theorem ref_ends {rows : List (List Int)} {n m : Nat} (V : VA rows n m) {w : List Nat} (hw : Wd m w) (hl : w.length ≤ 1000000) : Ev (fun k => mizmazeref01_Ends.f k rows (toI w)) (toI ((List.range n).map fun s => run (nx rows) s w)) := by
  have hlen := V.len; have h60 := V.n60
  have key : ∀ d i : Nat, i + d = n → Ev (fun k => mizmazeref01_Ends.l0 k (toI w) (toI ((List.range i).map fun s => run (nx rows) s w)) (i : Int) rows) (toI ((List.range n).map fun s => run (nx rows) s w)) := by
    intro d
    induction d with
    | zero =>
      intro i hi
      obtain rfl : i = n := by omega
      refine Ev.step (f := fun _ => some (toI ((List.range i).map fun s => run (nx rows) s w))) (fun k => ?_) (Ev.now _)
      rw [mizmazeref01_Ends.l0, hlen, if_neg (by omega)]
    | succ d ih =>
      intro i hi
      refine Ev.step (f := fun k => (mizmazeref01_Run.f k rows (i : Int) (toI w)).bind fun t => mizmazeref01_Ends.l0 k (toI w) (toI ((List.range i).map fun s => run (nx rows) s w) ++ [t]) ((i + 1 : Nat) : Int) rows) (fun k => ?_) (Ev.bind (ref_run V (by omega) hw hl) ?_)
      · rw [mizmazeref01_Ends.l0, hlen, if_pos (by omega), toI_len, List.length_map, List.length_range, wrapS (by omega)]
        simp only [if_pos (show i < 17592186044416 by omega)]
      · have e : toI ((List.range i).map fun s => run (nx rows) s w) ++ [((run (nx rows) i w : Nat) : Int)] = toI ((List.range (i + 1)).map fun s => run (nx rows) s w) := by
          rw [← toI_snoc, List.range_succ, List.map_append]; rfl
        rw [e]; exact ih (i + 1) (by omega)
  exact key n 0 (by omega)
/-- The states to which a word leads from the states of a set, in order. -/
def imgL (f : Nat → Nat → Nat) (n : Nat) (q w : List Nat) : List Nat := (List.range n).filter fun t => decide (t ∈ q.map fun s => run f s w)
theorem imgL_mem {f : Nat → Nat → Nat} {n t : Nat} {q w : List Nat} : t ∈ imgL f n q w ↔ t < n ∧ ∃ s ∈ q, run f s w = t := by
  unfold imgL
  rw [List.mem_filter, List.mem_range, decide_eq_true_eq, List.mem_map]
theorem imgL_srt (f : Nat → Nat → Nat) (n : Nat) (q w : List Nat) : (imgL f n q w).Pairwise (· < ·) := List.Pairwise.filter _ List.pairwise_lt_range
theorem imgL_one {f : Nat → Nat → Nat} {n t : Nat} {q w : List Nat} (hn : 0 < n) (ht : t < n) (h : ∀ s ∈ q, run f s w = t) (hq : ∃ s, s ∈ q) : imgL f n q w = [t] := by
  have hs := imgL_srt f n q w
  have hm : ∀ x, x ∈ imgL f n q w ↔ x = t := fun x => by
    rw [imgL_mem]
    constructor
    · rintro ⟨_, s, hs, rfl⟩; exact h s hs
    · rintro rfl; obtain ⟨s, hs⟩ := hq; exact ⟨ht, s, hs, h s hs⟩
  match hI : imgL f n q w with
  | [] => rw [hI] at hm; exact absurd ((hm t).2 rfl) (by simp)
  | [x] => rw [hI] at hm; rw [(hm x).1 List.mem_cons_self]
  | x :: y :: l =>
    rw [hI] at hm hs
    have h1 := (hm x).1 List.mem_cons_self
    have h2 := (hm y).1 (List.mem_cons_of_mem _ List.mem_cons_self)
    have h3 := (List.pairwise_cons.1 hs).1 y List.mem_cons_self
    omega
theorem ref_image {rows : List (List Int)} {n m : Nat} (V : VA rows n m) {q w : List Nat} (hq : ∀ x ∈ q, x < n) (hql : q.length ≤ 1000000) (hw : Wd m w) (hl : w.length ≤ 1000000) : Ev (fun k => mizmazeref01_Image.f k rows (toI q) (toI w)) (toI (imgL (nx rows) n q w)) := by
  have hlen := V.len; have h60 := V.n60
  have key1 : ∀ d i : Nat, i + d = n → Ev (fun k => mizmazeref01_Image.l1 k (toI (q.map fun s => run (nx rows) s w)) (toI ((List.range i).filter fun t => decide (t ∈ q.map fun s => run (nx rows) s w))) (i : Int) rows) (toI (imgL (nx rows) n q w)) := by
    intro d
    induction d with
    | zero =>
      intro i hi
      obtain rfl : i = n := by omega
      refine Ev.step (f := fun _ => some (toI (imgL (nx rows) i q w))) (fun k => ?_) (Ev.now _)
      rw [mizmazeref01_Image.l1, hlen, if_neg (by omega)]; rfl
    | succ d ih =>
      intro i hi
      have hfl : ((List.range i).filter fun t => decide (t ∈ q.map fun s => run (nx rows) s w)).length ≤ i := by
        have := List.length_filter_le (fun t => decide (t ∈ q.map fun s => run (nx rows) s w)) (List.range i)
        rwa [List.length_range] at this
      have hmem : (decide ((i : Int) ∈ toI (q.map fun s => run (nx rows) s w))) = decide (i ∈ q.map fun s => run (nx rows) s w) := by
        rw [decide_eq_decide]
        unfold toI
        rw [List.mem_map]
        constructor
        · rintro ⟨x, hx, he⟩; have : x = i := by omega
          exact this ▸ hx
        · intro h; exact ⟨i, h, rfl⟩
      have hs := ih (i + 1) (by omega)
      rw [List.range_succ, List.filter_append] at hs
      refine Ev.step (f := fun k => (mizmazeref01_Has.f k (toI (q.map fun s => run (nx rows) s w)) (i : Int)).bind _) (fun k => by rw [mizmazeref01_Image.l1, hlen, if_pos (by omega)]) (Ev.bind (ref_has _ _ (by rw [toI_len, List.length_map]; omega)) ?_)
      rw [hmem, wrapS (by omega)]
      by_cases h : i ∈ q.map fun s => run (nx rows) s w
      · simp only [decide_eq_true h, if_true, toI_len, if_pos (show ((List.range i).filter fun t => decide (t ∈ q.map fun s => run (nx rows) s w)).length < 17592186044416 by omega)]
        rw [← toI_snoc]
        rw [List.filter_cons_of_pos (by simpa using h), List.filter_nil] at hs
        exact hs
      · simp only [decide_eq_false h, Bool.false_eq_true, if_false]
        rw [List.filter_cons_of_neg (by simpa using h), List.filter_nil, List.append_nil] at hs
        exact hs
  have key0 : ∀ d i : Nat, i + d = q.length → Ev (fun k => mizmazeref01_Image.l0 k (toI q) (toI ((List.range n).map fun s => run (nx rows) s w)) (toI ((q.take i).map fun s => run (nx rows) s w)) (i : Int) rows) (toI (imgL (nx rows) n q w)) := by
    intro d
    induction d with
    | zero =>
      intro i hi
      rw [List.take_of_length_le (by omega)]
      refine Ev.step (fun k => ?_) (key1 n 0 (by omega))
      rw [mizmazeref01_Image.l0, toI_len, if_neg (by omega)]; rfl
    | succ d ih =>
      intro i hi
      have hil : i < q.length := by omega
      have hx := hq q[i] (List.getElem_mem hil)
      have htl : (q.take i).length = i := by rw [List.length_take]; omega
      have hr : rd (toI ((List.range n).map fun s => run (nx rows) s w)) ((q[i] : Nat) : Int) = ((run (nx rows) q[i] w : Nat) : Int) := by
        rw [toI_rd (by simpa using hx)]; simp
      refine Ev.step (fun k => ?_) (ih (i + 1) (by omega))
      rw [mizmazeref01_Image.l0, toI_len, if_pos (by omega), if_pos (by omega), toI_rd hil, if_pos (by omega), toI_len, List.length_map, List.length_range, if_pos (by omega), toI_len, List.length_map, htl, if_pos (by omega), hr, wrapS (by omega), ← toI_snoc, List.take_succ_eq_append_getElem hil, List.map_append]
      rfl
  unfold mizmazeref01_Image.f
  exact Ev.bind (ref_ends V hw hl) (key0 q.length 0 (by omega))
end Go.Proofs.Ytogoppejcmaocaa.Q
end
