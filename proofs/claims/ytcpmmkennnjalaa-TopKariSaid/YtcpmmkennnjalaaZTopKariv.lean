/- In any Eulerian automaton that has a reset word, whatever set of states, neither empty nor all, is led into by more states with a word of at most n - 1 letters, and its shortest reset word has at most n^2 - 3n + 3 letters; in any circular one at most (n - 1)^2. (At most 9 states) (text 22 of 42) -/
import Derived.Test.YtcpmmkennnjalaaZTopKarij
import Derived.Lib.SlicesCompact
section
namespace Go.Proofs.Ytcpmmkennnjalaa.Q
set_option linter.unusedVariables false
set_option linter.unusedSectionVars false
set_option linter.unusedSimpArgs false
/-- A number put in its place. -/
def insD (x : Int) : List Int → List Int
  | [] => [x]
  | y :: l => if x < y then x :: y :: l else if x = y then y :: l else y :: insD x l
/-- The list in order, each number once. -/
def tidy (l : List Int) : List Int := l.foldr insD []
theorem insD_mem {x z : Int} : ∀ {l : List Int}, z ∈ insD x l ↔ z = x ∨ z ∈ l
  | [] => by simp [insD]
  | y :: l => by
    unfold insD
    split
    · simp
    · split
      · rename_i h; subst h; simp
      · rw [List.mem_cons, insD_mem, List.mem_cons]
        constructor
        · rintro (h | h | h) <;> simp [h]
        · rintro (h | h | h) <;> simp [h]
theorem insD_srt {x : Int} : ∀ {l : List Int}, l.Pairwise (· < ·) → (insD x l).Pairwise (· < ·)
  | [], _ => by simp [insD]
  | y :: l, h => by
    have hc := List.pairwise_cons.1 h
    unfold insD
    split
    · rename_i hxy
      exact List.pairwise_cons.2 ⟨fun z hz => by
        rcases List.mem_cons.1 hz with rfl | hz
        · exact hxy
        · have := hc.1 z hz; omega, h⟩
    · split
      · exact h
      · refine List.pairwise_cons.2 ⟨fun z hz => ?_, insD_srt hc.2⟩
        rcases insD_mem.1 hz with rfl | hz
        · omega
        · exact hc.1 z hz
theorem tidy_srt (l : List Int) : (tidy l).Pairwise (· < ·) := by
  induction l with
  | nil => exact List.Pairwise.nil
  | cons x l ih => exact insD_srt ih
theorem tidy_iff {l : List Int} {x : Int} : x ∈ tidy l ↔ x ∈ l := by
  induction l with
  | nil => rfl
  | cons y l ih =>
    show x ∈ insD y (tidy l) ↔ _
    rw [insD_mem, ih, List.mem_cons]
theorem compact_srt {l : List Int} (h : l.Pairwise (· ≤ ·)) : (Lib.compact l).Pairwise (· < ·) := by
  unfold Lib.compact Lib.compactUpTo
  rw [List.pairwise_map]
  refine List.Pairwise.imp_of_mem ?_ (List.Pairwise.filter _ List.pairwise_lt_range)
  intro i j hi hj hij
  obtain ⟨hi1, _⟩ := List.mem_filter.1 hi
  obtain ⟨hj1, hj2⟩ := List.mem_filter.1 hj
  have hil := List.mem_range.1 hi1
  have hjl := List.mem_range.1 hj1
  have hk := of_decide_eq_true hj2
  have get : ∀ k (hk : k < l.length), l.toArray[k]! = l[k] := fun k hk => by simp [hk]
  rw [get i hil, get j hjl]
  rcases hk with h0 | h0
  · omega
  · rw [get j hjl, get (j - 1) (by omega)] at h0
    have h1 : l[j - 1] ≤ l[j] := List.pairwise_iff_getElem.1 h (j - 1) j (by omega) hjl (by omega)
    rcases Nat.lt_or_ge i (j - 1) with h2 | h2
    · have h3 : l[i] ≤ l[j - 1] := List.pairwise_iff_getElem.1 h i (j - 1) hil (by omega) h2
      omega
    · have : i = j - 1 := by omega
      subst this; omega
theorem compactUpTo_mem' (d : Array Int) : ∀ m j, j < m → d[j]! ∈ Lib.compactUpTo d m := by
  intro m
  induction m with
  | zero => intro j h; omega
  | succ m ih =>
    intro j h
    rw [Lib.compactUpTo_succ]
    by_cases hj : j = m
    · subst hj
      by_cases hk : Lib.keeps d j = true
      · exact List.mem_append_right _ (by rw [if_pos hk]; exact List.mem_singleton.2 rfl)
      · have hk' : Lib.keeps d j = false := by simpa using hk
        have : ¬ (j = 0 ∨ d[j]! ≠ d[j - 1]!) := of_decide_eq_false hk'
        have h0 : j ≠ 0 := fun e => this (Or.inl e)
        have h1 : d[j]! = d[j - 1]! := by
          apply Classical.byContradiction
          intro e; exact this (Or.inr e)
        rw [h1]
        exact List.mem_append_left _ (ih (j - 1) (by omega))
    · exact List.mem_append_left _ (ih j (by omega))
theorem compact_iff {l : List Int} {x : Int} : x ∈ Lib.compact l ↔ x ∈ l := by
  constructor
  · intro h
    unfold Lib.compact Lib.compactUpTo at h
    obtain ⟨j, hj, rfl⟩ := List.mem_map.1 h
    have := List.mem_range.1 (List.mem_filter.1 hj).1
    simp [this]
  · intro h
    obtain ⟨i, hi, rfl⟩ := List.getElem_of_mem h
    have := compactUpTo_mem' l.toArray l.length i hi
    have e : l.toArray[i]! = l[i] := by simp [hi]
    rw [e] at this
    exact this
/-- Two lists in order with the same numbers. -/
theorem srt_ext : ∀ {l m : List Int}, l.Pairwise (· < ·) → m.Pairwise (· < ·) → (∀ x, x ∈ l ↔ x ∈ m) → l = m
  | [], [], _, _, _ => rfl
  | [], y :: m, _, _, h => nomatch (h y).2 List.mem_cons_self
  | x :: l, [], _, _, h => nomatch (h x).1 List.mem_cons_self
  | x :: l, y :: m, hl, hm, h => by
    obtain ⟨l1, l2⟩ := List.pairwise_cons.1 hl
    obtain ⟨m1, m2⟩ := List.pairwise_cons.1 hm
    have hxy : x = y := by
      have h1 := List.mem_cons.1 ((h x).1 List.mem_cons_self)
      have h2 := List.mem_cons.1 ((h y).2 List.mem_cons_self)
      rcases h1 with h1 | h1
      · exact h1
      · rcases h2 with h2 | h2
        · exact h2.symm
        · have := m1 x h1; have := l1 y h2; omega
    subst hxy
    rw [srt_ext l2 m2 fun z => ⟨fun hz => ?_, fun hz => ?_⟩]
    · rcases List.mem_cons.1 ((h z).1 (List.mem_cons_of_mem _ hz)) with rfl | h3
      · have := l1 z hz; omega
      · exact h3
    · rcases List.mem_cons.1 ((h z).2 (List.mem_cons_of_mem _ hz)) with rfl | h3
      · have := m1 z hz; omega
      · exact h3
theorem tidy_eq (l : List Int) : tidy l = Lib.compact (l.mergeSort fun x y => decide (x ≤ y)) := by
  refine srt_ext (tidy_srt l) (compact_srt ?_) fun x => by rw [tidy_iff, compact_iff, List.mem_mergeSort]
  have := List.pairwise_mergeSort (le := fun x y : Int => decide (x ≤ y)) (fun a b c h1 h2 => by simp at *; omega) (fun a b => by simp; omega) l
  exact this.imp fun h => by simpa using h
end Go.Proofs.Ytcpmmkennnjalaa.Q
end
