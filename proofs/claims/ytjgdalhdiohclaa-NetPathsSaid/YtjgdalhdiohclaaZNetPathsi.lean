/- NetPaths returns true for every input of its row; no further conditions. (text 9 of 15) -/
import Derived.Test.YtjgdalhdiohclaaZNetPathsh
import Derived.Test.YtjgdalhdiohclaaZNetPathsg
import Derived.Test.YtjgdalhdiohclaaZNetPathsf
/-! Part MReach -/
section
namespace Go.Proofs.Ytjgdalhdiohclaa.Q
open Go.RowKit Go.Proofs.YtjgdalhdiohclaaW.PrintWords Go.Proofs.YtjgdalhdiohclaaW.PrintLast Go.Proofs.YtjgdalhdiohclaaW.PrintMore
set_option linter.unusedVariables false

/-! ### words and where they lead, over a step function f -/
/-- The state to which a word leads. -/
def run (f : Nat → Nat → Nat) : Nat → List Nat → Nat
  | s, [] => s
  | s, x :: w => run f (f s x) w
theorem run_app (f : Nat → Nat → Nat) : ∀ (v w : List Nat) s, run f s (v ++ w) = run f (run f s v) w
  | [], _, _ => rfl
  | _ :: v, w, s => run_app f v w _
theorem run_snoc (f : Nat → Nat → Nat) (v : List Nat) (x s : Nat) : run f s (v ++ [x]) = f (run f s v) x := run_app f v [x] s
/-- A word over m letters. -/
def Wd (m : Nat) (w : List Nat) : Prop := ∀ x ∈ w, x < m
theorem Wd.nil (m : Nat) : Wd m [] := fun _ h => nomatch h
theorem Wd.app {m : Nat} {v w : List Nat} (h : Wd m v) (k : Wd m w) : Wd m (v ++ w) := fun x hx => (List.mem_append.1 hx).elim (h x) (k x)
theorem Wd.one {m x : Nat} (h : x < m) : Wd m [x] := fun y hy => by rw [List.mem_singleton.1 hy]; exact h
theorem Wd.left {m : Nat} {v w : List Nat} (h : Wd m (v ++ w)) : Wd m v := fun x hx => h x (List.mem_append.2 (Or.inl hx))
theorem Wd.right {m : Nat} {v w : List Nat} (h : Wd m (v ++ w)) : Wd m w := fun x hx => h x (List.mem_append.2 (Or.inr hx))
/-- Some word leads from s to t. -/
def Conn (f : Nat → Nat → Nat) (m s t : Nat) : Prop := ∃ w, Wd m w ∧ run f s w = t
theorem Conn.refl (f : Nat → Nat → Nat) (m s : Nat) : Conn f m s s := ⟨[], Wd.nil m, rfl⟩
theorem Conn.trans {f : Nat → Nat → Nat} {m s t u : Nat} (h : Conn f m s t) (k : Conn f m t u) : Conn f m s u := by
  obtain ⟨v, h1, rfl⟩ := h; obtain ⟨w, h2, rfl⟩ := k
  exact ⟨v ++ w, h1.app h2, run_app f v w s⟩
theorem Conn.step {f : Nat → Nat → Nat} {m s x : Nat} (h : x < m) : Conn f m s (f s x) := ⟨[x], Wd.one h, rfl⟩
/-- What contains s and is closed contains what can be reached. -/
theorem Conn.closed {f : Nat → Nat → Nat} {m s t : Nat} {P : Nat → Prop} (h : Conn f m s t) (hs : P s) (hc : ∀ u x, P u → x < m → P (f u x)) : P t := by
  obtain ⟨w, hw, rfl⟩ := h
  induction w generalizing s with
  | nil => exact hs
  | cons x w ih => exact ih (hc s x hs (hw x List.mem_cons_self)) fun y hy => hw y (List.mem_cons_of_mem _ hy)
theorem VA.runLt {rows : List (List Int)} {n m : Nat} (V : VA rows n m) {s : Nat} (hs : s < n) {w : List Nat} (hw : Wd m w) : run (nx rows) s w < n := by
  induction w generalizing s with
  | nil => exact hs
  | cons x w ih => exact ih (V.nxLt hs (hw x List.mem_cons_self)) fun y hy => hw y (List.mem_cons_of_mem _ hy)
/-! ### the drawers -/
theorem nodup_le : ∀ (n : Nat) (l : List Nat), l.Nodup → (∀ x ∈ l, x < n) → l.length ≤ n
  | 0, l, _, h => by
    cases l with
    | nil => exact Nat.le_refl 0
    | cons x l => exact absurd (h x List.mem_cons_self) (Nat.not_lt_zero x)
  | n + 1, l, hd, h => by
    by_cases hn : n ∈ l
    · have h1 := nodup_le n (l.erase n) (hd.erase n) fun x hx => by
        have h2 := h x (List.mem_of_mem_erase hx)
        have h3 : x ≠ n := fun e => by subst e; exact hd.not_mem_erase hx
        omega
      rw [List.length_erase_of_mem hn] at h1; omega
    · have := nodup_le n l hd fun x hx => by
        have h2 := h x hx
        have h3 : x ≠ n := fun e => hn (e ▸ hx)
        omega
      omega
theorem drawers {n : Nat} (f : Nat → Nat) (h : ∀ i, i ≤ n → f i < n) : ∃ i j, i < j ∧ j ≤ n ∧ f i = f j := by
  refine Classical.byContradiction fun hc => ?_
  have hd : ((List.range (n + 1)).map f).Nodup := by
    rw [List.nodup_iff_pairwise_ne, List.pairwise_map]
    refine List.Pairwise.imp_of_mem (R := fun a b => a < b) ?_ List.pairwise_lt_range
    intro a b ha hb hab e
    exact hc ⟨a, b, hab, by have := List.mem_range.1 hb; omega, e⟩
  have := nodup_le n _ hd (by
    intro x hx
    obtain ⟨i, hi, rfl⟩ := List.mem_map.1 hx
    exact h i (by have := List.mem_range.1 hi; omega))
  rw [List.length_map, List.length_range] at this; omega
/-- Some word of fewer than n letters leads where a word leads. -/
theorem short_word {f : Nat → Nat → Nat} {n m : Nat} (hf : ∀ s x, s < n → x < m → f s x < n) : ∀ (d : Nat) (w : List Nat) (s : Nat), w.length ≤ d → s < n → Wd m w → ∃ v, Wd m v ∧ run f s v = run f s w ∧ v.length < n ∧ v.length ≤ w.length := by
  have rl : ∀ (w : List Nat) s, s < n → Wd m w → run f s w < n := by
    intro w
    induction w with
    | nil => intro s h _; exact h
    | cons x w ih => intro s h hw; exact ih _ (hf s x h (hw x List.mem_cons_self)) fun y hy => hw y (List.mem_cons_of_mem _ hy)
  intro d
  induction d with
  | zero => intro w s h hs hw; obtain rfl := List.eq_nil_of_length_eq_zero (by omega : w.length = 0); exact ⟨[], hw, rfl, by simp; omega, by simp⟩
  | succ d ih =>
    intro w s h hs hw
    by_cases hl : w.length < n
    · exact ⟨w, hw, rfl, hl, Nat.le_refl _⟩
    · have htk : ∀ i, Wd m (w.take i) := fun i x hx => hw x (List.mem_of_mem_take hx)
      have hdr : ∀ i, Wd m (w.drop i) := fun i x hx => hw x (List.mem_of_mem_drop hx)
      obtain ⟨i, j, hij, hj, e⟩ := drawers (n := n) (fun i => run f s (w.take i)) fun i _ => rl _ _ hs (htk i)
      obtain ⟨v, h1, h2, h3, h4⟩ := ih (w.take i ++ w.drop j) s (by rw [List.length_append, List.length_take, List.length_drop]; omega) hs ((htk i).app (hdr j))
      refine ⟨v, h1, h2.trans ?_, h3, by rw [List.length_append, List.length_take, List.length_drop] at h4; omega⟩
      rw [run_app, e, ← run_app, List.take_append_drop]

/-! ### lists of bools -/
/-- The list says which states have a property. -/
def Is (n : Nat) (l : List Bool) (P : Nat → Prop) : Prop := l.length = n ∧ ∀ t, t < n → (rdOf false l (t : Int) = true ↔ P t)
theorem Is.imp {n : Nat} {l : List Bool} {P P' : Nat → Prop} (h : Is n l P) (e : ∀ t, t < n → (P t ↔ P' t)) : Is n l P' := ⟨h.1, fun t ht => (h.2 t ht).trans (e t ht)⟩
theorem rdB_set {l : List Bool} {i j : Nat} {b : Bool} (hj : j < l.length) : rdOf false (l.set i b) (j : Int) = if i = j then b else rdOf false l (j : Int) := by
  rw [rdBE (by rw [List.length_set]; exact hj), rdBE hj, List.getElem_set]
theorem Is.set {n : Nat} {l : List Bool} {P : Nat → Prop} (h : Is n l P) {u : Nat} : Is n (l.set u true) (fun t => P t ∨ u = t) := by
  refine ⟨by rw [List.length_set]; exact h.1, fun t ht => ?_⟩
  rw [rdB_set (by rw [h.1]; exact ht)]
  by_cases e : u = t
  · simp [e]
  · simp [e, h.2 t ht]
theorem Is.none {n : Nat} : Is n (List.replicate n false) (fun _ => False) := by
  refine ⟨List.length_replicate, fun t ht => ?_⟩
  rw [rdBE (by rw [List.length_replicate]; exact ht), List.getElem_replicate]; simp
theorem ref_only {rows : List (List Int)} {n m s : Nat} (V : VA rows n m) (hs : s < n) : ∃ l, mizmazeref02_Only.f rows s = some l ∧ Is n l (fun t => s = t) := by
  have := V.len; have := V.n60
  refine ⟨(List.replicate n false).set s true, ?_, (Is.none.set).imp fun t _ => by simp⟩
  unfold mizmazeref02_Only.f
  rw [if_pos (by omega), if_pos (by omega), Option.bind_some, if_pos (by omega), if_pos (by rw [List.length_replicate]; omega), V.len]
  simp
theorem ref_step {rows : List (List Int)} {n m : Nat} (V : VA rows n m) {l : List Bool} {P : Nat → Prop} (hl : Is n l P) :
    ∃ l', Ev (fun k => mizmazeref02_Step.f k rows l) l' ∧ Is n l' (fun t => ∃ s, s < n ∧ P s ∧ ∃ x, x < m ∧ nx rows s x = t) := by
  have hlen := V.len; have h60 := V.n60; have h6 := V.m6; have hll := hl.1
  have key : ∀ (d s : Nat) (out : List Bool) (Q : Nat → Prop), s + d = n → Is n out Q → ∃ l', Ev (fun k => mizmazeref02_Step.l0 k l out (s : Int) rows) l' ∧ Is n l' (fun t => Q t ∨ ∃ u, s ≤ u ∧ u < n ∧ P u ∧ ∃ x, x < m ∧ nx rows u x = t) := by
    intro d
    induction d with
    | zero =>
      intro s out Q hs ho
      refine ⟨out, ?_, ho.imp fun t _ => ⟨Or.inl, fun h => h.elim id fun ⟨u, h1, h2, _⟩ => absurd h2 (by omega)⟩⟩
      refine Ev.next ?_
      simp only [mizmazeref02_Step.l0, if_neg (by omega : ¬ (s : Int) < (l.length : Int))]
      exact Ev.now _
    | succ d ih =>
      intro s out Q hs ho
      have hsn : s < n := by omega
      by_cases hp : P s
      · have inner : ∀ (e x : Nat) (out : List Bool) (Q : Nat → Prop), x + e = m → Is n out Q → ∃ l', Ev (fun k => mizmazeref02_Step.l1 k l out (s : Int) (x : Int) rows) l' ∧ Is n l' (fun t => (Q t ∨ ∃ y, x ≤ y ∧ y < m ∧ nx rows s y = t) ∨ ∃ u, s + 1 ≤ u ∧ u < n ∧ P u ∧ ∃ x, x < m ∧ nx rows u x = t) := by
          intro e
          induction e with
          | zero =>
            intro x out Q hx ho
            obtain ⟨l', h1, h2⟩ := ih (s + 1) out Q (by omega) ho
            refine ⟨l', ?_, h2.imp fun t _ => ⟨fun h => h.elim (fun h => Or.inl (Or.inl h)) Or.inr, fun h => h.elim (fun h => h.elim Or.inl fun ⟨y, h1, h2, _⟩ => absurd h2 (by omega)) Or.inr⟩⟩
            refine Ev.next ?_
            simp only [mizmazeref02_Step.l1, if_pos (by omega : (0 : Int) ≤ (s : Int)), if_pos (by omega : (s : Int) < (l.length : Int)), if_pos ((hl.2 s hsn).2 hp), V.letters, Option.bind_some, if_neg (by omega : ¬ (x : Int) < (m : Int)), wrapS (by omega : s + 1 ≤ 9223372036854775807)]
            exact h1
          | succ e ih2 =>
            intro x out Q hx ho
            obtain ⟨l', h1, h2⟩ := ih2 (x + 1) _ _ (by omega) (ho.set (u := nx rows s x))
            refine ⟨l', ?_, h2.imp fun t _ => ?_⟩
            · have hxm : x < m := by omega
              have h3 := V.row s hsn
              have h4 := V.nxLt hsn hxm
              refine Ev.next ?_
              simp only [mizmazeref02_Step.l1, if_pos (by omega : (0 : Int) ≤ (s : Int)), if_pos (by omega : (s : Int) < (l.length : Int)), if_pos ((hl.2 s hsn).2 hp), V.letters, Option.bind_some, if_pos (by omega : (x : Int) < (m : Int)), if_pos (by omega : (s : Int) < (rows.length : Int)), if_pos (by omega : (0 : Int) ≤ (x : Int)), if_pos (by omega : (x : Int) < ((rd_L1 rows (s : Int)).length : Int)), V.nxE hsn hxm, if_pos (by omega : (0 : Int) ≤ ((nx rows s x : Nat) : Int)), if_pos (by have := ho.1; omega : ((nx rows s x : Nat) : Int) < (out.length : Int)), Int.toNat_natCast, wrapS (by omega : x + 1 ≤ 9223372036854775807)]
              exact h1
            · constructor
              · rintro (((h | h) | ⟨y, h3, h4, h5⟩) | h)
                · exact Or.inl (Or.inl h)
                · exact Or.inl (Or.inr ⟨x, Nat.le_refl x, by omega, h⟩)
                · exact Or.inl (Or.inr ⟨y, by omega, h4, h5⟩)
                · exact Or.inr h
              · rintro ((h | ⟨y, h3, h4, h5⟩) | h)
                · exact Or.inl (Or.inl (Or.inl h))
                · by_cases hy : y = x
                  · subst hy; exact Or.inl (Or.inl (Or.inr h5))
                  · exact Or.inl (Or.inr ⟨y, by omega, h4, h5⟩)
                · exact Or.inr h
        obtain ⟨l', h1, h2⟩ := inner m 0 out Q (by omega) ho
        refine ⟨l', ?_, h2.imp fun t _ => ?_⟩
        · refine Ev.next ?_
          simp only [mizmazeref02_Step.l0, if_pos (by omega : (s : Int) < (l.length : Int))]
          exact h1
        · constructor
          · rintro ((h | ⟨y, _, h4, h5⟩) | ⟨u, h3, h4⟩)
            · exact Or.inl h
            · exact Or.inr ⟨s, Nat.le_refl s, hsn, hp, y, h4, h5⟩
            · exact Or.inr ⟨u, by omega, h4⟩
          · rintro (h | ⟨u, h3, h4, h5, x, h6, h7⟩)
            · exact Or.inl (Or.inl h)
            · by_cases hu : u = s
              · subst hu; exact Or.inl (Or.inr ⟨x, Nat.zero_le _, h6, h7⟩)
              · exact Or.inr ⟨u, by omega, h4, h5, x, h6, h7⟩
      · obtain ⟨l', h1, h2⟩ := ih (s + 1) out Q (by omega) ho
        refine ⟨l', ?_, h2.imp fun t _ => ⟨fun h => h.elim Or.inl fun ⟨u, h3, h4⟩ => Or.inr ⟨u, by omega, h4⟩, fun h => h.elim Or.inl fun ⟨u, h3, h4, h5, h6⟩ => Or.inr ⟨u, ?_, h4, h5, h6⟩⟩⟩
        · refine Ev.next ?_
          simp only [mizmazeref02_Step.l0, if_pos (by omega : (s : Int) < (l.length : Int))]
          refine Ev.next ?_
          simp only [mizmazeref02_Step.l1, if_pos (by omega : (0 : Int) ≤ (s : Int)), if_pos (by omega : (s : Int) < (l.length : Int)), if_neg (fun h => hp ((hl.2 s hsn).1 h)), wrapS (by omega : s + 1 ≤ 9223372036854775807)]
          exact h1
        · by_cases hu : u = s
          · subst hu; exact absurd h5 hp
          · omega
  obtain ⟨l', h1, h2⟩ := key n 0 _ _ (by omega) Is.none
  refine ⟨l', ?_, h2.imp fun t _ => ⟨fun h => h.elim False.elim fun ⟨u, _, h⟩ => ⟨u, h⟩, fun ⟨u, h⟩ => Or.inr ⟨u, Nat.zero_le u, h⟩⟩⟩
  unfold mizmazeref02_Step.f
  simp only [if_pos (by omega : (0 : Int) ≤ (l.length : Int)), Int.toNat_natCast, if_pos (by omega : l.length ≤ 281474976710656)]
  rw [hll]; exact h1
end Go.Proofs.Ytjgdalhdiohclaa.Q
end
/-! Part MReachb -/
section
namespace Go.Proofs.Ytjgdalhdiohclaa.Q
open Go.RowKit Go.Proofs.YtjgdalhdiohclaaW.PrintWords Go.Proofs.YtjgdalhdiohclaaW.PrintLast Go.Proofs.YtjgdalhdiohclaaW.PrintMore
set_option linter.unusedVariables false

theorem Is.put {n : Nat} {l : List Bool} {P : Nat → Prop} (h : Is n l P) {u : Nat} {b : Bool} : Is n (l.set u b) (fun t => if u = t then b = true else P t) := by
  refine ⟨by rw [List.length_set]; exact h.1, fun t ht => ?_⟩
  rw [rdB_set (by rw [h.1]; exact ht)]
  by_cases e : u = t
  · simp [e]
  · simp [e, h.2 t ht]
theorem ref_reach {rows : List (List Int)} {n m s : Nat} (V : VA rows n m) (hs : s < n) : ∃ l, Ev (fun k => mizmazeref02_Reach.f k rows (s : Int)) l ∧ Is n l (Conn (nx rows) m s) := by
  have hlen := V.len; have h60 := V.n60
  have key : ∀ (d j : Nat) (out : List Bool), j + d = n → Is n out (fun t => ∃ w, Wd m w ∧ w.length ≤ j ∧ run (nx rows) s w = t) → ∃ l, Ev (fun k => mizmazeref02_Reach.l0 k out (j : Int) rows) l ∧ Is n l (Conn (nx rows) m s) := by
    intro d
    induction d with
    | zero =>
      intro j out hj ho
      refine ⟨out, ?_, ho.imp fun t _ => ⟨fun ⟨w, h1, _, h2⟩ => ⟨w, h1, h2⟩, fun ⟨w, h1, h2⟩ => ?_⟩⟩
      · refine Ev.next ?_
        simp only [mizmazeref02_Reach.l0, if_neg (by omega : ¬ (j : Int) < (rows.length : Int))]
        exact Ev.now _
      · obtain ⟨v, h3, h4, h5, _⟩ := short_word (fun s x => V.nxLt) _ w s (Nat.le_refl _) hs h1
        exact ⟨v, h3, by omega, h4.trans h2⟩
    | succ d ih =>
      intro j out hj ho
      obtain ⟨more, hm, hmi⟩ := ref_step V ho
      have inner : ∀ (e i : Nat) (out : List Bool), i + e = n → Is n out (fun t => (∃ w, Wd m w ∧ w.length ≤ j ∧ run (nx rows) s w = t) ∨ t < i ∧ ∃ u, u < n ∧ (∃ w, Wd m w ∧ w.length ≤ j ∧ run (nx rows) s w = u) ∧ ∃ x, x < m ∧ nx rows u x = t) → ∃ l, Ev (fun k => mizmazeref02_Reach.l1 k out (j : Int) more (i : Int) rows) l ∧ Is n l (Conn (nx rows) m s) := by
        intro e
        induction e with
        | zero =>
          intro i out hi ho
          obtain ⟨l, h1, h2⟩ := ih (j + 1) out (by omega) (ho.imp fun t ht => by
              constructor
              · rintro (⟨w, h1, h2, h3⟩ | ⟨_, u, _, ⟨w, h1, h2, h3⟩, x, h4, h5⟩)
                · exact ⟨w, h1, by omega, h3⟩
                · exact ⟨w ++ [x], h1.app (Wd.one h4), by rw [List.length_append]; simp; omega, by rw [run_snoc, h3, h5]⟩
              · rintro ⟨w, h1, h2, h3⟩
                by_cases hw : w.length ≤ j
                · exact Or.inl ⟨w, h1, hw, h3⟩
                · refine Or.inr ⟨by omega, ?_⟩
                  have hne : w ≠ [] := fun h => by subst h; simp at hw
                  obtain ⟨v, x, rfl⟩ : ∃ v x, w = v ++ [x] := ⟨_, _, (List.dropLast_concat_getLast hne).symm⟩
                  rw [List.length_append] at h2; rw [run_snoc] at h3
                  exact ⟨run (nx rows) s v, V.runLt hs h1.left, ⟨v, h1.left, by simp at h2; omega, rfl⟩, x, h1.right x (by simp), h3⟩)
          refine ⟨l, ?_, h2⟩
          refine Ev.next ?_
          simp only [mizmazeref02_Reach.l1, if_neg (by have := ho.1; omega : ¬ (i : Int) < (out.length : Int)), wrapS (by omega : j + 1 ≤ 9223372036854775807)]
          exact h1
        | succ e ih2 =>
          intro i out hi ho
          have hin : i < n := by omega
          have h1 := hmi.2 i hin
          have h2 := ho.2 i hin
          cases hc : rdOf false out (i : Int) with
          | true =>
            obtain ⟨l, h3, h4⟩ := ih2 (i + 1) (out.set i true) (by omega) ((ho.put (u := i) (b := true)).imp fun t ht => by
                by_cases e : i = t
                · subst e
                  have h5 := h2.1 hc
                  simp only [if_true, true_iff]
                  rcases h5 with h | ⟨h, _⟩
                  · exact Or.inl h
                  · omega
                · rw [if_neg e]
                  constructor
                  · rintro (h | ⟨h, h6⟩)
                    · exact Or.inl h
                    · exact Or.inr ⟨by omega, h6⟩
                  · rintro (h | ⟨h, h6⟩)
                    · exact Or.inl h
                    · exact Or.inr ⟨by omega, h6⟩)
            refine ⟨l, ?_, h4⟩
            refine Ev.next ?_
            simp only [mizmazeref02_Reach.l1, if_pos (by have := ho.1; omega : (i : Int) < (out.length : Int)), if_pos (by omega : (0 : Int) ≤ (i : Int)), hc, if_true, Int.toNat_natCast, wrapS (by omega : i + 1 ≤ 9223372036854775807)]
            exact h3
          | false =>
            obtain ⟨l, h3, h4⟩ := ih2 (i + 1) (out.set i (rdOf false more (i : Int))) (by omega) ((ho.put (u := i) (b := rdOf false more (i : Int))).imp fun t ht => by
                by_cases e : i = t
                · subst e
                  rw [if_pos rfl, h1]
                  refine ⟨fun h => Or.inr ⟨by omega, h⟩, ?_⟩
                  rintro (h | ⟨_, h⟩)
                  · exact absurd (h2.2 (Or.inl h)) (by rw [hc]; simp)
                  · exact h
                · rw [if_neg e]
                  constructor
                  · rintro (h | ⟨h, h6⟩)
                    · exact Or.inl h
                    · exact Or.inr ⟨by omega, h6⟩
                  · rintro (h | ⟨h, h6⟩)
                    · exact Or.inl h
                    · exact Or.inr ⟨by omega, h6⟩)
            refine ⟨l, ?_, h4⟩
            refine Ev.next ?_
            simp only [mizmazeref02_Reach.l1, if_pos (by have := ho.1; omega : (i : Int) < (out.length : Int)), if_pos (by omega : (0 : Int) ≤ (i : Int)), hc, Bool.false_eq_true, if_false, if_pos (by have := hmi.1; omega : (i : Int) < (more.length : Int)), Int.toNat_natCast, wrapS (by omega : i + 1 ≤ 9223372036854775807)]
            exact h3
      obtain ⟨l, h1, h2⟩ := inner n 0 out (by omega) (ho.imp fun t _ => ⟨Or.inl, fun h => h.elim id fun h => absurd h.1 (by omega)⟩)
      refine ⟨l, ?_, h2⟩
      refine Ev.next ?_
      simp only [mizmazeref02_Reach.l0, if_pos (by omega : (j : Int) < (rows.length : Int))]
      exact Ev.bind hm h1
  obtain ⟨o, h1, h2⟩ := ref_only V hs
  obtain ⟨l, h3, h4⟩ := key n 0 o (by omega) (h2.imp fun t _ => ⟨fun h => ⟨[], Wd.nil m, Nat.le_refl 0, h⟩, fun ⟨w, _, h5, h6⟩ => by obtain rfl := List.eq_nil_of_length_eq_zero (by omega : w.length = 0); exact h6⟩)
  refine ⟨l, ?_, h4⟩
  unfold mizmazeref02_Reach.f
  simp only [h1, Option.bind_some]
  exact h3

/-- How many states are not met. -/
def left (l : List Bool) : Nat := l.count false
theorem left_set {l : List Bool} {u : Nat} (h : u < l.length) (hf : rdOf false l (u : Int) = false) : left (l.set u true) + 1 = left l := by
  induction l generalizing u with
  | nil => exact absurd h (by simp)
  | cons b l ih =>
    cases u with
    | zero =>
      have : b = false := hf
      subst this
      simp [left]
    | succ u =>
      have := ih (u := u) (by simpa using h) (by rw [rdBE (by simpa using h)]; rw [rdBE h] at hf; simpa using hf)
      simp only [left] at this
      cases b <;> simp [left] <;> omega
theorem net_reaches {rows : List (List Int)} {n m s : Nat} (V : VA rows n m) (hs : s < n) : ∃ l, Ev (fun k => net_reach.f k rows (s : Int)) l ∧ Is n l (Conn (nx rows) m s) := by
  have hlen := V.len; have h60 := V.n60; have h6 := V.m6
  have key : ∀ (d : Nat) (met : List Bool) (P : Nat → Prop) (s : Nat), s < n → left met ≤ d → Is n met P → ∃ l P', Ev (fun k => net_visit.f k rows met (s : Int)) l ∧ Is n l P' ∧ left l ≤ left met ∧ (∀ t, P t → P' t) ∧ P' s ∧ (∀ t, P' t → P t ∨ Conn (nx rows) m s t) ∧ (∀ t, P' t → P t ∨ ∀ x, x < m → P' (nx rows t x)) := by
    intro d
    induction d with
    | zero =>
      intro met P s hs hd hm
      have hh : rdOf false met (s : Int) = true := by
        cases h : rdOf false met (s : Int) with
        | true => rfl
        | false => have := left_set (by rw [hm.1]; exact hs) h; omega
      refine ⟨met, P, ?_, hm, Nat.le_refl _, fun _ h => h, (hm.2 s hs).1 hh, fun t h => Or.inl h, fun t h => Or.inl h⟩
      refine Ev.next ?_
      simp only [net_visit.f, if_pos (by omega : (0 : Int) ≤ (s : Int)), if_pos (by have := hm.1; omega : (s : Int) < (met.length : Int)), hh, if_true]
      exact Ev.now _
    | succ d ih =>
      intro met P s hs hd hm
      cases hh : rdOf false met (s : Int) with
      | true =>
        refine ⟨met, P, ?_, hm, Nat.le_refl _, fun _ h => h, (hm.2 s hs).1 hh, fun t h => Or.inl h, fun t h => Or.inl h⟩
        refine Ev.next ?_
        simp only [net_visit.f, if_pos (by omega : (0 : Int) ≤ (s : Int)), if_pos (by have := hm.1; omega : (s : Int) < (met.length : Int)), hh, if_true]
        exact Ev.now _
      | false =>
        have hcnt := left_set (by rw [hm.1]; exact hs) hh
        have hrow := V.row s hs
        have inner : ∀ (e x : Nat) (met1 : List Bool) (P1 : Nat → Prop), x + e = m → left met1 ≤ d → Is n met1 P1 → ∃ l P', Ev (fun k => net_visit.l0 k rows met1 (rd_L1 rows (s : Int)) (x : Int)) l ∧ Is n l P' ∧ left l ≤ left met1 ∧ (∀ t, P1 t → P' t) ∧ (∀ y, x ≤ y → y < m → P' (nx rows s y)) ∧ (∀ t, P' t → P1 t ∨ Conn (nx rows) m s t) ∧ (∀ t, P' t → P1 t ∨ ∀ x, x < m → P' (nx rows t x)) := by
          intro e
          induction e with
          | zero =>
            intro x met1 P1 hx hd1 hm1
            refine ⟨met1, P1, ?_, hm1, Nat.le_refl _, fun _ h => h, fun y h1 h2 => by omega, fun t h => Or.inl h, fun t h => Or.inl h⟩
            refine Ev.next ?_
            simp only [net_visit.l0, if_neg (by omega : ¬ (x : Int) < ((rd_L1 rows (s : Int)).length : Int))]
            exact Ev.now _
          | succ e ih2 =>
            intro x met1 P1 hx hd1 hm1
            have hxm : x < m := by omega
            obtain ⟨l1, P2, a1, a2, a3, a4, a5, a6, a7⟩ := ih met1 P1 (nx rows s x) (V.nxLt hs hxm) hd1 hm1
            obtain ⟨l2, P3, b1, b2, b3, b4, b5, b6, b7⟩ := ih2 (x + 1) l1 P2 (by omega) (by omega) a2
            refine ⟨l2, P3, ?_, b2, by omega, fun t h => b4 t (a4 t h), ?_, ?_, ?_⟩
            · refine Ev.next ?_
              simp only [net_visit.l0, if_pos (by omega : (x : Int) < ((rd_L1 rows (s : Int)).length : Int)), if_pos (by omega : (0 : Int) ≤ (x : Int)), V.nxE hs hxm, wrapS (by omega : x + 1 ≤ 9223372036854775807)]
              exact Ev.bind a1 b1
            · intro y h1 h2
              by_cases hy : y = x
              · subst hy; exact b4 _ a5
              · exact b5 y (by omega) h2
            · intro t h
              rcases b6 t h with h | h
              · rcases a6 t h with h | h
                · exact Or.inl h
                · exact Or.inr ((Conn.step hxm).trans h)
              · exact Or.inr h
            · intro t h
              rcases b7 t h with h | h
              · rcases a7 t h with h | h
                · exact Or.inl h
                · exact Or.inr fun x hx => b4 _ (h x hx)
              · exact Or.inr h
        obtain ⟨l, P', a1, a2, a3, a4, a5, a6, a7⟩ := inner m 0 (met.set s true) _ (by omega) (by omega) (hm.set (u := s))
        refine ⟨l, P', ?_, a2, by omega, fun t h => a4 t (Or.inl h), a4 s (Or.inr rfl), ?_, ?_⟩
        · refine Ev.next ?_
          simp only [net_visit.f, if_pos (by omega : (0 : Int) ≤ (s : Int)), if_pos (by have := hm.1; omega : (s : Int) < (met.length : Int)), hh, Bool.false_eq_true, if_false, if_pos (by omega : (s : Int) < (rows.length : Int)), Int.toNat_natCast]
          exact a1
        · intro t h
          rcases a6 t h with (h | rfl) | h
          · exact Or.inl h
          · exact Or.inr (Conn.refl _ _ _)
          · exact Or.inr h
        · intro t h
          rcases a7 t h with (h | rfl) | h
          · exact Or.inl h
          · exact Or.inr fun x hx => a5 x (Nat.zero_le x) hx
          · exact Or.inr h
  obtain ⟨l, P', a1, a2, a3, a4, a5, a6, a7⟩ := key _ _ _ s hs (Nat.le_refl _) (Is.none (n := n))
  refine ⟨l, ?_, a2.imp fun t ht => ⟨fun h => (a6 t h).elim False.elim id, fun h => h.closed (P := P') a5 fun u x hu hx => (a7 u hu).elim False.elim fun h => h x hx⟩⟩
  unfold net_reach.f
  simp only [if_pos (by omega : rows.length ≤ 281474976710656)]
  rw [hlen]
  exact a1
theorem ref_full {n : Nat} {l : List Bool} {P : Nat → Prop} (h : Is n l P) (hn : n ≤ 1000000) : ∃ b, Ev (fun k => mizmazeref02_Full.f k l) b ∧ (b = true ↔ ∀ t, t < n → P t) := by
  have hl := h.1
  by_cases hc : ∀ t, t < n → P t
  · refine ⟨true, ?_, by simp only [true_iff]; exact hc⟩
    refine @Ev.every Bool (fun k i => mizmazeref02_Full.l0 k l (i : Int)) n true false true (fun _ => true) (fun _ => rfl) (fun _ _ h => nomatch h) (fun i hi _ hr => ?_) (fun _ _ h => nomatch h) ?_
    · refine Ev.next ?_
      simp only [mizmazeref02_Full.l0, if_pos (by omega : (i : Int) < (l.length : Int)), if_pos (by omega : (0 : Int) ≤ (i : Int)), (h.2 i hi).2 (hc i hi), if_true, wrapS (by omega : i + 1 ≤ 9223372036854775807)]
      exact hr
    · refine Ev.next ?_
      simp only [mizmazeref02_Full.l0, if_neg (by omega : ¬ (n : Int) < (l.length : Int))]
      exact Ev.now _
  · refine ⟨false, ?_, by simp only [Bool.false_eq_true, false_iff]; exact hc⟩
    refine @Ev.every Bool (fun k i => mizmazeref02_Full.l0 k l (i : Int)) n true false false (fun i => rdOf false l (i : Int)) (fun h2 => absurd (fun t ht => (h.2 t ht).1 (h2 t ht)) hc) (fun _ _ _ => rfl) (fun i hi hp hr => ?_) (fun i hi hp => ?_) ?_
    · refine Ev.next ?_
      simp only [mizmazeref02_Full.l0, if_pos (by omega : (i : Int) < (l.length : Int)), if_pos (by omega : (0 : Int) ≤ (i : Int)), hp, if_true, wrapS (by omega : i + 1 ≤ 9223372036854775807)]
      exact hr
    · refine Ev.next ?_
      simp only [mizmazeref02_Full.l0, if_pos (by omega : (i : Int) < (l.length : Int)), if_pos (by omega : (0 : Int) ≤ (i : Int)), hp, Bool.false_eq_true, if_false]
      exact Ev.now _
    · refine Ev.next ?_
      simp only [mizmazeref02_Full.l0, if_neg (by omega : ¬ (n : Int) < (l.length : Int))]
      exact Ev.now _
end Go.Proofs.Ytjgdalhdiohclaa.Q
end
/-! Part MConn -/
section
namespace Go.Proofs.Ytjgdalhdiohclaa.Q
open Go.RowKit Go.Proofs.YtjgdalhdiohclaaW.PrintWords Go.Proofs.YtjgdalhdiohclaaW.PrintLast Go.Proofs.YtjgdalhdiohclaaW.PrintMore
set_option linter.unusedVariables false
/-- Strongly connected. -/
def SC (f : Nat → Nat → Nat) (n m : Nat) : Prop := ∀ s, s < n → ∀ t, t < n → Conn f m s t
theorem ref_connected {rows : List (List Int)} {n m : Nat} (V : VA rows n m) : ∃ b, Ev (fun k => mizmazeref02_Connected.f k rows) b ∧ (b = true ↔ SC (nx rows) n m) := by
  have hlen := V.len; have h60 := V.n60
  have hall : ∀ s, s < n → ∃ b l, Ev (fun k => mizmazeref02_Reach.f k rows (s : Int)) l ∧ Ev (fun k => mizmazeref02_Full.f k l) b ∧ (b = true ↔ ∀ t, t < n → Conn (nx rows) m s t) := fun s hs => by
    obtain ⟨l, h1, h2⟩ := ref_reach V hs
    obtain ⟨b, h3, h4⟩ := ref_full h2 (by omega)
    exact ⟨b, l, h1, h3, h4⟩
  have main : ∀ r : Bool, (r = true ↔ SC (nx rows) n m) → Ev (fun k => mizmazeref02_Connected.l0 k 0 rows) r := by
    intro r hr
    refine @Ev.every Bool (fun k i => mizmazeref02_Connected.l0 k (i : Int) rows) n true false r (fun s => @decide (∀ t, t < n → Conn (nx rows) m s t) (Classical.propDecidable _)) ?_ ?_ ?_ ?_ ?_
    · intro h; exact hr.2 fun s hs t ht => (@of_decide_eq_true _ (Classical.propDecidable _) (h s hs)) t ht
    · intro s hs h; rw [Bool.eq_false_iff]; intro h2; exact (@of_decide_eq_false _ (Classical.propDecidable _) h) (hr.1 h2 s hs)
    · intro s hs hp h
      obtain ⟨b, l, h1, h2, h3⟩ := hall s hs
      obtain rfl := h3.2 (@of_decide_eq_true _ (Classical.propDecidable _) hp)
      refine Ev.next ?_
      simp only [mizmazeref02_Connected.l0, if_pos (by omega : (s : Int) < (rows.length : Int)), wrapS (by omega : s + 1 ≤ 9223372036854775807)]
      refine Ev.bind h1 (Ev.bind h2 ?_)
      simp only [if_true]; exact h
    · intro s hs hp
      obtain ⟨b, l, h1, h2, h3⟩ := hall s hs
      obtain rfl : b = false := by rw [Bool.eq_false_iff]; exact fun h => (@of_decide_eq_false _ (Classical.propDecidable _) hp) (h3.1 h)
      refine Ev.next ?_
      simp only [mizmazeref02_Connected.l0, if_pos (by omega : (s : Int) < (rows.length : Int))]
      refine Ev.bind h1 (Ev.bind h2 ?_)
      simp only [Bool.false_eq_true, if_false]; exact Ev.now _
    · refine Ev.next ?_
      simp only [mizmazeref02_Connected.l0, if_neg (by omega : ¬ (n : Int) < (rows.length : Int))]
      exact Ev.now _
  exact ⟨@decide (SC (nx rows) n m) (Classical.propDecidable _), main _ (@decide_eq_true_iff _ (Classical.propDecidable _)), @decide_eq_true_iff _ (Classical.propDecidable _)⟩
theorem slices_contains_false {n : Nat} {l : List Bool} {P : Nat → Prop} (h : Is n l P) (hn : n ≤ 1000000) : ∃ b, Ev (fun k => slices_Contains_bool_bool.f k l false) b ∧ (b = false ↔ ∀ t, t < n → P t) := by
  have hl := h.1
  have key : ∀ d i : Nat, i + d = n → ∃ z : Int, Ev (fun k => slices_Index_bool_bool.l0 k l false (l.length : Int) (i : Int)) z ∧ (z < 0 ↔ ∀ t, i ≤ t → t < n → P t) := by
    intro d
    induction d with
    | zero =>
      intro i hi
      refine ⟨-1, ?_, by simp; intro t h1 h2; omega⟩
      refine Ev.next ?_
      simp only [slices_Index_bool_bool.l0, if_neg (by omega : ¬ (i : Int) < (l.length : Int))]
      exact Ev.now _
    | succ d ih =>
      intro i hi
      have hin : i < n := by omega
      cases hc : rdOf false l (i : Int) with
      | false =>
        refine ⟨(i : Int), ?_, ⟨fun h => by omega, fun h2 => ?_⟩⟩
        · refine Ev.next ?_
          simp only [slices_Index_bool_bool.l0, if_pos (by omega : (i : Int) < (l.length : Int)), if_pos (by omega : (0 : Int) ≤ (i : Int)), hc, BEq.rfl, if_true]
          exact Ev.now _
        · have := (h.2 i hin).2 (h2 i (Nat.le_refl i) hin); rw [hc] at this; simp at this
      | true =>
        obtain ⟨z, h1, h2⟩ := ih (i + 1) (by omega)
        refine ⟨z, ?_, h2.trans ⟨fun h3 t h4 h5 => ?_, fun h3 t h4 h5 => h3 t (by omega) h5⟩⟩
        · refine Ev.next ?_
          simp only [slices_Index_bool_bool.l0, if_pos (by omega : (i : Int) < (l.length : Int)), if_pos (by omega : (0 : Int) ≤ (i : Int)), hc, (by decide : (false == true) = false), Bool.false_eq_true, if_false, wrapS (by omega : i + 1 ≤ 9223372036854775807)]
          exact h1
        · by_cases e : t = i
          · subst e; exact (h.2 t h5).1 hc
          · exact h3 t (by omega) h5
  obtain ⟨z, h1, h2⟩ := key n 0 (by omega)
  refine ⟨decide (z ≥ 0), ?_, ?_⟩
  · unfold slices_Contains_bool_bool.f
    refine Ev.bind (a := z) ?_ (Ev.now _)
    unfold slices_Index_bool_bool.f; exact h1
  · rw [decide_eq_false_iff_not]
    exact ⟨fun h3 t ht => h2.1 (by omega) t (Nat.zero_le t) ht, fun h3 => by have := h2.2 fun t _ ht => h3 t ht; omega⟩
theorem net_connects {rows : List (List Int)} {n m : Nat} (V : VA rows n m) {r : Bool} (hr : r = true ↔ SC (nx rows) n m) : Ev (fun k => net_connected.f k rows) r := by
  have hlen := V.len; have h60 := V.n60
  have hall : ∀ s, s < n → ∃ b l, Ev (fun k => net_reach.f k rows (s : Int)) l ∧ Ev (fun k => slices_Contains_bool_bool.f k l false) b ∧ (b = false ↔ ∀ t, t < n → Conn (nx rows) m s t) := fun s hs => by
    obtain ⟨l, h1, h2⟩ := net_reaches V hs
    obtain ⟨b, h3, h4⟩ := slices_contains_false h2 (by omega)
    exact ⟨b, l, h1, h3, h4⟩
  unfold net_connected.f
  rw [hlen]
  refine @Ev.every Bool (fun k i => net_connected.l0 k (n : Int) (i : Int) rows) n true false r (fun s => @decide (∀ t, t < n → Conn (nx rows) m s t) (Classical.propDecidable _)) ?_ ?_ ?_ ?_ ?_
  · intro h; exact hr.2 fun s hs t ht => (@of_decide_eq_true _ (Classical.propDecidable _) (h s hs)) t ht
  · intro s hs h; rw [Bool.eq_false_iff]; intro h2; exact (@of_decide_eq_false _ (Classical.propDecidable _) h) (hr.1 h2 s hs)
  · intro s hs hp h
    obtain ⟨b, l, h1, h2, h3⟩ := hall s hs
    obtain rfl := h3.2 (@of_decide_eq_true _ (Classical.propDecidable _) hp)
    refine Ev.next ?_
    simp only [net_connected.l0, if_pos (by omega : (s : Int) < (n : Int)), wrapS (by omega : s + 1 ≤ 9223372036854775807)]
    refine Ev.bind h1 (Ev.bind h2 ?_)
    simp only [Bool.false_eq_true, if_false]; exact h
  · intro s hs hp
    obtain ⟨b, l, h1, h2, h3⟩ := hall s hs
    obtain rfl : b = true := by
      cases hb : b with
      | true => rfl
      | false => exact absurd (h3.1 hb) (@of_decide_eq_false _ (Classical.propDecidable _) hp)
    refine Ev.next ?_
    simp only [net_connected.l0, if_pos (by omega : (s : Int) < (n : Int))]
    refine Ev.bind h1 (Ev.bind h2 ?_)
    simp only [if_true]; exact Ev.now _
  · refine Ev.next ?_
    simp only [net_connected.l0, if_neg (by omega : ¬ (n : Int) < (n : Int))]
    exact Ev.now _
end Go.Proofs.Ytjgdalhdiohclaa.Q
end
/-! Part MCode -/
section
namespace Go.Proofs.Ytjgdalhdiohclaa.Q
set_option linter.unusedVariables false
/-! ### words in order: the shorter one first, then by letters -/
/-- The number of a word in this order. -/
def code (m : Nat) (w : List Nat) : Nat := w.foldl (fun a x => m * a + (x + 1)) 0
theorem code_nil (m : Nat) : code m [] = 0 := rfl
theorem code_snoc (m : Nat) (w : List Nat) (x : Nat) : code m (w ++ [x]) = m * code m w + (x + 1) := by
  unfold code; rw [List.foldl_append]; rfl
theorem snoc_ind {P : List Nat → Prop} (h0 : P []) (h1 : ∀ v x, P v → P (v ++ [x])) (w : List Nat) : P w := by
  have : ∀ n (w : List Nat), w.length = n → P w := by
    intro n
    induction n with
    | zero => intro w h; rw [List.eq_nil_of_length_eq_zero h]; exact h0
    | succ n ih =>
      intro w h
      have hne : w ≠ [] := fun e => by subst e; simp at h
      rw [← List.dropLast_concat_getLast hne]
      exact h1 _ _ (ih _ (by rw [List.length_dropLast]; omega))
  exact this _ w rfl
theorem digits_inj {m a b x y : Nat} (hx : x < m) (hy : y < m) (h : m * a + (x + 1) = m * b + (y + 1)) : a = b ∧ x = y := by
  have key : ∀ a b x y : Nat, x < m → a < b → m * a + (x + 1) = m * b + (y + 1) → False := fun a b x y hx hab h => by
    have := Nat.mul_le_mul_left m (Nat.succ_le_of_lt hab)
    rw [Nat.mul_succ] at this; omega
  rcases Nat.lt_trichotomy a b with h1 | h1 | h1
  · exact (key a b x y hx h1 h).elim
  · subst h1; omega
  · exact (key b a y x hy h1 h.symm).elim
theorem code_inj {m : Nat} : ∀ (v w : List Nat), Wd m v → Wd m w → code m v = code m w → v = w := by
  intro v
  induction v using snoc_ind with
  | h0 =>
    intro w _ hw h
    induction w using snoc_ind with
    | h0 => rfl
    | h1 w x _ => rw [code_snoc, code_nil] at h; omega
  | h1 v x ih =>
    intro w hv hw h
    induction w using snoc_ind with
    | h0 => rw [code_snoc, code_nil] at h; omega
    | h1 w y _ =>
      rw [code_snoc, code_snoc] at h
      obtain ⟨h1, rfl⟩ := digits_inj (hv.right x (by simp)) (hw.right y (by simp)) h
      rw [ih w hv.left hw.left h1]
/-- The number of the first word of k letters. -/
def lo (m : Nat) : Nat → Nat
  | 0 => 0
  | k + 1 => m * lo m k + 1
theorem lo_pow (m : Nat) : ∀ k, lo m (k + 1) = lo m k + m ^ k
  | 0 => by simp [lo]
  | k + 1 => by
    have := lo_pow m k
    show m * lo m (k + 1) + 1 = (m * lo m k + 1) + m ^ (k + 1)
    rw [this, Nat.mul_add, Nat.pow_succ, Nat.mul_comm m (m ^ k)]; omega
theorem code_lo {m : Nat} (w : List Nat) (h : Wd m w) : lo m w.length ≤ code m w ∧ code m w + 1 ≤ lo m (w.length + 1) := by
  induction w using snoc_ind with
  | h0 => simp [lo, code_nil]
  | h1 w x ih =>
    obtain ⟨h1, h2⟩ := ih h.left
    have hx := h.right x (by simp)
    rw [code_snoc, List.length_append, List.length_singleton]
    have a := Nat.mul_le_mul_left m h1; have b := Nat.mul_le_mul_left m h2
    rw [Nat.mul_add] at b
    show m * lo m w.length + 1 ≤ _ ∧ _ ≤ m * lo m (w.length + 1) + 1
    omega
theorem lo_mono {m : Nat} (hm : 0 < m) {j k : Nat} (h : j ≤ k) : lo m j ≤ lo m k := by
  induction k with
  | zero => rw [Nat.le_zero.1 h]; exact Nat.le_refl _
  | succ k ih =>
    rcases Nat.lt_or_ge k j with h1 | h1
    · rw [Nat.le_antisymm h h1]; exact Nat.le_refl _
    · have := ih h1; rw [lo_pow]; omega
theorem code_len {m : Nat} (hm : 0 < m) {v w : List Nat} (hv : Wd m v) (hw : Wd m w) (h : v.length < w.length) : code m v < code m w := by
  have := code_lo v hv; have := code_lo w hw; have := lo_mono hm (j := v.length + 1) (k := w.length) h; omega
theorem code_cons (m x : Nat) (w : List Nat) : code m (x :: w) = (x + 1) * m ^ w.length + code m w := by
  induction w using snoc_ind with
  | h0 => simp [code]
  | h1 w y ih =>
    rw [← List.cons_append, code_snoc, ih, code_snoc, List.length_append, List.length_singleton, Nat.pow_succ, Nat.mul_add, Nat.mul_left_comm, Nat.mul_comm m (m ^ w.length)]; omega
theorem code_head {m x y : Nat} {v w : List Nat} (hv : Wd m v) (hw : Wd m w) (h : v.length = w.length) (hxy : x < y) : code m (x :: v) < code m (y :: w) := by
  have h1 := code_lo v hv; have h2 := code_lo w hw
  rw [code_cons, code_cons, h]
  rw [h, lo_pow] at h1
  have := Nat.mul_le_mul_right (m ^ w.length) (Nat.succ_le_of_lt hxy)
  rw [Nat.succ_eq_add_one, Nat.add_mul] at this
  rw [Nat.add_mul, Nat.add_mul]; omega
/-- The first shortest word that leads from s to t. -/
structure Least (f : Nat → Nat → Nat) (m s t : Nat) (w : List Nat) : Prop where
  wd : Wd m w
  ends : run f s w = t
  le : ∀ v, Wd m v → run f s v = t → code m w ≤ code m v
theorem Least.uniq {f : Nat → Nat → Nat} {m s t : Nat} {v w : List Nat} (h : Least f m s t v) (k : Least f m s t w) : v = w :=
  code_inj v w h.wd k.wd (Nat.le_antisymm (h.le w k.wd k.ends) (k.le v h.wd h.ends))
/-- A word as the program has it. -/
def toI (w : List Nat) : List Int := w.map fun (x : Nat) => (x : Int)
theorem toI_snoc (w : List Nat) (x : Nat) : toI (w ++ [x]) = toI w ++ [(x : Int)] := by simp [toI]
theorem toI_len (w : List Nat) : (toI w).length = w.length := by simp [toI]
end Go.Proofs.Ytjgdalhdiohclaa.Q
end
/-! Part MRefPath -/
section
namespace Go.Proofs.Ytjgdalhdiohclaa.Q
open Go.RowKit Go.Proofs.YtjgdalhdiohclaaW.PrintWords Go.Proofs.YtjgdalhdiohclaaW.PrintLast Go.Proofs.YtjgdalhdiohclaaW.PrintMore
set_option linter.unusedVariables false
/-- The length of the shortest words that lead from s to t. -/
def Dist (f : Nat → Nat → Nat) (m t s d : Nat) : Prop := (∃ w, Wd m w ∧ w.length = d ∧ run f s w = t) ∧ ∀ w, Wd m w → run f s w = t → d ≤ w.length
theorem Dist.uniq {f : Nat → Nat → Nat} {m t s d e : Nat} (h : Dist f m t s d) (k : Dist f m t s e) : d = e := by
  obtain ⟨⟨v, h1, h2, h3⟩, h4⟩ := h; obtain ⟨⟨w, k1, k2, k3⟩, k4⟩ := k
  have := h4 w k1 k3; have := k4 v h1 h3; omega
theorem Wd.tail {m x : Nat} {w : List Nat} (h : Wd m (x :: w)) : Wd m w := fun y hy => h y (List.mem_cons_of_mem _ hy)
theorem Wd.head {m x : Nat} {w : List Nat} (h : Wd m (x :: w)) : x < m := h x List.mem_cons_self
theorem Wd.cons {m x : Nat} {w : List Nat} (hx : x < m) (h : Wd m w) : Wd m (x :: w) := fun y hy => by
  rcases List.mem_cons.1 hy with rfl | h1
  · exact hx
  · exact h y h1
/-- A letter of a shortest word leads one nearer. -/
theorem Dist.near {f : Nat → Nat → Nat} {m t s d x : Nat} {w : List Nat} (h : ∀ w, Wd m w → run f s w = t → d + 1 ≤ w.length) (hw : Wd m (x :: w)) (hl : w.length = d) (hr : run f s (x :: w) = t) : Dist f m t (f s x) d :=
  ⟨⟨w, hw.tail, hl, hr⟩, fun v hv hvr => by have := h (x :: v) (Wd.cons hw.head hv) hvr; simp at this; omega⟩
/-- What the list of lengths says of a state after some rounds. -/
def LenSays (f : Nat → Nat → Nat) (m t : Nat) (out : List Int) (k u : Nat) : Prop :=
  (rd out (u : Int) = -1 ∧ ∀ w, Wd m w → run f u w = t → k ≤ w.length) ∨ ∃ d : Nat, rd out (u : Int) = (d : Int) ∧ d < k ∧ Dist f m t u d
theorem LenSays.test {f : Nat → Nat → Nat} {m t : Nat} {out : List Int} {k j u : Nat} (h : LenSays f m t out k u) (hj : j < k) : rd out (u : Int) = (j : Int) ↔ Dist f m t u j := by
  rcases h with ⟨h1, h2⟩ | ⟨d, h1, h2, h3⟩
  · rw [h1]
    refine ⟨fun h => by omega, fun ⟨⟨w, h3, h4, h5⟩, _⟩ => ?_⟩
    have := h2 w h3 h5; omega
  · rw [h1]
    refine ⟨fun h => ?_, fun h => ?_⟩
    · obtain rfl : d = j := by omega
      exact h3
    · rw [h3.uniq h]
theorem rdI_set {l : List Int} {i j : Nat} {v : Int} (hj : j < l.length) : rd (l.set i v) (j : Int) = if i = j then v else rd l (j : Int) := by
  rw [rdE (by rw [List.length_set]; exact hj), rdE hj, List.getElem_set]
theorem ref_lengths {rows : List (List Int)} {n m t : Nat} (V : VA rows n m) (ht : t < n) : ∃ out, Ev (fun k => mizmazeref02_Lengths.f k rows (t : Int)) out ∧ out.length = n ∧ ∀ s, s < n → (rd out (s : Int) = -1 ∧ ¬ Conn (nx rows) m s t) ∨ ∃ d : Nat, rd out (s : Int) = (d : Int) ∧ d < n ∧ Dist (nx rows) m t s d := by
  have hlen := V.len; have h60 := V.n60; have h6 := V.m6; have hn0 := V.n0
  -- the rounds
  have rounds : ∀ (g j : Nat) (out : List Int), j + g = n → 1 ≤ j → out.length = n → (∀ u, u < n → LenSays (nx rows) m t out j u) → ∃ r, Ev (fun k => mizmazeref02_Lengths.l1 k out (j : Int) rows) r ∧ r.length = n ∧ ∀ u, u < n → LenSays (nx rows) m t r n u := by
    intro g
    induction g with
    | zero =>
      intro j out hj h1 ho hL
      obtain rfl : j = n := by omega
      refine ⟨out, ?_, ho, hL⟩
      refine Ev.next ?_
      simp only [mizmazeref02_Lengths.l1, if_neg (by omega : ¬ (j : Int) < (rows.length : Int))]
      exact Ev.now _
    | succ g ih =>
      intro j out hj h1 ho hL
      have states : ∀ (e s : Nat) (out : List Int), s + e = n → out.length = n → (∀ u, u < n → LenSays (nx rows) m t out (if u < s then j + 1 else j) u) → ∃ r, Ev (fun k => mizmazeref02_Lengths.l2 k out (j : Int) (s : Int) rows) r ∧ r.length = n ∧ ∀ u, u < n → LenSays (nx rows) m t r n u := by
        intro e
        induction e with
        | zero =>
          intro s out hs ho hL
          obtain ⟨r, h2, h3⟩ := ih (j + 1) out (by omega) (by omega) ho fun u hu => by have := hL u hu; rwa [if_pos (by omega)] at this
          refine ⟨r, ?_, h3⟩
          refine Ev.next ?_
          simp only [mizmazeref02_Lengths.l2, if_neg (by omega : ¬ (s : Int) < (out.length : Int)), wrapS (by omega : j + 1 ≤ 9223372036854775807)]
          exact h2
        | succ e ih2 =>
          intro s out hs ho hL
          have hsn : s < n := by omega
          have hstate := hL s hsn
          rw [if_neg (by omega)] at hstate
          have go : ∀ out' : List Int, out'.length = n → (∀ u, u < n → u ≠ s → rd out' (u : Int) = rd out (u : Int)) → LenSays (nx rows) m t out' (j + 1) s → ∃ r, Ev (fun k => mizmazeref02_Lengths.l2 k out' (j : Int) ((s + 1 : Nat) : Int) rows) r ∧ r.length = n ∧ ∀ u, u < n → LenSays (nx rows) m t r n u := by
            intro out' ho' hsame hnew
            refine ih2 (s + 1) out' (by omega) ho' fun u hu => ?_
            by_cases h : u = s
            · subst h; rw [if_pos (by omega)]; exact hnew
            · have h2 := hL u hu
              have e : (if u < s + 1 then j + 1 else j) = (if u < s then j + 1 else j) := by
                by_cases h3 : u < s
                · rw [if_pos h3, if_pos (by omega)]
                · rw [if_neg h3, if_neg (by omega)]
              rw [e]; unfold LenSays at h2 ⊢; rw [hsame u hu h]; exact h2
          -- once the state has a number, the letters are left
          have leave : ∀ (out' : List Int) (x : Nat), out'.length = n → 0 ≤ rd out' (s : Int) → (∃ r, Ev (fun k => mizmazeref02_Lengths.l2 k out' (j : Int) ((s + 1 : Nat) : Int) rows) r ∧ r.length = n ∧ ∀ u, u < n → LenSays (nx rows) m t r n u) → ∃ r, Ev (fun k => mizmazeref02_Lengths.l3 k out' (j : Int) (s : Int) (x : Int) rows) r ∧ r.length = n ∧ ∀ u, u < n → LenSays (nx rows) m t r n u := by
            intro out' x ho' hz ⟨r, h2, h3⟩
            refine ⟨r, ?_, h3⟩
            refine Ev.next ?_
            simp only [mizmazeref02_Lengths.l3, if_pos (by omega : (0 : Int) ≤ (s : Int)), if_pos (by omega : (s : Int) < (out'.length : Int)), if_neg (by omega : ¬ rd out' (s : Int) < 0)]
            refine Ev.next ?_
            simp only [mizmazeref02_Lengths.j4, Bool.false_eq_true, if_false, wrapS (by omega : s + 1 ≤ 9223372036854775807)]
            exact h2
          have start : ∃ r, Ev (fun k => mizmazeref02_Lengths.l3 k out (j : Int) (s : Int) ((0 : Nat) : Int) rows) r ∧ r.length = n ∧ ∀ u, u < n → LenSays (nx rows) m t r n u := by
            rcases hstate with ⟨hm1, hfar⟩ | ⟨d, hd1, hd2, hd3⟩
            · have letters : ∀ (p x : Nat), x + p = m → (∀ y, y < x → ¬ Dist (nx rows) m t (nx rows s y) (j - 1)) → ∃ r, Ev (fun k => mizmazeref02_Lengths.l3 k out (j : Int) (s : Int) (x : Int) rows) r ∧ r.length = n ∧ ∀ u, u < n → LenSays (nx rows) m t r n u := by
                intro p
                induction p with
                | zero =>
                  intro x hx hno
                  obtain ⟨r, h2, h3⟩ := go out ho (fun _ _ _ => rfl) (Or.inl ⟨hm1, fun w hw hwr => by
                    have h4 := hfar w hw hwr
                    rcases Nat.lt_or_ge j w.length with h5 | h5
                    · omega
                    · cases w with
                      | nil => simp at h4; omega
                      | cons y w =>
                        have hl : w.length = j - 1 := by simp at h4 h5; omega
                        exact absurd (Dist.near (d := j - 1) (fun v hv hvr => by have := hfar v hv hvr; omega) hw hl hwr) (hno y (by have := hw.head; omega))⟩)
                  refine ⟨r, ?_, h3⟩
                  refine Ev.next ?_
                  simp only [mizmazeref02_Lengths.l3, if_pos (by omega : (0 : Int) ≤ (s : Int)), if_pos (by omega : (s : Int) < (out.length : Int)), if_pos (by omega : rd out (s : Int) < 0), V.letters, Option.bind_some, decide_eq_false (by omega : ¬ (x : Int) < (m : Int))]
                  refine Ev.next ?_
                  simp only [mizmazeref02_Lengths.j4, Bool.false_eq_true, if_false, wrapS (by omega : s + 1 ≤ 9223372036854775807)]
                  exact h2
                | succ p ih3 =>
                  intro x hx hno
                  have hxm : x < m := by omega
                  have hrow := V.row s hsn
                  have hu := V.nxLt hsn hxm
                  have hT : rd out ((nx rows s x : Nat) : Int) = ((j - 1 : Nat) : Int) ↔ Dist (nx rows) m t (nx rows s x) (j - 1) := (hL _ hu).test (by split <;> omega)
                  have hw1 : wrap64 ((j : Int) - 1) = ((j - 1 : Nat) : Int) := by unfold wrap64; omega
                  by_cases hd : Dist (nx rows) m t (nx rows s x) (j - 1)
                  · have hset : ∀ u, u < n → rd (out.set s (j : Int)) (u : Int) = if s = u then (j : Int) else rd out (u : Int) := fun u hu => rdI_set (by omega)
                    obtain ⟨r, h2, h3⟩ := leave (out.set s (j : Int)) (x + 1) (by rw [List.length_set]; exact ho) (by rw [hset s hsn, if_pos rfl]; omega) (go _ (by rw [List.length_set]; exact ho) (fun u hu h => by rw [hset u hu, if_neg (fun e => h e.symm)]) (Or.inr ⟨j, by rw [hset s hsn, if_pos rfl], by omega, by
                      obtain ⟨⟨w, a1, a2, a3⟩, _⟩ := hd
                      exact ⟨⟨x :: w, Wd.cons hxm a1, by simp; omega, a3⟩, hfar⟩⟩))
                    refine ⟨r, ?_, h3⟩
                    refine Ev.next ?_
                    simp only [mizmazeref02_Lengths.l3, if_pos (by omega : (0 : Int) ≤ (s : Int)), if_pos (by omega : (s : Int) < (out.length : Int)), if_pos (by omega : rd out (s : Int) < 0), V.letters, Option.bind_some, decide_eq_true (by omega : (x : Int) < (m : Int))]
                    refine Ev.next ?_
                    simp only [mizmazeref02_Lengths.j4, if_true, if_pos (by omega : (0 : Int) ≤ (s : Int)), if_pos (by omega : (s : Int) < (rows.length : Int)), if_pos (by omega : (0 : Int) ≤ (x : Int)), if_pos (by omega : (x : Int) < ((rd_L1 rows (s : Int)).length : Int)), V.nxE hsn hxm, if_pos (by omega : (0 : Int) ≤ ((nx rows s x : Nat) : Int)), if_pos (by omega : ((nx rows s x : Nat) : Int) < (out.length : Int)), hw1, if_pos (hT.2 hd), if_pos (by omega : (s : Int) < (out.length : Int)), Int.toNat_natCast, wrapS (by omega : x + 1 ≤ 9223372036854775807)]
                    exact h2
                  · obtain ⟨r, h2, h3⟩ := ih3 (x + 1) (by omega) fun y hy => by
                      by_cases h : y = x
                      · subst h; exact hd
                      · exact hno y (by omega)
                    refine ⟨r, ?_, h3⟩
                    refine Ev.next ?_
                    simp only [mizmazeref02_Lengths.l3, if_pos (by omega : (0 : Int) ≤ (s : Int)), if_pos (by omega : (s : Int) < (out.length : Int)), if_pos (by omega : rd out (s : Int) < 0), V.letters, Option.bind_some, decide_eq_true (by omega : (x : Int) < (m : Int))]
                    refine Ev.next ?_
                    simp only [mizmazeref02_Lengths.j4, if_true, if_pos (by omega : (0 : Int) ≤ (s : Int)), if_pos (by omega : (s : Int) < (rows.length : Int)), if_pos (by omega : (0 : Int) ≤ (x : Int)), if_pos (by omega : (x : Int) < ((rd_L1 rows (s : Int)).length : Int)), V.nxE hsn hxm, if_pos (by omega : (0 : Int) ≤ ((nx rows s x : Nat) : Int)), if_pos (by omega : ((nx rows s x : Nat) : Int) < (out.length : Int)), hw1, if_neg (fun h => hd (hT.1 h)), wrapS (by omega : x + 1 ≤ 9223372036854775807)]
                    exact h2
              exact letters m 0 (by omega) fun y hy => by omega
            · exact leave out 0 ho (by rw [hd1]; omega) (go out ho (fun _ _ _ => rfl) (Or.inr ⟨d, hd1, by omega, hd3⟩))
          obtain ⟨r, h2, h3⟩ := start
          refine ⟨r, ?_, h3⟩
          refine Ev.next ?_
          simp only [mizmazeref02_Lengths.l2, if_pos (by omega : (s : Int) < (out.length : Int))]
          exact h2
      obtain ⟨r, h2, h3⟩ := states n 0 out (by omega) ho fun u hu => by rw [if_neg (by omega)]; exact hL u hu
      refine ⟨r, ?_, h3⟩
      refine Ev.next ?_
      simp only [mizmazeref02_Lengths.l1, if_pos (by omega : (j : Int) < (rows.length : Int))]
      exact h2
  -- the first loop fills
  have fill : ∀ (g i : Nat) (out : List Int), i + g = n → out.length = n → (∀ u, u < i → rd out (u : Int) = -1) → ∃ r, Ev (fun k => mizmazeref02_Lengths.l0 k (t : Int) out (i : Int) rows) r ∧ r.length = n ∧ ∀ u, u < n → LenSays (nx rows) m t r n u := by
    intro g
    induction g with
    | zero =>
      intro i out hi ho hf
      have hset : ∀ u, u < n → rd (out.set t 0) (u : Int) = if t = u then 0 else rd out (u : Int) := fun u hu => rdI_set (by omega)
      obtain ⟨r, h2, h3⟩ := rounds (n - 1) 1 (out.set t 0) (by omega) (by omega) (by rw [List.length_set]; exact ho) fun u hu => by
        by_cases h : t = u
        · subst h; exact Or.inr ⟨0, by rw [hset t hu, if_pos rfl]; rfl, by omega, ⟨[], Wd.nil m, rfl, rfl⟩, fun _ _ _ => Nat.zero_le _⟩
        · refine Or.inl ⟨by rw [hset u hu, if_neg h]; exact hf u (by omega), fun w hw hwr => ?_⟩
          cases w with
          | nil => exact absurd hwr.symm h
          | cons x w => simp
      refine ⟨r, ?_, h3⟩
      refine Ev.next ?_
      simp only [mizmazeref02_Lengths.l0, if_neg (by omega : ¬ (i : Int) < (out.length : Int)), if_pos (by omega : (0 : Int) ≤ (t : Int)), if_pos (by omega : (t : Int) < (out.length : Int)), Int.toNat_natCast]
      exact h2
    | succ g ih =>
      intro i out hi ho hf
      obtain ⟨r, h2, h3⟩ := ih (i + 1) (out.set i (-1)) (by omega) (by rw [List.length_set]; exact ho) fun u hu => by
        rw [rdI_set (by omega)]
        by_cases h : i = u
        · rw [if_pos h]
        · rw [if_neg h]; exact hf u (by omega)
      refine ⟨r, ?_, h3⟩
      refine Ev.next ?_
      simp only [mizmazeref02_Lengths.l0, if_pos (by omega : (i : Int) < (out.length : Int)), if_pos (by omega : (0 : Int) ≤ (i : Int)), Int.toNat_natCast, wrapS (by omega : i + 1 ≤ 9223372036854775807)]
      exact h2
  obtain ⟨r, h2, h3, h4⟩ := fill n 0 (List.replicate n 0) (by omega) List.length_replicate fun u hu => by omega
  refine ⟨r, ?_, h3, fun s hs => ?_⟩
  · unfold mizmazeref02_Lengths.f
    simp only [if_pos (by omega : (0 : Int) ≤ (rows.length : Int)), Int.toNat_natCast, if_pos (by omega : rows.length ≤ 35184372088832)]
    rw [hlen]; exact h2
  · rcases h4 s hs with ⟨h5, h6⟩ | h5
    · refine Or.inl ⟨h5, fun ⟨w, h7, h8⟩ => ?_⟩
      obtain ⟨v, h9, h10, h11, _⟩ := short_word (fun s x => V.nxLt) _ w s (Nat.le_refl _) hs h7
      have := h6 v h9 (h10.trans h8); omega
    · exact Or.inr h5
theorem ref_path {rows : List (List Int)} {n m s t : Nat} (V : VA rows n m) (hs : s < n) (ht : t < n) : ∃ r : List Int × Bool, Ev (fun k => mizmazeref02_Path.f k rows (s : Int) (t : Int)) r ∧ ((∃ w, Least (nx rows) m s t w ∧ r = (toI w, true)) ∨ (¬ Conn (nx rows) m s t ∧ r = ([], false))) := by
  have hlen := V.len; have h60 := V.n60; have h6 := V.m6; have hm0 := V.m0
  obtain ⟨l, hl1, hl2, hl3⟩ := ref_lengths V ht
  have says : ∀ u, u < n → LenSays (nx rows) m t l n u := fun u hu => by
    rcases hl3 u hu with ⟨h1, h2⟩ | h1
    · exact Or.inl ⟨h1, fun w hw hwr => absurd ⟨w, hw, hwr⟩ h2⟩
    · exact Or.inr h1
  have key : ∀ (d u : Nat) (acc : List Nat), u < n → d < n → acc.length + d ≤ n → Dist (nx rows) m t u d → ∃ w, Least (nx rows) m u t w ∧ w.length = d ∧ Ev (fun k => mizmazeref02_Path.l0 k (u : Int) l (toI acc) rows) (toI (acc ++ w), true) := by
    intro d
    induction d with
    | zero =>
      intro u acc hu _ _ hd
      obtain ⟨⟨w, h1, h2, h3⟩, _⟩ := id hd
      obtain rfl := List.eq_nil_of_length_eq_zero h2
      refine ⟨[], ⟨h1, h3, fun v _ _ => Nat.zero_le _⟩, rfl, ?_⟩
      have hz : rd l (u : Int) = ((0 : Nat) : Int) := ((says u hu).test (by omega)).2 hd
      refine Ev.next ?_
      simp only [mizmazeref02_Path.l0, if_pos (by omega : (0 : Int) ≤ (u : Int)), if_pos (by omega : (u : Int) < (l.length : Int)), hz, if_neg (by omega : ¬ ((0 : Nat) : Int) > 0), List.append_nil]
      exact Ev.now _
    | succ d ih =>
      intro u acc hu hdn hacc hd
      have hz : rd l (u : Int) = ((d + 1 : Nat) : Int) := ((says u hu).test (by omega)).2 hd
      have hw1 : wrap64 (((d + 1 : Nat) : Int) - 1) = (d : Int) := by unfold wrap64; omega
      have hrow := V.row u hu
      obtain ⟨⟨w0, a1, a2, a3⟩, hfar⟩ := id hd
      have letters : ∀ (p x : Nat), x + p = m → (∀ y, y < x → ¬ Dist (nx rows) m t (nx rows u y) d) → ∃ w, Least (nx rows) m u t w ∧ w.length = d + 1 ∧ Ev (fun k => mizmazeref02_Path.l1 k (u : Int) l (toI acc) (x : Int) rows) (toI (acc ++ w), true) := by
        intro p
        induction p with
        | zero =>
          intro x hx hno
          cases w0 with
          | nil => simp at a2
          | cons y w => exact absurd (Dist.near hfar a1 (by simpa using a2) a3) (hno y (by have := a1.head; omega))
        | succ p ih2 =>
          intro x hx hno
          have hxm : x < m := by omega
          have hv := V.nxLt hu hxm
          have hT := (says _ hv).test (j := d) (by omega)
          by_cases hdx : Dist (nx rows) m t (nx rows u x) d
          · obtain ⟨w, hw, hwl, hev⟩ := ih (nx rows u x) (acc ++ [x]) hv (by omega) (by simp; omega) hdx
            refine ⟨x :: w, ⟨Wd.cons hxm hw.wd, hw.ends, fun v hv1 hv2 => ?_⟩, by simp; exact hwl, ?_⟩
            · have h3 := hfar v hv1 hv2
              rcases Nat.lt_or_ge (d + 1) v.length with h4 | h4
              · exact Nat.le_of_lt (code_len hm0 (Wd.cons hxm hw.wd) hv1 (by simp; omega))
              · cases v with
                | nil => simp at h3
                | cons y v =>
                  have hvl : v.length = d := by simp at h3 h4; omega
                  have hdy := Dist.near hfar hv1 hvl hv2
                  have hyx : x ≤ y := by
                    rcases Nat.lt_or_ge y x with h5 | h5
                    · exact absurd hdy (hno y h5)
                    · exact h5
                  rcases Nat.lt_or_ge x y with h5 | h5
                  · exact Nat.le_of_lt (code_head hw.wd hv1.tail (by omega) h5)
                  · obtain rfl : x = y := by omega
                    have := hw.le v hv1.tail hv2
                    rw [code_cons, code_cons, hwl, hvl]; omega
            · refine Ev.next ?_
              simp only [mizmazeref02_Path.l1, if_pos (by omega : (0 : Int) ≤ (u : Int)), if_pos (by omega : (u : Int) < (rows.length : Int)), if_pos (by omega : (0 : Int) ≤ (x : Int)), if_pos (by omega : (x : Int) < ((rd_L1 rows (u : Int)).length : Int)), V.nxE hu hxm, if_pos (by omega : (0 : Int) ≤ ((nx rows u x : Nat) : Int)), if_pos (by omega : ((nx rows u x : Nat) : Int) < (l.length : Int)), if_pos (by omega : (u : Int) < (l.length : Int)), hz, hw1, if_pos (hT.2 hdx), toI_len, if_pos (by omega : acc.length < 17592186044416)]
              rw [toI_snoc, List.append_assoc] at hev
              exact hev
          · obtain ⟨w, h2, h3, h4⟩ := ih2 (x + 1) (by omega) fun y hy => by
              by_cases h : y = x
              · subst h; exact hdx
              · exact hno y (by omega)
            refine ⟨w, h2, h3, ?_⟩
            refine Ev.next ?_
            simp only [mizmazeref02_Path.l1, if_pos (by omega : (0 : Int) ≤ (u : Int)), if_pos (by omega : (u : Int) < (rows.length : Int)), if_pos (by omega : (0 : Int) ≤ (x : Int)), if_pos (by omega : (x : Int) < ((rd_L1 rows (u : Int)).length : Int)), V.nxE hu hxm, if_pos (by omega : (0 : Int) ≤ ((nx rows u x : Nat) : Int)), if_pos (by omega : ((nx rows u x : Nat) : Int) < (l.length : Int)), if_pos (by omega : (u : Int) < (l.length : Int)), hz, hw1, if_neg (fun h => hdx (hT.1 h)), wrapS (by omega : x + 1 ≤ 9223372036854775807)]
            exact h4
      obtain ⟨w, h2, h3, h4⟩ := letters m 0 (by omega) fun y hy => by omega
      refine ⟨w, h2, h3, ?_⟩
      refine Ev.next ?_
      simp only [mizmazeref02_Path.l0, if_pos (by omega : (0 : Int) ≤ (u : Int)), if_pos (by omega : (u : Int) < (l.length : Int)), hz, if_pos (by omega : ((d + 1 : Nat) : Int) > 0)]
      exact h4
  have hsay := hl3 s hs
  unfold mizmazeref02_Path.f
  rcases hsay with ⟨h1, h2⟩ | ⟨d, h1, h2, h3⟩
  · refine ⟨([], false), Ev.bind hl1 ?_, Or.inr ⟨h2, rfl⟩⟩
    refine Ev.next ?_
    simp only [mizmazeref02_Path.l0, if_pos (by omega : (0 : Int) ≤ (s : Int)), if_pos (by omega : (s : Int) < (l.length : Int)), h1, if_neg (by omega : ¬ (-1 : Int) > 0)]
    exact Ev.now _
  · obtain ⟨w, h4, h5, h6⟩ := key d s [] hs h2 (by simp; omega) h3
    exact ⟨(toI w, true), Ev.bind hl1 h6, Or.inl ⟨w, h4, rfl⟩⟩
end Go.Proofs.Ytjgdalhdiohclaa.Q
end
