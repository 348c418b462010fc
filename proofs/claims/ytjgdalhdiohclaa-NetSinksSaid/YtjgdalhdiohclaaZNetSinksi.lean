/- NetSinks returns true for every input of its row; no further conditions. (text 9 of 15) -/
import Derived.Test.YtjgdalhdiohclaaZNetSinksh
import Derived.Test.YtjgdalhdiohclaaZNetSinksg
import Derived.Test.YtjgdalhdiohclaaZNetSinksf
import Derived.Test.YtjgdalhdiohclaaZNetSinkse
/-! Part MReach -/
section
namespace Go.Proofs.Ytjgdalhdiohclaa.Q
open Go.RowKit Go.Proofs.YtjgdalhdiohclaaW.PrintWords Go.Proofs.YtjgdalhdiohclaaW.PrintLast Go.Proofs.YtjgdalhdiohclaaW.PrintMore
set_option linter.unusedVariables false

/-! ### words and where they lead, over a step function f -/
/-- The state to which a word leads. -/
def run (f : Nat → Nat → Nat) : Nat → List Nat → Nat
  | s, [] => s
  | s, x :: w => run f (f s x) w
theorem run_app (f : Nat → Nat → Nat) : ∀ (v w : List Nat) s, run f s (v ++ w) = run f (run f s v) w
  | [], _, _ => rfl
  | _ :: v, w, s => run_app f v w _
theorem run_snoc (f : Nat → Nat → Nat) (v : List Nat) (x s : Nat) : run f s (v ++ [x]) = f (run f s v) x := run_app f v [x] s
/-- A word over m letters. -/
def Wd (m : Nat) (w : List Nat) : Prop := ∀ x ∈ w, x < m
theorem Wd.nil (m : Nat) : Wd m [] := fun _ h => nomatch h
theorem Wd.app {m : Nat} {v w : List Nat} (h : Wd m v) (k : Wd m w) : Wd m (v ++ w) := fun x hx => (List.mem_append.1 hx).elim (h x) (k x)
theorem Wd.one {m x : Nat} (h : x < m) : Wd m [x] := fun y hy => by rw [List.mem_singleton.1 hy]; exact h
theorem Wd.left {m : Nat} {v w : List Nat} (h : Wd m (v ++ w)) : Wd m v := fun x hx => h x (List.mem_append.2 (Or.inl hx))
theorem Wd.right {m : Nat} {v w : List Nat} (h : Wd m (v ++ w)) : Wd m w := fun x hx => h x (List.mem_append.2 (Or.inr hx))
/-- Some word leads from s to t. -/
def Conn (f : Nat → Nat → Nat) (m s t : Nat) : Prop := ∃ w, Wd m w ∧ run f s w = t
theorem Conn.refl (f : Nat → Nat → Nat) (m s : Nat) : Conn f m s s := ⟨[], Wd.nil m, rfl⟩
theorem Conn.trans {f : Nat → Nat → Nat} {m s t u : Nat} (h : Conn f m s t) (k : Conn f m t u) : Conn f m s u := by
  obtain ⟨v, h1, rfl⟩ := h; obtain ⟨w, h2, rfl⟩ := k
  exact ⟨v ++ w, h1.app h2, run_app f v w s⟩
theorem Conn.step {f : Nat → Nat → Nat} {m s x : Nat} (h : x < m) : Conn f m s (f s x) := ⟨[x], Wd.one h, rfl⟩
/-- What contains s and is closed contains what can be reached. -/
theorem Conn.closed {f : Nat → Nat → Nat} {m s t : Nat} {P : Nat → Prop} (h : Conn f m s t) (hs : P s) (hc : ∀ u x, P u → x < m → P (f u x)) : P t := by
  obtain ⟨w, hw, rfl⟩ := h
  induction w generalizing s with
  | nil => exact hs
  | cons x w ih => exact ih (hc s x hs (hw x List.mem_cons_self)) fun y hy => hw y (List.mem_cons_of_mem _ hy)
theorem VA.runLt {rows : List (List Int)} {n m : Nat} (V : VA rows n m) {s : Nat} (hs : s < n) {w : List Nat} (hw : Wd m w) : run (nx rows) s w < n := by
  induction w generalizing s with
  | nil => exact hs
  | cons x w ih => exact ih (V.nxLt hs (hw x List.mem_cons_self)) fun y hy => hw y (List.mem_cons_of_mem _ hy)
/-! ### the drawers -/
theorem nodup_le : ∀ (n : Nat) (l : List Nat), l.Nodup → (∀ x ∈ l, x < n) → l.length ≤ n
  | 0, l, _, h => by
    cases l with
    | nil => exact Nat.le_refl 0
    | cons x l => exact absurd (h x List.mem_cons_self) (Nat.not_lt_zero x)
  | n + 1, l, hd, h => by
    by_cases hn : n ∈ l
    · have h1 := nodup_le n (l.erase n) (hd.erase n) fun x hx => by
        have h2 := h x (List.mem_of_mem_erase hx)
        have h3 : x ≠ n := fun e => by subst e; exact hd.not_mem_erase hx
        omega
      rw [List.length_erase_of_mem hn] at h1; omega
    · have := nodup_le n l hd fun x hx => by
        have h2 := h x hx
        have h3 : x ≠ n := fun e => hn (e ▸ hx)
        omega
      omega
theorem drawers {n : Nat} (f : Nat → Nat) (h : ∀ i, i ≤ n → f i < n) : ∃ i j, i < j ∧ j ≤ n ∧ f i = f j := by
  refine Classical.byContradiction fun hc => ?_
  have hd : ((List.range (n + 1)).map f).Nodup := by
    rw [List.nodup_iff_pairwise_ne, List.pairwise_map]
    refine List.Pairwise.imp_of_mem (R := fun a b => a < b) ?_ List.pairwise_lt_range
    intro a b ha hb hab e
    exact hc ⟨a, b, hab, by have := List.mem_range.1 hb; omega, e⟩
  have := nodup_le n _ hd (by
    intro x hx
    obtain ⟨i, hi, rfl⟩ := List.mem_map.1 hx
    exact h i (by have := List.mem_range.1 hi; omega))
  rw [List.length_map, List.length_range] at this; omega
/-- Some word of fewer than n letters leads where a word leads. -/
theorem short_word {f : Nat → Nat → Nat} {n m : Nat} (hf : ∀ s x, s < n → x < m → f s x < n) : ∀ (d : Nat) (w : List Nat) (s : Nat), w.length ≤ d → s < n → Wd m w → ∃ v, Wd m v ∧ run f s v = run f s w ∧ v.length < n ∧ v.length ≤ w.length := by
  have rl : ∀ (w : List Nat) s, s < n → Wd m w → run f s w < n := by
    intro w
    induction w with
    | nil => intro s h _; exact h
    | cons x w ih => intro s h hw; exact ih _ (hf s x h (hw x List.mem_cons_self)) fun y hy => hw y (List.mem_cons_of_mem _ hy)
  intro d
  induction d with
  | zero => intro w s h hs hw; obtain rfl := List.eq_nil_of_length_eq_zero (by omega : w.length = 0); exact ⟨[], hw, rfl, by simp; omega, by simp⟩
  | succ d ih =>
    intro w s h hs hw
    by_cases hl : w.length < n
    · exact ⟨w, hw, rfl, hl, Nat.le_refl _⟩
    · have htk : ∀ i, Wd m (w.take i) := fun i x hx => hw x (List.mem_of_mem_take hx)
      have hdr : ∀ i, Wd m (w.drop i) := fun i x hx => hw x (List.mem_of_mem_drop hx)
      obtain ⟨i, j, hij, hj, e⟩ := drawers (n := n) (fun i => run f s (w.take i)) fun i _ => rl _ _ hs (htk i)
      obtain ⟨v, h1, h2, h3, h4⟩ := ih (w.take i ++ w.drop j) s (by rw [List.length_append, List.length_take, List.length_drop]; omega) hs ((htk i).app (hdr j))
      refine ⟨v, h1, h2.trans ?_, h3, by rw [List.length_append, List.length_take, List.length_drop] at h4; omega⟩
      rw [run_app, e, ← run_app, List.take_append_drop]

/-! ### lists of bools -/
/-- The list says which states have a property. -/
def Is (n : Nat) (l : List Bool) (P : Nat → Prop) : Prop := l.length = n ∧ ∀ t, t < n → (rdOf false l (t : Int) = true ↔ P t)
theorem Is.imp {n : Nat} {l : List Bool} {P P' : Nat → Prop} (h : Is n l P) (e : ∀ t, t < n → (P t ↔ P' t)) : Is n l P' := ⟨h.1, fun t ht => (h.2 t ht).trans (e t ht)⟩
theorem rdB_set {l : List Bool} {i j : Nat} {b : Bool} (hj : j < l.length) : rdOf false (l.set i b) (j : Int) = if i = j then b else rdOf false l (j : Int) := by
  rw [rdBE (by rw [List.length_set]; exact hj), rdBE hj, List.getElem_set]
theorem Is.set {n : Nat} {l : List Bool} {P : Nat → Prop} (h : Is n l P) {u : Nat} : Is n (l.set u true) (fun t => P t ∨ u = t) := by
  refine ⟨by rw [List.length_set]; exact h.1, fun t ht => ?_⟩
  rw [rdB_set (by rw [h.1]; exact ht)]
  by_cases e : u = t
  · simp [e]
  · simp [e, h.2 t ht]
theorem Is.none {n : Nat} : Is n (List.replicate n false) (fun _ => False) := by
  refine ⟨List.length_replicate, fun t ht => ?_⟩
  rw [rdBE (by rw [List.length_replicate]; exact ht), List.getElem_replicate]; simp
theorem Is.eq {n : Nat} {l l' : List Bool} {P : Nat → Prop} (h : Is n l P) (h' : Is n l' P) : l = l' := by
  refine List.ext_getElem (h.1.trans h'.1.symm) fun i h1 h2 => ?_
  have a := h.2 i (h.1 ▸ h1); have b := h'.2 i (h.1 ▸ h1)
  rw [rdBE h1] at a; rw [rdBE h2] at b
  rw [Bool.eq_iff_iff, a, b]
theorem ref_only {rows : List (List Int)} {n m s : Nat} (V : VA rows n m) (hs : s < n) : ∃ l, mizmazeref02_Only.f rows s = some l ∧ Is n l (fun t => s = t) := by
  have := V.len; have := V.n60
  refine ⟨(List.replicate n false).set s true, ?_, (Is.none.set).imp fun t _ => by simp⟩
  unfold mizmazeref02_Only.f
  rw [if_pos (by omega), if_pos (by omega), Option.bind_some, if_pos (by omega), if_pos (by rw [List.length_replicate]; omega), V.len]
  simp
theorem ref_step {rows : List (List Int)} {n m : Nat} (V : VA rows n m) {l : List Bool} {P : Nat → Prop} (hl : Is n l P) :
    ∃ l', Ev (fun k => mizmazeref02_Step.f k rows l) l' ∧ Is n l' (fun t => ∃ s, s < n ∧ P s ∧ ∃ x, x < m ∧ nx rows s x = t) := by
  have hlen := V.len; have h60 := V.n60; have h6 := V.m6; have hll := hl.1
  have key : ∀ (d s : Nat) (out : List Bool) (Q : Nat → Prop), s + d = n → Is n out Q → ∃ l', Ev (fun k => mizmazeref02_Step.l0 k l out (s : Int) rows) l' ∧ Is n l' (fun t => Q t ∨ ∃ u, s ≤ u ∧ u < n ∧ P u ∧ ∃ x, x < m ∧ nx rows u x = t) := by
    intro d
    induction d with
    | zero =>
      intro s out Q hs ho
      refine ⟨out, ?_, ho.imp fun t _ => ⟨Or.inl, fun h => h.elim id fun ⟨u, h1, h2, _⟩ => absurd h2 (by omega)⟩⟩
      refine Ev.next ?_
      simp only [mizmazeref02_Step.l0, if_neg (by omega : ¬ (s : Int) < (l.length : Int))]
      exact Ev.now _
    | succ d ih =>
      intro s out Q hs ho
      have hsn : s < n := by omega
      by_cases hp : P s
      · have inner : ∀ (e x : Nat) (out : List Bool) (Q : Nat → Prop), x + e = m → Is n out Q → ∃ l', Ev (fun k => mizmazeref02_Step.l1 k l out (s : Int) (x : Int) rows) l' ∧ Is n l' (fun t => (Q t ∨ ∃ y, x ≤ y ∧ y < m ∧ nx rows s y = t) ∨ ∃ u, s + 1 ≤ u ∧ u < n ∧ P u ∧ ∃ x, x < m ∧ nx rows u x = t) := by
          intro e
          induction e with
          | zero =>
            intro x out Q hx ho
            obtain ⟨l', h1, h2⟩ := ih (s + 1) out Q (by omega) ho
            refine ⟨l', ?_, h2.imp fun t _ => ⟨fun h => h.elim (fun h => Or.inl (Or.inl h)) Or.inr, fun h => h.elim (fun h => h.elim Or.inl fun ⟨y, h1, h2, _⟩ => absurd h2 (by omega)) Or.inr⟩⟩
            refine Ev.next ?_
            simp only [mizmazeref02_Step.l1, if_pos (by omega : (0 : Int) ≤ (s : Int)), if_pos (by omega : (s : Int) < (l.length : Int)), if_pos ((hl.2 s hsn).2 hp), V.letters, Option.bind_some, if_neg (by omega : ¬ (x : Int) < (m : Int)), wrapS (by omega : s + 1 ≤ 9223372036854775807)]
            exact h1
          | succ e ih2 =>
            intro x out Q hx ho
            obtain ⟨l', h1, h2⟩ := ih2 (x + 1) _ _ (by omega) (ho.set (u := nx rows s x))
            refine ⟨l', ?_, h2.imp fun t _ => ?_⟩
            · have hxm : x < m := by omega
              have h3 := V.row s hsn
              have h4 := V.nxLt hsn hxm
              refine Ev.next ?_
              simp only [mizmazeref02_Step.l1, if_pos (by omega : (0 : Int) ≤ (s : Int)), if_pos (by omega : (s : Int) < (l.length : Int)), if_pos ((hl.2 s hsn).2 hp), V.letters, Option.bind_some, if_pos (by omega : (x : Int) < (m : Int)), if_pos (by omega : (s : Int) < (rows.length : Int)), if_pos (by omega : (0 : Int) ≤ (x : Int)), if_pos (by omega : (x : Int) < ((rd_L1 rows (s : Int)).length : Int)), V.nxE hsn hxm, if_pos (by omega : (0 : Int) ≤ ((nx rows s x : Nat) : Int)), if_pos (by have := ho.1; omega : ((nx rows s x : Nat) : Int) < (out.length : Int)), Int.toNat_natCast, wrapS (by omega : x + 1 ≤ 9223372036854775807)]
              exact h1
            · constructor
              · rintro (((h | h) | ⟨y, h3, h4, h5⟩) | h)
                · exact Or.inl (Or.inl h)
                · exact Or.inl (Or.inr ⟨x, Nat.le_refl x, by omega, h⟩)
                · exact Or.inl (Or.inr ⟨y, by omega, h4, h5⟩)
                · exact Or.inr h
              · rintro ((h | ⟨y, h3, h4, h5⟩) | h)
                · exact Or.inl (Or.inl (Or.inl h))
                · by_cases hy : y = x
                  · subst hy; exact Or.inl (Or.inl (Or.inr h5))
                  · exact Or.inl (Or.inr ⟨y, by omega, h4, h5⟩)
                · exact Or.inr h
        obtain ⟨l', h1, h2⟩ := inner m 0 out Q (by omega) ho
        refine ⟨l', ?_, h2.imp fun t _ => ?_⟩
        · refine Ev.next ?_
          simp only [mizmazeref02_Step.l0, if_pos (by omega : (s : Int) < (l.length : Int))]
          exact h1
        · constructor
          · rintro ((h | ⟨y, _, h4, h5⟩) | ⟨u, h3, h4⟩)
            · exact Or.inl h
            · exact Or.inr ⟨s, Nat.le_refl s, hsn, hp, y, h4, h5⟩
            · exact Or.inr ⟨u, by omega, h4⟩
          · rintro (h | ⟨u, h3, h4, h5, x, h6, h7⟩)
            · exact Or.inl (Or.inl h)
            · by_cases hu : u = s
              · subst hu; exact Or.inl (Or.inr ⟨x, Nat.zero_le _, h6, h7⟩)
              · exact Or.inr ⟨u, by omega, h4, h5, x, h6, h7⟩
      · obtain ⟨l', h1, h2⟩ := ih (s + 1) out Q (by omega) ho
        refine ⟨l', ?_, h2.imp fun t _ => ⟨fun h => h.elim Or.inl fun ⟨u, h3, h4⟩ => Or.inr ⟨u, by omega, h4⟩, fun h => h.elim Or.inl fun ⟨u, h3, h4, h5, h6⟩ => Or.inr ⟨u, ?_, h4, h5, h6⟩⟩⟩
        · refine Ev.next ?_
          simp only [mizmazeref02_Step.l0, if_pos (by omega : (s : Int) < (l.length : Int))]
          refine Ev.next ?_
          simp only [mizmazeref02_Step.l1, if_pos (by omega : (0 : Int) ≤ (s : Int)), if_pos (by omega : (s : Int) < (l.length : Int)), if_neg (fun h => hp ((hl.2 s hsn).1 h)), wrapS (by omega : s + 1 ≤ 9223372036854775807)]
          exact h1
        · by_cases hu : u = s
          · subst hu; exact absurd h5 hp
          · omega
  obtain ⟨l', h1, h2⟩ := key n 0 _ _ (by omega) Is.none
  refine ⟨l', ?_, h2.imp fun t _ => ⟨fun h => h.elim False.elim fun ⟨u, _, h⟩ => ⟨u, h⟩, fun ⟨u, h⟩ => Or.inr ⟨u, Nat.zero_le u, h⟩⟩⟩
  unfold mizmazeref02_Step.f
  simp only [if_pos (by omega : (0 : Int) ≤ (l.length : Int)), Int.toNat_natCast, if_pos (by omega : l.length ≤ 281474976710656)]
  rw [hll]; exact h1
end Go.Proofs.Ytjgdalhdiohclaa.Q
end
/-! Part MReachb -/
section
namespace Go.Proofs.Ytjgdalhdiohclaa.Q
open Go.RowKit Go.Proofs.YtjgdalhdiohclaaW.PrintWords Go.Proofs.YtjgdalhdiohclaaW.PrintLast Go.Proofs.YtjgdalhdiohclaaW.PrintMore
set_option linter.unusedVariables false

theorem Is.put {n : Nat} {l : List Bool} {P : Nat → Prop} (h : Is n l P) {u : Nat} {b : Bool} : Is n (l.set u b) (fun t => if u = t then b = true else P t) := by
  refine ⟨by rw [List.length_set]; exact h.1, fun t ht => ?_⟩
  rw [rdB_set (by rw [h.1]; exact ht)]
  by_cases e : u = t
  · simp [e]
  · simp [e, h.2 t ht]
theorem ref_reach {rows : List (List Int)} {n m s : Nat} (V : VA rows n m) (hs : s < n) : ∃ l, Ev (fun k => mizmazeref02_Reach.f k rows (s : Int)) l ∧ Is n l (Conn (nx rows) m s) := by
  have hlen := V.len; have h60 := V.n60
  have key : ∀ (d j : Nat) (out : List Bool), j + d = n → Is n out (fun t => ∃ w, Wd m w ∧ w.length ≤ j ∧ run (nx rows) s w = t) → ∃ l, Ev (fun k => mizmazeref02_Reach.l0 k out (j : Int) rows) l ∧ Is n l (Conn (nx rows) m s) := by
    intro d
    induction d with
    | zero =>
      intro j out hj ho
      refine ⟨out, ?_, ho.imp fun t _ => ⟨fun ⟨w, h1, _, h2⟩ => ⟨w, h1, h2⟩, fun ⟨w, h1, h2⟩ => ?_⟩⟩
      · refine Ev.next ?_
        simp only [mizmazeref02_Reach.l0, if_neg (by omega : ¬ (j : Int) < (rows.length : Int))]
        exact Ev.now _
      · obtain ⟨v, h3, h4, h5, _⟩ := short_word (fun s x => V.nxLt) _ w s (Nat.le_refl _) hs h1
        exact ⟨v, h3, by omega, h4.trans h2⟩
    | succ d ih =>
      intro j out hj ho
      obtain ⟨more, hm, hmi⟩ := ref_step V ho
      have inner : ∀ (e i : Nat) (out : List Bool), i + e = n → Is n out (fun t => (∃ w, Wd m w ∧ w.length ≤ j ∧ run (nx rows) s w = t) ∨ t < i ∧ ∃ u, u < n ∧ (∃ w, Wd m w ∧ w.length ≤ j ∧ run (nx rows) s w = u) ∧ ∃ x, x < m ∧ nx rows u x = t) → ∃ l, Ev (fun k => mizmazeref02_Reach.l1 k out (j : Int) more (i : Int) rows) l ∧ Is n l (Conn (nx rows) m s) := by
        intro e
        induction e with
        | zero =>
          intro i out hi ho
          obtain ⟨l, h1, h2⟩ := ih (j + 1) out (by omega) (ho.imp fun t ht => by
              constructor
              · rintro (⟨w, h1, h2, h3⟩ | ⟨_, u, _, ⟨w, h1, h2, h3⟩, x, h4, h5⟩)
                · exact ⟨w, h1, by omega, h3⟩
                · exact ⟨w ++ [x], h1.app (Wd.one h4), by rw [List.length_append]; simp; omega, by rw [run_snoc, h3, h5]⟩
              · rintro ⟨w, h1, h2, h3⟩
                by_cases hw : w.length ≤ j
                · exact Or.inl ⟨w, h1, hw, h3⟩
                · refine Or.inr ⟨by omega, ?_⟩
                  have hne : w ≠ [] := fun h => by subst h; simp at hw
                  obtain ⟨v, x, rfl⟩ : ∃ v x, w = v ++ [x] := ⟨_, _, (List.dropLast_concat_getLast hne).symm⟩
                  rw [List.length_append] at h2; rw [run_snoc] at h3
                  exact ⟨run (nx rows) s v, V.runLt hs h1.left, ⟨v, h1.left, by simp at h2; omega, rfl⟩, x, h1.right x (by simp), h3⟩)
          refine ⟨l, ?_, h2⟩
          refine Ev.next ?_
          simp only [mizmazeref02_Reach.l1, if_neg (by have := ho.1; omega : ¬ (i : Int) < (out.length : Int)), wrapS (by omega : j + 1 ≤ 9223372036854775807)]
          exact h1
        | succ e ih2 =>
          intro i out hi ho
          have hin : i < n := by omega
          have h1 := hmi.2 i hin
          have h2 := ho.2 i hin
          cases hc : rdOf false out (i : Int) with
          | true =>
            obtain ⟨l, h3, h4⟩ := ih2 (i + 1) (out.set i true) (by omega) ((ho.put (u := i) (b := true)).imp fun t ht => by
                by_cases e : i = t
                · subst e
                  have h5 := h2.1 hc
                  simp only [if_true, true_iff]
                  rcases h5 with h | ⟨h, _⟩
                  · exact Or.inl h
                  · omega
                · rw [if_neg e]
                  constructor
                  · rintro (h | ⟨h, h6⟩)
                    · exact Or.inl h
                    · exact Or.inr ⟨by omega, h6⟩
                  · rintro (h | ⟨h, h6⟩)
                    · exact Or.inl h
                    · exact Or.inr ⟨by omega, h6⟩)
            refine ⟨l, ?_, h4⟩
            refine Ev.next ?_
            simp only [mizmazeref02_Reach.l1, if_pos (by have := ho.1; omega : (i : Int) < (out.length : Int)), if_pos (by omega : (0 : Int) ≤ (i : Int)), hc, if_true, Int.toNat_natCast, wrapS (by omega : i + 1 ≤ 9223372036854775807)]
            exact h3
          | false =>
            obtain ⟨l, h3, h4⟩ := ih2 (i + 1) (out.set i (rdOf false more (i : Int))) (by omega) ((ho.put (u := i) (b := rdOf false more (i : Int))).imp fun t ht => by
                by_cases e : i = t
                · subst e
                  rw [if_pos rfl, h1]
                  refine ⟨fun h => Or.inr ⟨by omega, h⟩, ?_⟩
                  rintro (h | ⟨_, h⟩)
                  · exact absurd (h2.2 (Or.inl h)) (by rw [hc]; simp)
                  · exact h
                · rw [if_neg e]
                  constructor
                  · rintro (h | ⟨h, h6⟩)
                    · exact Or.inl h
                    · exact Or.inr ⟨by omega, h6⟩
                  · rintro (h | ⟨h, h6⟩)
                    · exact Or.inl h
                    · exact Or.inr ⟨by omega, h6⟩)
            refine ⟨l, ?_, h4⟩
            refine Ev.next ?_
            simp only [mizmazeref02_Reach.l1, if_pos (by have := ho.1; omega : (i : Int) < (out.length : Int)), if_pos (by omega : (0 : Int) ≤ (i : Int)), hc, Bool.false_eq_true, if_false, if_pos (by have := hmi.1; omega : (i : Int) < (more.length : Int)), Int.toNat_natCast, wrapS (by omega : i + 1 ≤ 9223372036854775807)]
            exact h3
      obtain ⟨l, h1, h2⟩ := inner n 0 out (by omega) (ho.imp fun t _ => ⟨Or.inl, fun h => h.elim id fun h => absurd h.1 (by omega)⟩)
      refine ⟨l, ?_, h2⟩
      refine Ev.next ?_
      simp only [mizmazeref02_Reach.l0, if_pos (by omega : (j : Int) < (rows.length : Int))]
      exact Ev.bind hm h1
  obtain ⟨o, h1, h2⟩ := ref_only V hs
  obtain ⟨l, h3, h4⟩ := key n 0 o (by omega) (h2.imp fun t _ => ⟨fun h => ⟨[], Wd.nil m, Nat.le_refl 0, h⟩, fun ⟨w, _, h5, h6⟩ => by obtain rfl := List.eq_nil_of_length_eq_zero (by omega : w.length = 0); exact h6⟩)
  refine ⟨l, ?_, h4⟩
  unfold mizmazeref02_Reach.f
  simp only [h1, Option.bind_some]
  exact h3

/-- How many states are not met. -/
def left (l : List Bool) : Nat := l.count false
theorem left_set {l : List Bool} {u : Nat} (h : u < l.length) (hf : rdOf false l (u : Int) = false) : left (l.set u true) + 1 = left l := by
  induction l generalizing u with
  | nil => exact absurd h (by simp)
  | cons b l ih =>
    cases u with
    | zero =>
      have : b = false := hf
      subst this
      simp [left]
    | succ u =>
      have := ih (u := u) (by simpa using h) (by rw [rdBE (by simpa using h)]; rw [rdBE h] at hf; simpa using hf)
      simp only [left] at this
      cases b <;> simp [left] <;> omega
theorem net_reaches {rows : List (List Int)} {n m s : Nat} (V : VA rows n m) (hs : s < n) : ∃ l, Ev (fun k => net_reach.f k rows (s : Int)) l ∧ Is n l (Conn (nx rows) m s) := by
  have hlen := V.len; have h60 := V.n60; have h6 := V.m6
  have key : ∀ (d : Nat) (met : List Bool) (P : Nat → Prop) (s : Nat), s < n → left met ≤ d → Is n met P → ∃ l P', Ev (fun k => net_visit.f k rows met (s : Int)) l ∧ Is n l P' ∧ left l ≤ left met ∧ (∀ t, P t → P' t) ∧ P' s ∧ (∀ t, P' t → P t ∨ Conn (nx rows) m s t) ∧ (∀ t, P' t → P t ∨ ∀ x, x < m → P' (nx rows t x)) := by
    intro d
    induction d with
    | zero =>
      intro met P s hs hd hm
      have hh : rdOf false met (s : Int) = true := by
        cases h : rdOf false met (s : Int) with
        | true => rfl
        | false => have := left_set (by rw [hm.1]; exact hs) h; omega
      refine ⟨met, P, ?_, hm, Nat.le_refl _, fun _ h => h, (hm.2 s hs).1 hh, fun t h => Or.inl h, fun t h => Or.inl h⟩
      refine Ev.next ?_
      simp only [net_visit.f, if_pos (by omega : (0 : Int) ≤ (s : Int)), if_pos (by have := hm.1; omega : (s : Int) < (met.length : Int)), hh, if_true]
      exact Ev.now _
    | succ d ih =>
      intro met P s hs hd hm
      cases hh : rdOf false met (s : Int) with
      | true =>
        refine ⟨met, P, ?_, hm, Nat.le_refl _, fun _ h => h, (hm.2 s hs).1 hh, fun t h => Or.inl h, fun t h => Or.inl h⟩
        refine Ev.next ?_
        simp only [net_visit.f, if_pos (by omega : (0 : Int) ≤ (s : Int)), if_pos (by have := hm.1; omega : (s : Int) < (met.length : Int)), hh, if_true]
        exact Ev.now _
      | false =>
        have hcnt := left_set (by rw [hm.1]; exact hs) hh
        have hrow := V.row s hs
        have inner : ∀ (e x : Nat) (met1 : List Bool) (P1 : Nat → Prop), x + e = m → left met1 ≤ d → Is n met1 P1 → ∃ l P', Ev (fun k => net_visit.l0 k rows met1 (rd_L1 rows (s : Int)) (x : Int)) l ∧ Is n l P' ∧ left l ≤ left met1 ∧ (∀ t, P1 t → P' t) ∧ (∀ y, x ≤ y → y < m → P' (nx rows s y)) ∧ (∀ t, P' t → P1 t ∨ Conn (nx rows) m s t) ∧ (∀ t, P' t → P1 t ∨ ∀ x, x < m → P' (nx rows t x)) := by
          intro e
          induction e with
          | zero =>
            intro x met1 P1 hx hd1 hm1
            refine ⟨met1, P1, ?_, hm1, Nat.le_refl _, fun _ h => h, fun y h1 h2 => by omega, fun t h => Or.inl h, fun t h => Or.inl h⟩
            refine Ev.next ?_
            simp only [net_visit.l0, if_neg (by omega : ¬ (x : Int) < ((rd_L1 rows (s : Int)).length : Int))]
            exact Ev.now _
          | succ e ih2 =>
            intro x met1 P1 hx hd1 hm1
            have hxm : x < m := by omega
            obtain ⟨l1, P2, a1, a2, a3, a4, a5, a6, a7⟩ := ih met1 P1 (nx rows s x) (V.nxLt hs hxm) hd1 hm1
            obtain ⟨l2, P3, b1, b2, b3, b4, b5, b6, b7⟩ := ih2 (x + 1) l1 P2 (by omega) (by omega) a2
            refine ⟨l2, P3, ?_, b2, by omega, fun t h => b4 t (a4 t h), ?_, ?_, ?_⟩
            · refine Ev.next ?_
              simp only [net_visit.l0, if_pos (by omega : (x : Int) < ((rd_L1 rows (s : Int)).length : Int)), if_pos (by omega : (0 : Int) ≤ (x : Int)), V.nxE hs hxm, wrapS (by omega : x + 1 ≤ 9223372036854775807)]
              exact Ev.bind a1 b1
            · intro y h1 h2
              by_cases hy : y = x
              · subst hy; exact b4 _ a5
              · exact b5 y (by omega) h2
            · intro t h
              rcases b6 t h with h | h
              · rcases a6 t h with h | h
                · exact Or.inl h
                · exact Or.inr ((Conn.step hxm).trans h)
              · exact Or.inr h
            · intro t h
              rcases b7 t h with h | h
              · rcases a7 t h with h | h
                · exact Or.inl h
                · exact Or.inr fun x hx => b4 _ (h x hx)
              · exact Or.inr h
        obtain ⟨l, P', a1, a2, a3, a4, a5, a6, a7⟩ := inner m 0 (met.set s true) _ (by omega) (by omega) (hm.set (u := s))
        refine ⟨l, P', ?_, a2, by omega, fun t h => a4 t (Or.inl h), a4 s (Or.inr rfl), ?_, ?_⟩
        · refine Ev.next ?_
          simp only [net_visit.f, if_pos (by omega : (0 : Int) ≤ (s : Int)), if_pos (by have := hm.1; omega : (s : Int) < (met.length : Int)), hh, Bool.false_eq_true, if_false, if_pos (by omega : (s : Int) < (rows.length : Int)), Int.toNat_natCast]
          exact a1
        · intro t h
          rcases a6 t h with (h | rfl) | h
          · exact Or.inl h
          · exact Or.inr (Conn.refl _ _ _)
          · exact Or.inr h
        · intro t h
          rcases a7 t h with (h | rfl) | h
          · exact Or.inl h
          · exact Or.inr fun x hx => a5 x (Nat.zero_le x) hx
          · exact Or.inr h
  obtain ⟨l, P', a1, a2, a3, a4, a5, a6, a7⟩ := key _ _ _ s hs (Nat.le_refl _) (Is.none (n := n))
  refine ⟨l, ?_, a2.imp fun t ht => ⟨fun h => (a6 t h).elim False.elim id, fun h => h.closed (P := P') a5 fun u x hu hx => (a7 u hu).elim False.elim fun h => h x hx⟩⟩
  unfold net_reach.f
  simp only [if_pos (by omega : rows.length ≤ 281474976710656)]
  rw [hlen]
  exact a1
theorem ref_full {n : Nat} {l : List Bool} {P : Nat → Prop} (h : Is n l P) (hn : n ≤ 1000000) : ∃ b, Ev (fun k => mizmazeref02_Full.f k l) b ∧ (b = true ↔ ∀ t, t < n → P t) := by
  have hl := h.1
  by_cases hc : ∀ t, t < n → P t
  · refine ⟨true, ?_, by simp only [true_iff]; exact hc⟩
    refine @Ev.every Bool (fun k i => mizmazeref02_Full.l0 k l (i : Int)) n true false true (fun _ => true) (fun _ => rfl) (fun _ _ h => nomatch h) (fun i hi _ hr => ?_) (fun _ _ h => nomatch h) ?_
    · refine Ev.next ?_
      simp only [mizmazeref02_Full.l0, if_pos (by omega : (i : Int) < (l.length : Int)), if_pos (by omega : (0 : Int) ≤ (i : Int)), (h.2 i hi).2 (hc i hi), if_true, wrapS (by omega : i + 1 ≤ 9223372036854775807)]
      exact hr
    · refine Ev.next ?_
      simp only [mizmazeref02_Full.l0, if_neg (by omega : ¬ (n : Int) < (l.length : Int))]
      exact Ev.now _
  · refine ⟨false, ?_, by simp only [Bool.false_eq_true, false_iff]; exact hc⟩
    refine @Ev.every Bool (fun k i => mizmazeref02_Full.l0 k l (i : Int)) n true false false (fun i => rdOf false l (i : Int)) (fun h2 => absurd (fun t ht => (h.2 t ht).1 (h2 t ht)) hc) (fun _ _ _ => rfl) (fun i hi hp hr => ?_) (fun i hi hp => ?_) ?_
    · refine Ev.next ?_
      simp only [mizmazeref02_Full.l0, if_pos (by omega : (i : Int) < (l.length : Int)), if_pos (by omega : (0 : Int) ≤ (i : Int)), hp, if_true, wrapS (by omega : i + 1 ≤ 9223372036854775807)]
      exact hr
    · refine Ev.next ?_
      simp only [mizmazeref02_Full.l0, if_pos (by omega : (i : Int) < (l.length : Int)), if_pos (by omega : (0 : Int) ≤ (i : Int)), hp, Bool.false_eq_true, if_false]
      exact Ev.now _
    · refine Ev.next ?_
      simp only [mizmazeref02_Full.l0, if_neg (by omega : ¬ (n : Int) < (l.length : Int))]
      exact Ev.now _
end Go.Proofs.Ytjgdalhdiohclaa.Q
end
/-! Part MConn -/
section
namespace Go.Proofs.Ytjgdalhdiohclaa.Q
open Go.RowKit Go.Proofs.YtjgdalhdiohclaaW.PrintWords Go.Proofs.YtjgdalhdiohclaaW.PrintLast Go.Proofs.YtjgdalhdiohclaaW.PrintMore
set_option linter.unusedVariables false
/-- Strongly connected. -/
def SC (f : Nat → Nat → Nat) (n m : Nat) : Prop := ∀ s, s < n → ∀ t, t < n → Conn f m s t
theorem ref_connected {rows : List (List Int)} {n m : Nat} (V : VA rows n m) : ∃ b, Ev (fun k => mizmazeref02_Connected.f k rows) b ∧ (b = true ↔ SC (nx rows) n m) := by
  have hlen := V.len; have h60 := V.n60
  have hall : ∀ s, s < n → ∃ b l, Ev (fun k => mizmazeref02_Reach.f k rows (s : Int)) l ∧ Ev (fun k => mizmazeref02_Full.f k l) b ∧ (b = true ↔ ∀ t, t < n → Conn (nx rows) m s t) := fun s hs => by
    obtain ⟨l, h1, h2⟩ := ref_reach V hs
    obtain ⟨b, h3, h4⟩ := ref_full h2 (by omega)
    exact ⟨b, l, h1, h3, h4⟩
  have main : ∀ r : Bool, (r = true ↔ SC (nx rows) n m) → Ev (fun k => mizmazeref02_Connected.l0 k 0 rows) r := by
    intro r hr
    refine @Ev.every Bool (fun k i => mizmazeref02_Connected.l0 k (i : Int) rows) n true false r (fun s => @decide (∀ t, t < n → Conn (nx rows) m s t) (Classical.propDecidable _)) ?_ ?_ ?_ ?_ ?_
    · intro h; exact hr.2 fun s hs t ht => (@of_decide_eq_true _ (Classical.propDecidable _) (h s hs)) t ht
    · intro s hs h; rw [Bool.eq_false_iff]; intro h2; exact (@of_decide_eq_false _ (Classical.propDecidable _) h) (hr.1 h2 s hs)
    · intro s hs hp h
      obtain ⟨b, l, h1, h2, h3⟩ := hall s hs
      obtain rfl := h3.2 (@of_decide_eq_true _ (Classical.propDecidable _) hp)
      refine Ev.next ?_
      simp only [mizmazeref02_Connected.l0, if_pos (by omega : (s : Int) < (rows.length : Int)), wrapS (by omega : s + 1 ≤ 9223372036854775807)]
      refine Ev.bind h1 (Ev.bind h2 ?_)
      simp only [if_true]; exact h
    · intro s hs hp
      obtain ⟨b, l, h1, h2, h3⟩ := hall s hs
      obtain rfl : b = false := by rw [Bool.eq_false_iff]; exact fun h => (@of_decide_eq_false _ (Classical.propDecidable _) hp) (h3.1 h)
      refine Ev.next ?_
      simp only [mizmazeref02_Connected.l0, if_pos (by omega : (s : Int) < (rows.length : Int))]
      refine Ev.bind h1 (Ev.bind h2 ?_)
      simp only [Bool.false_eq_true, if_false]; exact Ev.now _
    · refine Ev.next ?_
      simp only [mizmazeref02_Connected.l0, if_neg (by omega : ¬ (n : Int) < (rows.length : Int))]
      exact Ev.now _
  exact ⟨@decide (SC (nx rows) n m) (Classical.propDecidable _), main _ (@decide_eq_true_iff _ (Classical.propDecidable _)), @decide_eq_true_iff _ (Classical.propDecidable _)⟩
theorem slices_contains_false {n : Nat} {l : List Bool} {P : Nat → Prop} (h : Is n l P) (hn : n ≤ 1000000) : ∃ b, Ev (fun k => slices_Contains_bool_bool.f k l false) b ∧ (b = false ↔ ∀ t, t < n → P t) := by
  have hl := h.1
  have key : ∀ d i : Nat, i + d = n → ∃ z : Int, Ev (fun k => slices_Index_bool_bool.l0 k l false (l.length : Int) (i : Int)) z ∧ (z < 0 ↔ ∀ t, i ≤ t → t < n → P t) := by
    intro d
    induction d with
    | zero =>
      intro i hi
      refine ⟨-1, ?_, by simp; intro t h1 h2; omega⟩
      refine Ev.next ?_
      simp only [slices_Index_bool_bool.l0, if_neg (by omega : ¬ (i : Int) < (l.length : Int))]
      exact Ev.now _
    | succ d ih =>
      intro i hi
      have hin : i < n := by omega
      cases hc : rdOf false l (i : Int) with
      | false =>
        refine ⟨(i : Int), ?_, ⟨fun h => by omega, fun h2 => ?_⟩⟩
        · refine Ev.next ?_
          simp only [slices_Index_bool_bool.l0, if_pos (by omega : (i : Int) < (l.length : Int)), if_pos (by omega : (0 : Int) ≤ (i : Int)), hc, BEq.rfl, if_true]
          exact Ev.now _
        · have := (h.2 i hin).2 (h2 i (Nat.le_refl i) hin); rw [hc] at this; simp at this
      | true =>
        obtain ⟨z, h1, h2⟩ := ih (i + 1) (by omega)
        refine ⟨z, ?_, h2.trans ⟨fun h3 t h4 h5 => ?_, fun h3 t h4 h5 => h3 t (by omega) h5⟩⟩
        · refine Ev.next ?_
          simp only [slices_Index_bool_bool.l0, if_pos (by omega : (i : Int) < (l.length : Int)), if_pos (by omega : (0 : Int) ≤ (i : Int)), hc, (by decide : (false == true) = false), Bool.false_eq_true, if_false, wrapS (by omega : i + 1 ≤ 9223372036854775807)]
          exact h1
        · by_cases e : t = i
          · subst e; exact (h.2 t h5).1 hc
          · exact h3 t (by omega) h5
  obtain ⟨z, h1, h2⟩ := key n 0 (by omega)
  refine ⟨decide (z ≥ 0), ?_, ?_⟩
  · unfold slices_Contains_bool_bool.f
    refine Ev.bind (a := z) ?_ (Ev.now _)
    unfold slices_Index_bool_bool.f; exact h1
  · rw [decide_eq_false_iff_not]
    exact ⟨fun h3 t ht => h2.1 (by omega) t (Nat.zero_le t) ht, fun h3 => by have := h2.2 fun t _ ht => h3 t ht; omega⟩
theorem net_connects {rows : List (List Int)} {n m : Nat} (V : VA rows n m) {r : Bool} (hr : r = true ↔ SC (nx rows) n m) : Ev (fun k => net_connected.f k rows) r := by
  have hlen := V.len; have h60 := V.n60
  have hall : ∀ s, s < n → ∃ b l, Ev (fun k => net_reach.f k rows (s : Int)) l ∧ Ev (fun k => slices_Contains_bool_bool.f k l false) b ∧ (b = false ↔ ∀ t, t < n → Conn (nx rows) m s t) := fun s hs => by
    obtain ⟨l, h1, h2⟩ := net_reaches V hs
    obtain ⟨b, h3, h4⟩ := slices_contains_false h2 (by omega)
    exact ⟨b, l, h1, h3, h4⟩
  unfold net_connected.f
  rw [hlen]
  refine @Ev.every Bool (fun k i => net_connected.l0 k (n : Int) (i : Int) rows) n true false r (fun s => @decide (∀ t, t < n → Conn (nx rows) m s t) (Classical.propDecidable _)) ?_ ?_ ?_ ?_ ?_
  · intro h; exact hr.2 fun s hs t ht => (@of_decide_eq_true _ (Classical.propDecidable _) (h s hs)) t ht
  · intro s hs h; rw [Bool.eq_false_iff]; intro h2; exact (@of_decide_eq_false _ (Classical.propDecidable _) h) (hr.1 h2 s hs)
  · intro s hs hp h
    obtain ⟨b, l, h1, h2, h3⟩ := hall s hs
    obtain rfl := h3.2 (@of_decide_eq_true _ (Classical.propDecidable _) hp)
    refine Ev.next ?_
    simp only [net_connected.l0, if_pos (by omega : (s : Int) < (n : Int)), wrapS (by omega : s + 1 ≤ 9223372036854775807)]
    refine Ev.bind h1 (Ev.bind h2 ?_)
    simp only [Bool.false_eq_true, if_false]; exact h
  · intro s hs hp
    obtain ⟨b, l, h1, h2, h3⟩ := hall s hs
    obtain rfl : b = true := by
      cases hb : b with
      | true => rfl
      | false => exact absurd (h3.1 hb) (@of_decide_eq_false _ (Classical.propDecidable _) hp)
    refine Ev.next ?_
    simp only [net_connected.l0, if_pos (by omega : (s : Int) < (n : Int))]
    refine Ev.bind h1 (Ev.bind h2 ?_)
    simp only [if_true]; exact Ev.now _
  · refine Ev.next ?_
    simp only [net_connected.l0, if_neg (by omega : ¬ (n : Int) < (n : Int))]
    exact Ev.now _
theorem VA.of {rows : List (List Int)} (h : validB rows = true) : VA rows rows.length (rd_L1 rows 0).length := validB_iff.1 h
end Go.Proofs.Ytjgdalhdiohclaa.Q
end
/-! Part MLens -/
section
namespace Go.Proofs.Ytjgdalhdiohclaa.Q
open Go.RowKit Go.Proofs.YtjgdalhdiohclaaW.PrintWords Go.Proofs.YtjgdalhdiohclaaW.PrintLast Go.Proofs.YtjgdalhdiohclaaW.PrintMore
set_option linter.unusedVariables false
/-! ### net.lengths: breadth first from state 0 -/
theorem rdI_put {l : List Int} {i j : Nat} {v : Int} (hj : j < l.length) : rd (l.set i v) (j : Int) = if i = j then v else rd l (j : Int) := by
  rw [rdE (by rw [List.length_set]; exact hj), rdE hj, List.getElem_set]
/-- Some word of k letters leads from s to t. -/
def Walk (f : Nat → Nat → Nat) (m k s t : Nat) : Prop := ∃ w, Wd m w ∧ w.length = k ∧ run f s w = t
theorem Walk.refl (f : Nat → Nat → Nat) (m s : Nat) : Walk f m 0 s s := ⟨[], Wd.nil m, rfl, rfl⟩
theorem Walk.trans {f : Nat → Nat → Nat} {m j k s t u : Nat} (h : Walk f m j s t) (h2 : Walk f m k t u) : Walk f m (j + k) s u := by
  obtain ⟨v, a1, a2, rfl⟩ := h; obtain ⟨w, b1, b2, rfl⟩ := h2
  exact ⟨v ++ w, a1.app b1, by rw [List.length_append]; omega, run_app f v w s⟩
theorem Walk.one {f : Nat → Nat → Nat} {m x s : Nat} (h : x < m) : Walk f m 1 s (f s x) := ⟨[x], Wd.one h, rfl, rfl⟩
def toI' (w : List Nat) : List Int := w.map fun (x : Nat) => (x : Int)
/-- The numbers on the states that are met. -/
structure Lens (f : Nat → Nat → Nat) (m n : Nat) (out : List Int) (met : List Bool) (q : List Nat) (i x : Nat) : Prop where
  len : out.length = n
  met : Is n met (· ∈ q)
  st : q[0]? = some 0
  lt : ∀ t ∈ q, t < n
  nd : q.Nodup
  ok : ∀ (j t : Nat), q[j]? = some t → ∃ d : Nat, d ≤ j ∧ rd out (t : Int) = (d : Int) ∧ Walk f m d 0 t
  zero : rd out 0 = 0
  done : ∀ (j t y : Nat), q[j]? = some t → y < m → (j < i ∨ j = i ∧ y < x) → f t y ∈ q
theorem net_lens {rows : List (List Int)} {n m : Nat} (V : VA rows n m) : ∃ out, Ev (fun k => net_lengths.f k rows) out ∧ out.length = n ∧ rd out 0 = 0 ∧ ∀ t, Conn (nx rows) m 0 t → ∃ d : Nat, d < n ∧ rd out (t : Int) = (d : Int) ∧ Walk (nx rows) m d 0 t := by
  have hlen := V.len; have h60 := V.n60; have h6 := V.m6; have hn0 := V.n0
  have qlen : ∀ {out met q i x}, Lens (nx rows) m n out met q i x → q.length ≤ n := fun L => nodup_le n _ L.nd L.lt
  have stop : ∀ (i : Nat) (out : List Int) (met : List Bool) (q : List Nat), q.length ≤ i → Lens (nx rows) m n out met q i 0 → ∃ r, Ev (fun k => net_lengths.l0 k out met (toI' q) (i : Int) rows) r ∧ r.length = n ∧ rd r 0 = 0 ∧ ∀ t, Conn (nx rows) m 0 t → ∃ d : Nat, d < n ∧ rd r (t : Int) = (d : Int) ∧ Walk (nx rows) m d 0 t := by
    intro i out met q hi L
    refine ⟨out, ?_, L.len, L.zero, fun t ht => ?_⟩
    · refine Ev.next ?_
      simp only [net_lengths.l0, toI', List.length_map, if_neg (by omega : ¬ (i : Int) < (q.length : Int))]
      exact Ev.now _
    · have hm : t ∈ q := ht.closed (P := (· ∈ q)) (List.mem_of_getElem? L.st) fun u x hu hx => by
        obtain ⟨j, hj⟩ := List.mem_iff_getElem?.1 hu
        exact L.done j u x hj hx (Or.inl (by have := (List.getElem?_eq_some_iff.1 hj).1; omega))
      obtain ⟨j, hj⟩ := List.mem_iff_getElem?.1 hm
      obtain ⟨d, h1, h2, h3⟩ := L.ok j t hj
      exact ⟨d, by have := (List.getElem?_eq_some_iff.1 hj).1; have := qlen L; omega, h2, h3⟩
  have key : ∀ (g i : Nat) (out : List Int) (met : List Bool) (q : List Nat), i + g = n + 1 → Lens (nx rows) m n out met q i 0 → ∃ r, Ev (fun k => net_lengths.l0 k out met (toI' q) (i : Int) rows) r ∧ r.length = n ∧ rd r 0 = 0 ∧ ∀ t, Conn (nx rows) m 0 t → ∃ d : Nat, d < n ∧ rd r (t : Int) = (d : Int) ∧ Walk (nx rows) m d 0 t := by
    intro g
    induction g with
    | zero => intro i out met q hi L; exact stop i out met q (by have := qlen L; omega) L
    | succ g ih =>
      intro i out met q hi L
      by_cases hq : q.length ≤ i
      · exact stop i out met q hq L
      · have hiq : i < q.length := by omega
        have he : q[i]? = some q[i] := List.getElem?_eq_getElem hiq
        generalize q[i] = s at he
        have hs := L.lt s (List.mem_of_getElem? he)
        have hrow := V.row s hs
        have hrd : ∀ q' : List Nat, q'[i]? = some s → rd (toI' q') (i : Int) = (s : Int) := by
          intro q' h
          have := (List.getElem?_eq_some_iff.1 h)
          rw [rdE (by unfold toI'; rw [List.length_map]; exact this.1)]
          simp only [toI', List.getElem_map]; rw [this.2]
        have inner : ∀ (e x : Nat) (out : List Int) (met : List Bool) (q : List Nat), x + e = m → q[i]? = some s → Lens (nx rows) m n out met q i x → ∃ r, Ev (fun k => net_lengths.l1 k out met (toI' q) (i : Int) (rd_L1 rows (s : Int)) ((rd_L1 rows (s : Int)).length : Int) (x : Int) rows) r ∧ r.length = n ∧ rd r 0 = 0 ∧ ∀ t, Conn (nx rows) m 0 t → ∃ d : Nat, d < n ∧ rd r (t : Int) = (d : Int) ∧ Walk (nx rows) m d 0 t := by
          intro e
          induction e with
          | zero =>
            intro x out met q hx he L
            obtain rfl : x = m := by omega
            obtain ⟨r, h1, h2⟩ := ih (i + 1) out met q (by omega) ⟨L.len, L.met, L.st, L.lt, L.nd, L.ok, L.zero, fun j t y hj hy hd => L.done j t y hj hy (by omega)⟩
            refine ⟨r, ?_, h2⟩
            refine Ev.next ?_
            simp only [net_lengths.l1, if_neg (by omega : ¬ (x : Int) < ((rd_L1 rows (s : Int)).length : Int)), wrapS (by omega : i + 1 ≤ 9223372036854775807)]
            exact h1
          | succ e ih2 =>
            intro x out met q hx he L
            have hxm : x < m := by omega
            have hu := V.nxLt hs hxm
            have hiq := (List.getElem?_eq_some_iff.1 he).1
            have hml := L.met.1; have hol := L.len; have hql := qlen L
            have hqi : (toI' q).length = q.length := by unfold toI'; rw [List.length_map]
            by_cases hin : nx rows s x ∈ q
            · obtain ⟨r, h1, h2⟩ := ih2 (x + 1) out met q (by omega) he ⟨L.len, L.met, L.st, L.lt, L.nd, L.ok, L.zero, fun j t y hj hy hd => by
                by_cases h3 : j < i ∨ j = i ∧ y < x
                · exact L.done j t y hj hy h3
                · obtain rfl : j = i := by omega
                  obtain rfl : y = x := by omega
                  rw [he] at hj; obtain rfl := Option.some.inj hj; exact hin⟩
              refine ⟨r, ?_, h2⟩
              refine Ev.next ?_
              simp only [net_lengths.l1, if_pos (by omega : (x : Int) < ((rd_L1 rows (s : Int)).length : Int)), if_pos (by omega : (0 : Int) ≤ (x : Int)), V.nxE hs hxm, if_pos (by omega : (0 : Int) ≤ ((nx rows s x : Nat) : Int)), if_pos (by omega : ((nx rows s x : Nat) : Int) < (met.length : Int)), (L.met.2 _ hu).2 hin, if_true, wrapS (by omega : x + 1 ≤ 9223372036854775807)]
              exact h1
            · obtain ⟨d, hd1, hd2, hd3⟩ := L.ok i s he
              have hrdo : ∀ t, t < n → rd (out.set (nx rows s x) ((d + 1 : Nat) : Int)) (t : Int) = if nx rows s x = t then ((d + 1 : Nat) : Int) else rd out (t : Int) := fun t ht => rdI_put (by omega)
              have h0m : (0 : Nat) ∈ q := List.mem_of_getElem? L.st
              have ap : ∀ (j t : Nat), (q ++ [nx rows s x])[j]? = some t → (q[j]? = some t ∧ j < q.length) ∨ (j = q.length ∧ t = nx rows s x) := by
                intro j a h
                rcases Nat.lt_trichotomy j q.length with h1 | h1 | h1
                · rw [List.getElem?_append_left h1] at h; exact Or.inl ⟨h, h1⟩
                · subst h1; rw [List.getElem?_append_right (Nat.le_refl _)] at h; simp at h; exact Or.inr ⟨rfl, h.symm⟩
                · rw [List.getElem?_eq_none (by rw [List.length_append]; simp; omega)] at h; exact absurd h (by simp)
              have L2 : Lens (nx rows) m n (out.set (nx rows s x) ((d + 1 : Nat) : Int)) (met.set (nx rows s x) true) (q ++ [nx rows s x]) i (x + 1) := by
                refine ⟨by rw [List.length_set]; exact hol, (L.met.set).imp fun t _ => ?_, ?_, ?_, ?_, ?_, ?_, ?_⟩
                · rw [List.mem_append, List.mem_singleton]; exact ⟨fun h => h.elim Or.inl fun h => Or.inr h.symm, fun h => h.elim Or.inl fun h => Or.inr h.symm⟩
                · rw [List.getElem?_append_left (by omega)]; exact L.st
                · intro t ht
                  rcases List.mem_append.1 ht with h | h
                  · exact L.lt t h
                  · rw [List.mem_singleton.1 h]; exact hu
                · rw [List.nodup_append]
                  refine ⟨L.nd, by simp, fun a ha b hb h => ?_⟩
                  rw [List.mem_singleton.1 hb] at h; exact hin (h ▸ ha)
                · intro j t hj
                  rcases ap j t hj with ⟨h1, h2⟩ | ⟨rfl, rfl⟩
                  · obtain ⟨d', a1, a2, a3⟩ := L.ok j t h1
                    have hne : nx rows s x ≠ t := fun h => hin (h ▸ List.mem_of_getElem? h1)
                    exact ⟨d', a1, by rw [hrdo t (L.lt t (List.mem_of_getElem? h1)), if_neg hne]; exact a2, a3⟩
                  · exact ⟨d + 1, by omega, by rw [hrdo _ hu, if_pos rfl], hd3.trans (Walk.one hxm)⟩
                · have := hrdo 0 hn0
                  rw [if_neg (fun h => hin (by rw [h]; exact h0m))] at this
                  exact this.trans L.zero
                · intro j t y hj hy hd
                  rcases ap j t hj with ⟨h1, h2⟩ | ⟨rfl, _⟩
                  · by_cases h3 : j < i ∨ j = i ∧ y < x
                    · exact List.mem_append.2 (Or.inl (L.done j t y h1 hy h3))
                    · obtain rfl : j = i := by omega
                      obtain rfl : y = x := by omega
                      rw [he] at h1; obtain rfl := Option.some.inj h1; simp
                  · omega
              obtain ⟨r, h1, h2⟩ := ih2 (x + 1) _ _ _ (by omega) (by rw [List.getElem?_append_left hiq]; exact he) L2
              refine ⟨r, ?_, h2⟩
              refine Ev.next ?_
              have hmf : ¬ rdOf false met ((nx rows s x : Nat) : Int) = true := fun h => hin ((L.met.2 _ hu).1 h)
              have hap : toI' q ++ [((nx rows s x : Nat) : Int)] = toI' (q ++ [nx rows s x]) := by simp [toI']
              have hwd : wrap64 ((d : Int) + 1) = ((d + 1 : Nat) : Int) := wrapS (by omega)
              simp only [net_lengths.l1, if_pos (by omega : (x : Int) < ((rd_L1 rows (s : Int)).length : Int)), if_pos (by omega : (0 : Int) ≤ (x : Int)), V.nxE hs hxm, if_pos (by omega : (0 : Int) ≤ ((nx rows s x : Nat) : Int)), if_pos (by omega : ((nx rows s x : Nat) : Int) < (met.length : Int)), if_neg hmf, if_pos (by omega : (0 : Int) ≤ (i : Int)), if_pos (by omega : (i : Int) < ((toI' q).length : Int)), hrd q he, if_pos (by omega : (0 : Int) ≤ (s : Int)), if_pos (by omega : (s : Int) < (out.length : Int)), if_pos (by omega : ((nx rows s x : Nat) : Int) < (out.length : Int)), if_pos (by omega : (toI' q).length < 17592186044416), hd2, hwd, hap, Int.toNat_natCast, wrapS (by omega : x + 1 ≤ 9223372036854775807)]
              exact h1
        obtain ⟨r, h1, h2⟩ := inner m 0 out met q (by omega) he L
        refine ⟨r, ?_, h2⟩
        refine Ev.next ?_
        simp only [net_lengths.l0, if_pos (by unfold toI'; rw [List.length_map]; omega : (i : Int) < ((toI' q).length : Int)), if_pos (by omega : (0 : Int) ≤ (i : Int)), hrd q he, if_pos (by omega : (0 : Int) ≤ (s : Int)), if_pos (by omega : (s : Int) < (rows.length : Int))]
        exact h1
  have L0 : Lens (nx rows) m n (List.replicate n 0) ((List.replicate n false).set 0 true) [0] 0 0 := by
    have hz : rd (List.replicate n 0) 0 = 0 := by
      have := rdE (l := List.replicate n (0 : Int)) (i := 0) (by rw [List.length_replicate]; exact hn0)
      rw [List.getElem_replicate] at this; exact this
    refine ⟨List.length_replicate, (Is.none.set).imp fun t _ => by simp [eq_comm], rfl, by simp; exact hn0, by simp, fun j t hj => ?_, hz, fun j t y _ _ h => by omega⟩
    cases j with
    | zero => simp at hj; subst hj; exact ⟨0, Nat.le_refl 0, hz, Walk.refl _ _ _⟩
    | succ j => simp at hj
  obtain ⟨r, h1, h2⟩ := key (n + 1) 0 _ _ _ (by omega) L0
  refine ⟨r, ?_, h2⟩
  unfold net_lengths.f
  simp only [if_pos (by omega : (0 : Int) ≤ (rows.length : Int)), Int.toNat_natCast, if_pos (by omega : rows.length ≤ 35184372088832), if_pos (by omega : rows.length ≤ 281474976710656), Option.bind_some, List.length_replicate, if_pos (by omega : 0 < (rows.length : Int))]
  rw [hlen]
  exact h1
end Go.Proofs.Ytjgdalhdiohclaa.Q
end
/-! Part MPeriod -/
section
namespace Go.Proofs.Ytjgdalhdiohclaa.Q
open Go.RowKit Go.Proofs.YtjgdalhdiohclaaW.PrintWords Go.Proofs.YtjgdalhdiohclaaW.PrintLast Go.Proofs.YtjgdalhdiohclaaW.PrintMore
set_option linter.unusedVariables false
/-! ### greatest common divisors -/
theorem tmod_nat (a b : Nat) : Int.tmod (a : Int) (b : Int) = ((a % b : Nat) : Int) := by
  rw [Int.tmod_eq_emod_of_nonneg (Int.natCast_nonneg a)]; rfl
theorem net_gcd (b : Nat) : ∀ a : Nat, Ev (fun k => net_common.f k (a : Int) (b : Int)) ((Nat.gcd a b : Nat) : Int) := by
  unfold net_common.f
  induction b using Nat.strongRecOn with
  | _ b ih =>
    intro a
    refine Ev.next ?_
    by_cases h : b = 0
    · subst h
      simp only [net_common.l0, if_neg (by omega : ¬ ((0 : Nat) : Int) > 0), Nat.gcd_zero_right]
      exact Ev.now _
    · simp only [net_common.l0, if_pos (by omega : (b : Int) > 0), if_neg (by omega : ¬ (b : Int) = 0), tmod_nat]
      have := ih (a % b) (Nat.mod_lt _ (by omega)) b
      rwa [Nat.gcd_comm, ← Nat.gcd_rec, Nat.gcd_comm] at this
theorem ref_gcd (b : Nat) : ∀ a : Nat, Ev (fun k => mizmazeref02_common.f k (a : Int) (b : Int)) ((Nat.gcd a b : Nat) : Int) := by
  induction b using Nat.strongRecOn with
  | _ b ih =>
    intro a
    refine Ev.next ?_
    by_cases h : b = 0
    · subst h
      simp only [mizmazeref02_common.f, Int.natCast_zero, if_true, Nat.gcd_zero_right]
      exact Ev.now _
    · simp only [mizmazeref02_common.f, if_neg (by omega : ¬ (b : Int) = 0), tmod_nat]
      have := ih (a % b) (Nat.mod_lt _ (by omega)) b
      rw [Nat.gcd_comm, ← Nat.gcd_rec, Nat.gcd_comm] at this
      exact Ev.bind this (Ev.now _)
/-- Numbers on the states: lengths of walks from state 0. -/
structure Numbered (f : Nat → Nat → Nat) (m n : Nat) (l : Nat → Nat) : Prop where
  zero : l 0 = 0
  lt : ∀ t, t < n → l t < n
  walk : ∀ t, t < n → Walk f m (l t) 0 t
/-- What the period of the numbers is: it divides what each edge is off. -/
structure Off (f : Nat → Nat → Nat) (m n : Nat) (l : Nat → Nat) (d : Nat) : Prop where
  dvd : ∀ s x, s < n → x < m → (d : Int) ∣ (l s : Int) + 1 - (l (f s x) : Int)
  max : ∀ g : Nat, (∀ s x, s < n → x < m → (g : Int) ∣ (l s : Int) + 1 - (l (f s x) : Int)) → g ∣ d
theorem Off.walk {f : Nat → Nat → Nat} {m n d : Nat} {l : Nat → Nat} (hf : ∀ s x, s < n → x < m → f s x < n) (h : ∀ s x, s < n → x < m → (d : Int) ∣ (l s : Int) + 1 - (l (f s x) : Int)) : ∀ (w : List Nat) (s : Nat), s < n → Wd m w → (d : Int) ∣ (l s : Int) + (w.length : Int) - (l (run f s w) : Int) := by
  intro w
  induction w with
  | nil => intro s hs _; simp [run]
  | cons x w ih =>
    intro s hs hw
    have h1 := h s x hs (hw x List.mem_cons_self)
    have h2 := ih (f s x) (hf s x hs (hw x List.mem_cons_self)) (fun y hy => hw y (List.mem_cons_of_mem _ hy))
    have h3 := Int.dvd_add h1 h2
    have e : ((l s : Int) + 1 - (l (f s x) : Int)) + ((l (f s x) : Int) + (w.length : Int) - (l (run f (f s x) w) : Int)) = (l s : Int) + ((x :: w).length : Int) - (l (run f s (x :: w)) : Int) := by
      rw [List.length_cons]; show _ = (l s : Int) + ((w.length + 1 : Nat) : Int) - (l (run f (f s x) w) : Int); omega
    rwa [e] at h3
/-- The period, by the closed walks. -/
structure Per (f : Nat → Nat → Nat) (m n d : Nat) : Prop where
  dvd : ∀ k, Walk f m k 0 0 → d ∣ k
  max : ∀ g : Nat, (∀ k, 1 ≤ k → k ≤ 3 * n → Walk f m k 0 0 → g ∣ k) → g ∣ d
theorem back_short {rows : List (List Int)} {n m : Nat} (V : VA rows n m) (hc : SC (nx rows) n m) {s t : Nat} (hs : s < n) (ht : t < n) : ∃ k, k < n ∧ Walk (nx rows) m k s t := by
  obtain ⟨w, h1, h2⟩ := hc s hs t ht
  obtain ⟨v, h3, h4, h5, _⟩ := short_word (fun s x => V.nxLt) _ w s (Nat.le_refl _) hs h1
  exact ⟨v.length, h5, v, h3, rfl, h4.trans h2⟩
theorem Off.per {rows : List (List Int)} {n m d : Nat} {l : Nat → Nat} (V : VA rows n m) (hc : SC (nx rows) n m) (N : Numbered (nx rows) m n l) (O : Off (nx rows) m n l d) : Per (nx rows) m n d := by
  refine ⟨fun k ⟨w, h1, h2, h3⟩ => ?_, fun g hg => O.max g fun s x hs hx => ?_⟩
  · have := Off.walk (fun s x => V.nxLt) O.dvd w 0 V.n0 h1
    rw [h3, h2, N.zero] at this
    simp at this; exact Int.ofNat_dvd.1 (by simpa using this)
  · have ht := V.nxLt hs hx
    obtain ⟨k, hk, hw⟩ := back_short V hc ht V.n0
    have w1 := ((N.walk s hs).trans (Walk.one hx)).trans hw
    have w2 := (N.walk _ ht).trans hw
    have b1 := N.lt s hs; have b2 := N.lt _ ht
    have d1 := hg _ (by omega) (by omega) w1
    have d2 : g ∣ l (nx rows s x) + k := by
      by_cases h0 : l (nx rows s x) + k = 0
      · rw [h0]; exact Nat.dvd_zero g
      · exact hg _ (by omega) (by omega) w2
    have := Int.dvd_sub (Int.ofNat_dvd.2 d1) (Int.ofNat_dvd.2 d2)
    have e : ((l s + 1 + k : Nat) : Int) - ((l (nx rows s x) + k : Nat) : Int) = (l s : Int) + 1 - (l (nx rows s x) : Int) := by omega
    rwa [e] at this
theorem mx_abs {a b : Nat} (ha : a ≤ 100) (hb : b ≤ 100) : mx (wrap64 ((wrap64 ((a : Int) + 1)) - (b : Int))) (wrap64 (-(wrap64 ((wrap64 ((a : Int) + 1)) - (b : Int))))) = ((((a : Int) + 1 - (b : Int)).natAbs : Nat) : Int) := by
  have w1 : wrap64 ((a : Int) + 1) = (a : Int) + 1 := wrapI (by omega) (by omega)
  rw [w1]
  generalize hz : ((a : Int) + 1 - (b : Int)) = z
  rw [wrapI (by omega : -9223372036854775808 ≤ z) (by omega), wrapI (by omega : -9223372036854775808 ≤ -z) (by omega)]
  unfold mx; split <;> omega
theorem net_period {rows : List (List Int)} {n m : Nat} (V : VA rows n m) (hc : SC (nx rows) n m) : ∃ (d : Nat) (out : List Int) (l : Nat → Nat), Ev (fun k => net_period.f k rows) (d : Int) ∧ Ev (fun k => net_lengths.f k rows) out ∧ out.length = n ∧ (∀ t, t < n → rd out (t : Int) = (l t : Int)) ∧ Numbered (nx rows) m n l ∧ Off (nx rows) m n l d := by
  have hlen := V.len; have h60 := V.n60; have h6 := V.m6
  obtain ⟨out, h1, h2, h3, h4⟩ := net_lens V
  have hl : ∀ t, t < n → rd out (t : Int) = ((rd out (t : Int)).toNat : Int) ∧ (rd out (t : Int)).toNat < n ∧ Walk (nx rows) m (rd out (t : Int)).toNat 0 t := fun t ht => by
    obtain ⟨d, a1, a2, a3⟩ := h4 t (hc 0 V.n0 t ht)
    rw [a2]; exact ⟨by simp, by simpa using a1, by simpa using a3⟩
  generalize hL : (fun t : Nat => (rd out (t : Int)).toNat) = l
  have hl' : ∀ t, t < n → rd out (t : Int) = (l t : Int) ∧ l t < n ∧ Walk (nx rows) m (l t) 0 t := fun t ht => by rw [← hL]; exact hl t ht
  have hz : l 0 = 0 := by rw [← hL]; show (rd out ((0 : Nat) : Int)).toNat = 0; rw [show ((0 : Nat) : Int) = 0 from rfl, h3]; rfl
  have NN : Numbered (nx rows) m n l := ⟨hz, fun t ht => (hl' t ht).2.1, fun t ht => (hl' t ht).2.2⟩
  -- what the loops have gathered
  have states : ∀ (g s d : Nat), s + g = n → (∀ u y, u < s → y < m → (d : Int) ∣ (l u : Int) + 1 - (l (nx rows u y) : Int)) → (∀ h : Nat, (∀ u y, u < s → y < m → (h : Int) ∣ (l u : Int) + 1 - (l (nx rows u y) : Int)) → h ∣ d) → ∃ r : Nat, Ev (fun k => net_period.l0 k out (d : Int) rows (n : Int) (s : Int)) (r : Int) ∧ Off (nx rows) m n l r := by
    intro g
    induction g with
    | zero =>
      intro s d hs ha hb
      obtain rfl : s = n := by omega
      refine ⟨d, ?_, ha, hb⟩
      refine Ev.next ?_
      simp only [net_period.l0, if_neg (by omega : ¬ (s : Int) < (s : Int))]
      exact Ev.now _
    | succ g ih =>
      intro s d hs ha hb
      have hsn : s < n := by omega
      have hrow := V.row s hsn
      have letters : ∀ (e x d : Nat), x + e = m → (∀ u y, (u < s ∨ u = s ∧ y < x) → y < m → (d : Int) ∣ (l u : Int) + 1 - (l (nx rows u y) : Int)) → (∀ h : Nat, (∀ u y, (u < s ∨ u = s ∧ y < x) → y < m → (h : Int) ∣ (l u : Int) + 1 - (l (nx rows u y) : Int)) → h ∣ d) → ∃ r : Nat, Ev (fun k => net_period.l1 k out (d : Int) (s : Int) rows (n : Int) (s : Int) (rd_L1 rows (s : Int)) ((rd_L1 rows (s : Int)).length : Int) (x : Int)) (r : Int) ∧ Off (nx rows) m n l r := by
        intro e
        induction e with
        | zero =>
          intro x d hx ha hb
          obtain rfl : x = m := by omega
          obtain ⟨r, a1, a2⟩ := ih (s + 1) d (by omega) (fun u y hu hy => ha u y (by omega) hy) (fun h hh => hb h fun u y hu hy => hh u y (by omega) hy)
          refine ⟨r, ?_, a2⟩
          refine Ev.next ?_
          simp only [net_period.l1, if_neg (by omega : ¬ (x : Int) < ((rd_L1 rows (s : Int)).length : Int)), wrapS (by omega : s + 1 ≤ 9223372036854775807)]
          exact a1
        | succ e ih2 =>
          intro x d hx ha hb
          have hxm : x < m := by omega
          have hu := V.nxLt hsn hxm
          have e1 := hl' s hsn; have e2 := hl' _ hu
          -- how much this edge is off
          have hmx := mx_abs (a := l s) (b := l (nx rows s x)) (by omega) (by omega)
          generalize hz : ((l s : Int) + 1 - (l (nx rows s x) : Int)) = z at hmx
          obtain ⟨r, a1, a2⟩ := ih2 (x + 1) (Nat.gcd d z.natAbs) (by omega) (fun u y hu' hy => by
            by_cases h : u < s ∨ u = s ∧ y < x
            · exact Int.dvd_trans (Int.ofNat_dvd.2 (Nat.gcd_dvd_left _ _)) (ha u y h hy)
            · obtain rfl : u = s := by omega
              obtain rfl : y = x := by omega
              rw [hz]; exact Int.ofNat_dvd_left.2 (Nat.gcd_dvd_right _ _)) (fun h hh => by
            refine Nat.dvd_gcd (hb h fun u y hu' hy => hh u y (by omega) hy) ?_
            have := hh s x (by omega) hxm
            rw [hz] at this; exact Int.ofNat_dvd_left.1 this)
          refine ⟨r, ?_, a2⟩
          refine Ev.next ?_
          simp only [net_period.l1, if_pos (by omega : (x : Int) < ((rd_L1 rows (s : Int)).length : Int)), if_pos (by omega : (0 : Int) ≤ (x : Int)), if_pos (by omega : (0 : Int) ≤ (s : Int)), if_pos (by omega : (s : Int) < (out.length : Int)), V.nxE hsn hxm, if_pos (by omega : (0 : Int) ≤ ((nx rows s x : Nat) : Int)), if_pos (by omega : ((nx rows s x : Nat) : Int) < (out.length : Int)), e1.1, e2.1, hmx, wrapS (by omega : x + 1 ≤ 9223372036854775807)]
          exact Ev.bind (net_gcd _ _) a1
      obtain ⟨r, a1, a2⟩ := letters m 0 d (by omega) (fun u y hu hy => ha u y (by omega) hy) (fun h hh => hb h fun u y hu hy => hh u y (by omega) hy)
      refine ⟨r, ?_, a2⟩
      refine Ev.next ?_
      simp only [net_period.l0, if_pos (by omega : (s : Int) < (n : Int)), if_pos (by omega : (0 : Int) ≤ (s : Int)), if_pos (by omega : (s : Int) < (rows.length : Int))]
      exact a1
  obtain ⟨d, a1, a2⟩ := states n 0 0 (by omega) (fun u y hu _ => by omega) (fun h _ => Nat.dvd_zero h)
  refine ⟨d, out, l, ?_, h1, h2, fun t ht => (hl' t ht).1, NN, a2⟩
  unfold net_period.f
  refine Ev.bind h1 ?_
  rw [hlen]; exact a1
/-- The period of a strongly connected automaton is positive. -/
theorem per_pos {rows : List (List Int)} {n m d : Nat} (V : VA rows n m) (hc : SC (nx rows) n m) (P : Per (nx rows) m n d) : 0 < d := by
  obtain ⟨k, hk, hw⟩ := back_short V hc (V.nxLt V.n0 V.m0) V.n0
  have h := P.dvd _ ((Walk.one V.m0).trans hw)
  rcases Nat.eq_zero_or_pos d with h0 | h0
  · subst h0; have := Nat.eq_zero_of_zero_dvd h; omega
  · exact h0
theorem Walk.snoc {f : Nat → Nat → Nat} {m k s t : Nat} : Walk f m (k + 1) s t ↔ ∃ u, Walk f m k s u ∧ ∃ x, x < m ∧ f u x = t := by
  constructor
  · rintro ⟨w, h1, h2, h3⟩
    have hne : w ≠ [] := fun h => by subst h; simp at h2
    obtain ⟨v, x, rfl⟩ : ∃ v x, w = v ++ [x] := ⟨_, _, (List.dropLast_concat_getLast hne).symm⟩
    rw [run_snoc] at h3
    exact ⟨run f s v, ⟨v, h1.left, by simp at h2; omega, rfl⟩, x, h1.right x (by simp), h3⟩
  · rintro ⟨u, h1, x, hx, rfl⟩
    exact h1.trans (Walk.one hx)
theorem VA.walkLt {rows : List (List Int)} {n m k s t : Nat} (V : VA rows n m) (hs : s < n) (h : Walk (nx rows) m k s t) : t < n := by
  obtain ⟨w, h1, _, rfl⟩ := h; exact V.runLt hs h1
/-- One step of the reference. -/
theorem ref_walk {rows : List (List Int)} {n m s k : Nat} (V : VA rows n m) (hs : s < n) {l : List Bool} (h : Is n l (Walk (nx rows) m k s)) : ∃ l', Ev (fun k => mizmazeref02_Step.f k rows l) l' ∧ Is n l' (Walk (nx rows) m (k + 1) s) := by
  obtain ⟨l', h1, h2⟩ := ref_step V h
  exact ⟨l', h1, h2.imp fun t _ => ⟨fun ⟨u, a, b, c⟩ => Walk.snoc.2 ⟨u, b, c⟩, fun h => by
    obtain ⟨u, b, c⟩ := Walk.snoc.1 h; exact ⟨u, V.walkLt hs b, b, c⟩⟩⟩
theorem ref_walk0 {rows : List (List Int)} {n m s : Nat} (V : VA rows n m) (hs : s < n) : ∃ l, mizmazeref02_Only.f rows (s : Int) = some l ∧ Is n l (Walk (nx rows) m 0 s) := by
  obtain ⟨l, h1, h2⟩ := ref_only V hs
  exact ⟨l, h1, h2.imp fun t _ => ⟨fun h => h ▸ Walk.refl _ _ _, fun ⟨w, _, a, b⟩ => by rw [List.eq_nil_of_length_eq_zero a] at b; exact b⟩⟩
theorem ref_period {rows : List (List Int)} {n m : Nat} (V : VA rows n m) : ∃ d : Nat, Ev (fun k => mizmazeref02_Period.f k rows) (d : Int) ∧ (∀ k, 1 ≤ k → k ≤ 3 * n → Walk (nx rows) m k 0 0 → d ∣ k) ∧ (∀ g : Nat, (∀ k, 1 ≤ k → k ≤ 3 * n → Walk (nx rows) m k 0 0 → g ∣ k) → g ∣ d) := by
  have hlen := V.len; have h60 := V.n60; have hn0 := V.n0
  have hw3 : wrap64 (3 * (rows.length : Int)) = ((3 * n : Nat) : Int) := by rw [hlen]; unfold wrap64; omega
  have loop : ∀ (g j d : Nat) (at_ : List Bool), j + g = 3 * n → Is n at_ (Walk (nx rows) m j 0) → (∀ k, 1 ≤ k → k ≤ j → Walk (nx rows) m k 0 0 → d ∣ k) → (∀ h : Nat, (∀ k, 1 ≤ k → k ≤ j → Walk (nx rows) m k 0 0 → h ∣ k) → h ∣ d) → ∃ r : Nat, Ev (fun k => mizmazeref02_Period.l0 k (d : Int) at_ ((j + 1 : Nat) : Int) rows) (r : Int) ∧ (∀ k, 1 ≤ k → k ≤ 3 * n → Walk (nx rows) m k 0 0 → r ∣ k) ∧ (∀ g : Nat, (∀ k, 1 ≤ k → k ≤ 3 * n → Walk (nx rows) m k 0 0 → g ∣ k) → g ∣ r) := by
    intro g
    induction g with
    | zero =>
      intro j d at_ hj hat ha hb
      obtain rfl : j = 3 * n := by omega
      refine ⟨d, ?_, ha, hb⟩
      refine Ev.next ?_
      simp only [mizmazeref02_Period.l0, hw3, if_neg (by omega : ¬ ((3 * n + 1 : Nat) : Int) ≤ ((3 * n : Nat) : Int))]
      exact Ev.now _
    | succ g ih =>
      intro j d at_ hj hat ha hb
      obtain ⟨l', h1, h2⟩ := ref_walk V hn0 hat
      have hl' := h2.1
      have h20 := h2.2 0 hn0
      by_cases hc : Walk (nx rows) m (j + 1) 0 0
      · obtain ⟨r, a1, a2⟩ := ih (j + 1) (Nat.gcd (j + 1) d) l' (by omega) h2 (fun k hk1 hk2 hk => by
          by_cases h : k ≤ j
          · exact Nat.dvd_trans (Nat.gcd_dvd_right _ _) (ha k hk1 h hk)
          · obtain rfl : k = j + 1 := by omega
            exact Nat.gcd_dvd_left _ _) (fun h hh => Nat.dvd_gcd (hh (j + 1) (by omega) (Nat.le_refl _) hc) (hb h fun k hk1 hk2 hk => hh k hk1 (by omega) hk))
        refine ⟨r, ?_, a2⟩
        refine Ev.next ?_
        simp only [mizmazeref02_Period.l0, hw3, if_pos (by omega : ((j + 1 : Nat) : Int) ≤ ((3 * n : Nat) : Int))]
        refine Ev.bind h1 ?_
        have h21 : rdOf false l' 0 = true := h20.2 hc
        simp only [if_pos (by omega : 0 < (l'.length : Int)), h21, if_true, wrapS (by omega : j + 1 + 1 ≤ 9223372036854775807)]
        exact Ev.bind (ref_gcd _ _) a1
      · obtain ⟨r, a1, a2⟩ := ih (j + 1) d l' (by omega) h2 (fun k hk1 hk2 hk => by
          by_cases h : k ≤ j
          · exact ha k hk1 h hk
          · obtain rfl : k = j + 1 := by omega
            exact absurd hk hc) (fun h hh => hb h fun k hk1 hk2 hk => hh k hk1 (by omega) hk)
        refine ⟨r, ?_, a2⟩
        refine Ev.next ?_
        simp only [mizmazeref02_Period.l0, hw3, if_pos (by omega : ((j + 1 : Nat) : Int) ≤ ((3 * n : Nat) : Int))]
        refine Ev.bind h1 ?_
        have h21 : ¬ rdOf false l' 0 = true := fun h => hc (h20.1 h)
        simp only [if_pos (by omega : 0 < (l'.length : Int)), if_neg h21, wrapS (by omega : j + 1 + 1 ≤ 9223372036854775807)]
        exact a1
  obtain ⟨l, h1, h2⟩ := ref_walk0 V hn0
  obtain ⟨r, a1, a2, a3⟩ := loop (3 * n) 0 0 l (by omega) h2 (fun k h1 h2 => by omega) (fun h _ => Nat.dvd_zero h)
  refine ⟨r, ?_, a2, a3⟩
  unfold mizmazeref02_Period.f
  have h1' : mizmazeref02_Only.f rows 0 = some l := h1
  simp only [h1', Option.bind_some]
  exact a1
theorem ref_classes {rows : List (List Int)} {n m d : Nat} {l : Nat → Nat} (V : VA rows n m) (N : Numbered (nx rows) m n l) (O : Off (nx rows) m n l d) (hd : 0 < d) (hp : Ev (fun k => mizmazeref02_Period.f k rows) (d : Int)) : ∃ c, Ev (fun k => mizmazeref02_Classes.f k rows) c ∧ c.length = n ∧ ∀ t, t < n → rd c (t : Int) = ((l t % d : Nat) : Int) := by
  have hlen := V.len; have h60 := V.n60; have hn0 := V.n0
  have cls : ∀ k t, Walk (nx rows) m k 0 t → k % d = l t % d := fun k t ⟨w, a, b, c⟩ => by
    have h := Off.walk (fun s x => V.nxLt) O.dvd w 0 hn0 a
    rw [N.zero, b, c] at h
    have h2 : (d : Int) ∣ (k : Int) - (l t : Int) := by simpa using h
    have := Int.emod_emod_of_dvd (k : Int) (Int.dvd_refl (d : Int))
    have h3 := (Int.emod_eq_emod_iff_emod_sub_eq_zero).2 (Int.emod_eq_zero_of_dvd h2)
    omega
  have rounds : ∀ (g j : Nat) (out : List Int) (at_ : List Bool), j + g = n → out.length = n → Is n at_ (Walk (nx rows) m j 0) → (∀ t, t < n → l t < j → rd out (t : Int) = ((l t % d : Nat) : Int)) → ∃ c, Ev (fun k => mizmazeref02_Classes.l0 k (d : Int) out at_ (j : Int) rows) c ∧ c.length = n ∧ ∀ t, t < n → rd c (t : Int) = ((l t % d : Nat) : Int) := by
    intro g
    induction g with
    | zero =>
      intro j out at_ hj ho hat hk
      refine ⟨out, ?_, ho, fun t ht => hk t ht (by have := N.lt t ht; omega)⟩
      refine Ev.next ?_
      simp only [mizmazeref02_Classes.l0, if_neg (by omega : ¬ (j : Int) < (rows.length : Int))]
      exact Ev.now _
    | succ g ih =>
      intro j out at_ hj ho hat hk
      have hal := hat.1
      have inner : ∀ (e s : Nat) (out : List Int), s + e = n → out.length = n → (∀ t, t < n → (l t < j ∨ t < s ∧ l t = j) → rd out (t : Int) = ((l t % d : Nat) : Int)) → ∃ c, Ev (fun k => mizmazeref02_Classes.l1 k (d : Int) out at_ (j : Int) (s : Int) rows) c ∧ c.length = n ∧ ∀ t, t < n → rd c (t : Int) = ((l t % d : Nat) : Int) := by
        intro e
        induction e with
        | zero =>
          intro s out hs ho hk
          obtain ⟨l', h1, h2⟩ := ref_walk V hn0 hat
          obtain ⟨c, a1, a2⟩ := ih (j + 1) out l' (by omega) ho h2 fun t ht hlt => hk t ht (by omega)
          refine ⟨c, ?_, a2⟩
          refine Ev.next ?_
          simp only [mizmazeref02_Classes.l1, if_neg (by omega : ¬ (s : Int) < (out.length : Int)), wrapS (by omega : j + 1 ≤ 9223372036854775807)]
          exact Ev.bind h1 a1
        | succ e ih2 =>
          intro s out hs ho hk
          have hsn : s < n := by omega
          by_cases hc : Walk (nx rows) m j 0 s
          · obtain ⟨c, a1, a2⟩ := ih2 (s + 1) (out.set s ((j % d : Nat) : Int)) (by omega) (by rw [List.length_set]; exact ho) fun t ht hlt => by
              rw [rdI_put (by omega)]
              by_cases h : s = t
              · subst h; rw [if_pos rfl, cls j s hc]
              · rw [if_neg h]; exact hk t ht (by omega)
            refine ⟨c, ?_, a2⟩
            refine Ev.next ?_
            simp only [mizmazeref02_Classes.l1, if_pos (by omega : (s : Int) < (out.length : Int)), if_pos (by omega : (0 : Int) ≤ (s : Int)), if_pos (by omega : (s : Int) < (at_.length : Int)), (hat.2 s hsn).2 hc, if_true, if_neg (by omega : ¬ (d : Int) = 0), tmod_nat, Int.toNat_natCast, wrapS (by omega : s + 1 ≤ 9223372036854775807)]
            exact a1
          · obtain ⟨c, a1, a2⟩ := ih2 (s + 1) out (by omega) ho fun t ht hlt => by
              by_cases h : t = s ∧ l t = j
              · obtain ⟨rfl, h2⟩ := h
                exact absurd (h2 ▸ N.walk t ht) hc
              · exact hk t ht (by omega)
            refine ⟨c, ?_, a2⟩
            refine Ev.next ?_
            simp only [mizmazeref02_Classes.l1, if_pos (by omega : (s : Int) < (out.length : Int)), if_pos (by omega : (0 : Int) ≤ (s : Int)), if_pos (by omega : (s : Int) < (at_.length : Int)), if_neg (fun h => hc ((hat.2 s hsn).1 h)), wrapS (by omega : s + 1 ≤ 9223372036854775807)]
            exact a1
      obtain ⟨c, a1, a2⟩ := inner n 0 out (by omega) ho fun t ht hlt => hk t ht (by omega)
      refine ⟨c, ?_, a2⟩
      refine Ev.next ?_
      simp only [mizmazeref02_Classes.l0, if_pos (by omega : (j : Int) < (rows.length : Int))]
      exact a1
  obtain ⟨o, h1, h2⟩ := ref_walk0 V hn0
  obtain ⟨c, a1, a2⟩ := rounds n 0 (List.replicate n 0) o (by omega) List.length_replicate h2 fun t _ h => by omega
  refine ⟨c, ?_, a2⟩
  unfold mizmazeref02_Classes.f
  refine Ev.bind hp ?_
  have h1' : mizmazeref02_Only.f rows 0 = some o := h1
  simp only [if_pos (by omega : (0 : Int) ≤ (rows.length : Int)), Int.toNat_natCast, if_pos (by omega : rows.length ≤ 35184372088832), h1', Option.bind_some]
  rw [hlen]; exact a1
end Go.Proofs.Ytjgdalhdiohclaa.Q
end
/-! Part MNetPer -/
section
namespace Go.Proofs.Ytjgdalhdiohclaa.Q
open Go.RowKit Go.Proofs.YtjgdalhdiohclaaW.PrintWords Go.Proofs.YtjgdalhdiohclaaW.PrintLast Go.Proofs.YtjgdalhdiohclaaW.PrintMore
set_option linter.unusedVariables false
theorem not_sc_of {rows : List (List Int)} {n m : Nat} {b : Bool} (h : b = true ↔ SC (nx rows) n m) (hs : ¬ SC (nx rows) n m) : b = false := by
  cases b with
  | false => rfl
  | true => exact absurd (h.1 rfl) hs
theorem period_no {rows : List (List Int)} {n m : Nat} (V : VA rows n m) (h : ¬ SC (nx rows) n m) : Ev (fun k => net_Period.f k rows) (0, 2) := by
  unfold net_Period.f
  simp only [auto_Valid.f, validB_of V, Option.bind_some, if_true]
  refine Ev.bind (net_connects V (r := false) (by simp [h])) ?_
  simp only [Bool.false_eq_true, if_false]
  exact Ev.now _
theorem classes_no {rows : List (List Int)} {n m : Nat} (V : VA rows n m) (h : ¬ SC (nx rows) n m) : Ev (fun k => net_Classes.f k rows) ([], 2) := by
  unfold net_Classes.f
  refine Ev.bind (period_no V h) ?_
  simp only [if_neg (by decide : ¬ (2 : Int) = 0)]
  exact Ev.now _
/-- What Period and Classes return for a strongly connected automaton. -/
theorem period_yes {rows : List (List Int)} {n m : Nat} (V : VA rows n m) (hc : SC (nx rows) n m) : ∃ (d : Nat) (l : Nat → Nat) (c : List Int), Ev (fun k => net_Period.f k rows) ((d : Int), 0) ∧ Ev (fun k => net_Classes.f k rows) (c, 0) ∧ c.length = n ∧ (∀ t, t < n → rd c (t : Int) = ((l t % d : Nat) : Int)) ∧ 0 < d ∧ Numbered (nx rows) m n l ∧ Off (nx rows) m n l d ∧ Per (nx rows) m n d := by
  have hlen := V.len; have h60 := V.n60
  obtain ⟨d, out, l, h1, h2, h3, h4, h5, h6⟩ := net_period V hc
  have P := h6.per V hc h5
  have hd := per_pos V hc P
  have hp : Ev (fun k => net_Period.f k rows) ((d : Int), 0) := by
    unfold net_Period.f
    simp only [auto_Valid.f, validB_of V, Option.bind_some, if_true]
    refine Ev.bind (net_connects V (r := true) (by simp [hc])) ?_
    simp only [if_true]
    exact Ev.bind h1 (Ev.now _)
  have loop : ∀ (g i : Nat) (c : List Int), i + g = n → c.length = n → (∀ t, t < n → rd c (t : Int) = if t < i then ((l t % d : Nat) : Int) else (l t : Int)) → ∃ r, Ev (fun k => net_Classes.l0 k (d : Int) c (n : Int) (i : Int)) (r, 0) ∧ r.length = n ∧ ∀ t, t < n → rd r (t : Int) = ((l t % d : Nat) : Int) := by
    intro g
    induction g with
    | zero =>
      intro i c hi hcl hc
      refine ⟨c, ?_, hcl, fun t ht => by rw [hc t ht, if_pos (by omega)]⟩
      refine Ev.next ?_
      simp only [net_Classes.l0, if_neg (by omega : ¬ (i : Int) < (n : Int))]
      exact Ev.now _
    | succ g ih =>
      intro i c hi hcl hc
      have hin : i < n := by omega
      have hci := hc i hin
      rw [if_neg (by omega)] at hci
      obtain ⟨r, a1, a2⟩ := ih (i + 1) (c.set i ((l i % d : Nat) : Int)) (by omega) (by rw [List.length_set]; exact hcl) fun t ht => by
        rw [rdI_put (by omega)]
        by_cases h : i = t
        · subst h; rw [if_pos rfl, if_pos (by omega)]
        · rw [if_neg h, hc t ht]
          by_cases h2 : t < i
          · rw [if_pos h2, if_pos (by omega)]
          · rw [if_neg h2, if_neg (by omega)]
      refine ⟨r, ?_, a2⟩
      refine Ev.next ?_
      simp only [net_Classes.l0, if_pos (by omega : (i : Int) < (n : Int)), if_pos (by omega : (0 : Int) ≤ (i : Int)), if_pos (by omega : (i : Int) < (c.length : Int)), if_neg (by omega : ¬ (d : Int) = 0), hci, tmod_nat, Int.toNat_natCast, wrapS (by omega : i + 1 ≤ 9223372036854775807)]
      exact a1
  obtain ⟨c, a1, a2, a3⟩ := loop n 0 out (by omega) h3 fun t ht => by rw [if_neg (by omega)]; exact h4 t ht
  refine ⟨d, l, c, hp, ?_, a2, a3, hd, h5, h6, P⟩
  unfold net_Classes.f
  refine Ev.bind hp ?_
  simp only [if_true]
  refine Ev.bind h2 ?_
  rw [h3]; exact a1
end Go.Proofs.Ytjgdalhdiohclaa.Q
end
/-! Part MCode -/
section
namespace Go.Proofs.Ytjgdalhdiohclaa.Q
set_option linter.unusedVariables false
/-! ### words in order: the shorter one first, then by letters -/
/-- The number of a word in this order. -/
def code (m : Nat) (w : List Nat) : Nat := w.foldl (fun a x => m * a + (x + 1)) 0
/-- The number of the first word of k letters. -/
def lo (m : Nat) : Nat → Nat
  | 0 => 0
  | k + 1 => m * lo m k + 1
/-- The first shortest word that leads from s to t. -/
structure Least (f : Nat → Nat → Nat) (m s t : Nat) (w : List Nat) : Prop where
  wd : Wd m w
  ends : run f s w = t
  le : ∀ v, Wd m v → run f s v = t → code m w ≤ code m v
/-- A word as the program has it. -/
def toI (w : List Nat) : List Int := w.map fun (x : Nat) => (x : Int)
theorem toI_snoc (w : List Nat) (x : Nat) : toI (w ++ [x]) = toI w ++ [(x : Int)] := by simp [toI]
theorem toI_len (w : List Nat) : (toI w).length = w.length := by simp [toI]
end Go.Proofs.Ytjgdalhdiohclaa.Q
end
/-! Part MSinks -/
section
namespace Go.Proofs.Ytjgdalhdiohclaa.Q
open Go.RowKit Go.Proofs.YtjgdalhdiohclaaW.PrintWords Go.Proofs.YtjgdalhdiohclaaW.PrintLast Go.Proofs.YtjgdalhdiohclaaW.PrintMore
set_option linter.unusedVariables false
/-! ### sinks -/
/-- The state s is the least one of a sink. -/
def IsSink (f : Nat → Nat → Nat) (n m s : Nat) : Prop := ∀ t, t < n → Conn f m s t → s ≤ t ∧ Conn f m t s
open Classical in
/-- The states that can be reached, in order. -/
noncomputable def reachTo (f : Nat → Nat → Nat) (j m s : Nat) : List Nat := (List.range j).filter fun t => decide (Conn f m s t)
open Classical in
/-- The sinks, in order. -/
noncomputable def sinksTo (f : Nat → Nat → Nat) (n m j : Nat) : List (List Int) := (List.range j).flatMap fun s => if IsSink f n m s then [toI (reachTo f n m s)] else []
theorem reachTo_yes {f : Nat → Nat → Nat} {j m s : Nat} (h : Conn f m s j) : reachTo f (j + 1) m s = reachTo f j m s ++ [j] := by
  unfold reachTo; rw [List.range_succ, List.filter_append]; simp [h]
theorem reachTo_no {f : Nat → Nat → Nat} {j m s : Nat} (h : ¬ Conn f m s j) : reachTo f (j + 1) m s = reachTo f j m s := by
  unfold reachTo; rw [List.range_succ, List.filter_append]; simp [h]
theorem reachTo_mem {f : Nat → Nat → Nat} {j m s t : Nat} : t ∈ reachTo f j m s ↔ t < j ∧ Conn f m s t := by
  unfold reachTo; rw [List.mem_filter, List.mem_range]; simp
theorem reachTo_len (f : Nat → Nat → Nat) (j m s : Nat) : (reachTo f j m s).length ≤ j := by
  unfold reachTo; exact Nat.le_trans (List.length_filter_le _ _) (Nat.le_of_eq List.length_range)
theorem sinksTo_yes {f : Nat → Nat → Nat} {n m j : Nat} (h : IsSink f n m j) : sinksTo f n m (j + 1) = sinksTo f n m j ++ [toI (reachTo f n m j)] := by
  unfold sinksTo; rw [List.range_succ, List.flatMap_append]; simp [h]
theorem sinksTo_no {f : Nat → Nat → Nat} {n m j : Nat} (h : ¬ IsSink f n m j) : sinksTo f n m (j + 1) = sinksTo f n m j := by
  unfold sinksTo; rw [List.range_succ, List.flatMap_append]; simp [h]
theorem sinksTo_len (f : Nat → Nat → Nat) (n m : Nat) : ∀ j, (sinksTo f n m j).length ≤ j
  | 0 => by simp [sinksTo]
  | j + 1 => by
    have := sinksTo_len f n m j
    by_cases h : IsSink f n m j
    · rw [sinksTo_yes h, List.length_append]; simp; omega
    · rw [sinksTo_no h]; omega
theorem sinksTo_mem {f : Nat → Nat → Nat} {n m : Nat} {l : List Int} : ∀ {j}, l ∈ sinksTo f n m j → ∃ s, s < j ∧ IsSink f n m s ∧ l = toI (reachTo f n m s)
  | 0, h => by simp [sinksTo] at h
  | j + 1, h => by
    by_cases hs : IsSink f n m j
    · rw [sinksTo_yes hs] at h
      rcases List.mem_append.1 h with h | h
      · obtain ⟨s, h1, h2⟩ := sinksTo_mem h; exact ⟨s, by omega, h2⟩
      · exact ⟨j, by omega, hs, List.mem_singleton.1 h⟩
    · rw [sinksTo_no hs] at h
      obtain ⟨s, h1, h2⟩ := sinksTo_mem h; exact ⟨s, by omega, h2⟩
theorem net_sinks {rows : List (List Int)} {n m : Nat} (V : VA rows n m) : Ev (fun k => net_Sinks.f k rows) (sinksTo (nx rows) n m n, 0) := by
  have hlen := V.len; have h60 := V.n60
  have outer : ∀ (d s : Nat), s + d = n → Ev (fun k => net_Sinks.l0 k (sinksTo (nx rows) n m s) (n : Int) (s : Int) rows) (sinksTo (nx rows) n m n, 0) := by
    intro d
    induction d with
    | zero =>
      intro s hs
      obtain rfl : s = n := by omega
      refine Ev.next ?_
      simp only [net_Sinks.l0, if_neg (by omega : ¬ (s : Int) < (s : Int))]
      exact Ev.now _
    | succ d ih =>
      intro s hs
      have hsn : s < n := by omega
      obtain ⟨all, ha1, ha2⟩ := net_reaches V hsn
      have hal := ha2.1
      have hrl := reachTo_len (nx rows) n m s; have hsl := sinksTo_len (nx rows) n m s
      have skip : ¬ IsSink (nx rows) n m s → Ev (fun k => net_Sinks.l0 k (sinksTo (nx rows) n m s) (n : Int) ((s + 1 : Nat) : Int) rows) (sinksTo (nx rows) n m n, 0) := fun h => by
        have := ih (s + 1) (by omega); rwa [sinksTo_no h] at this
      have inner : ∀ (e t : Nat), t + e = n → (∀ u, u < t → Conn (nx rows) m s u → s ≤ u ∧ Conn (nx rows) m u s) → Ev (fun k => net_Sinks.l1 k (sinksTo (nx rows) n m s) (s : Int) (toI (reachTo (nx rows) t m s)) (n : Int) (s : Int) all (all.length : Int) (t : Int) rows) (sinksTo (nx rows) n m n, 0) := by
        intro e
        induction e with
        | zero =>
          intro t ht hu
          obtain rfl : t = n := by omega
          refine Ev.next ?_
          simp only [net_Sinks.l1, if_neg (by omega : ¬ (t : Int) < (all.length : Int)), if_pos (by omega : (sinksTo (nx rows) t m s).length < 5864062014805), wrapS (by omega : s + 1 ≤ 9223372036854775807)]
          have := ih (s + 1) (by omega); rwa [sinksTo_yes hu] at this
        | succ e ih2 =>
          intro t ht hu
          have htn : t < n := by omega
          have hcut := reachTo_len (nx rows) t m s
          refine Ev.next ?_
          by_cases hc : Conn (nx rows) m s t
          · have hm := (ha2.2 t htn).2 hc
            by_cases hts : t < s
            · simp only [net_Sinks.l1, if_pos (by omega : (t : Int) < (all.length : Int)), if_pos (by omega : (0 : Int) ≤ (t : Int)), hm, if_true, if_pos (by omega : (t : Int) < (s : Int)), wrapS (by omega : s + 1 ≤ 9223372036854775807)]
              exact skip fun h => by have := (h t htn hc).1; omega
            · obtain ⟨back, hb1, hb2⟩ := net_reaches V htn
              have hbl := hb2.1
              simp only [net_Sinks.l1, if_pos (by omega : (t : Int) < (all.length : Int)), if_pos (by omega : (0 : Int) ≤ (t : Int)), hm, if_true, if_neg (by omega : ¬ (t : Int) < (s : Int))]
              refine Ev.bind hb1 ?_
              by_cases hcb : Conn (nx rows) m t s
              · simp only [if_pos (by omega : (0 : Int) ≤ (s : Int)), if_pos (by omega : (s : Int) < (back.length : Int)), (hb2.2 s hsn).2 hcb, if_true, toI_len, if_pos (by omega : (reachTo (nx rows) t m s).length < 17592186044416), wrapS (by omega : t + 1 ≤ 9223372036854775807)]
                have := ih2 (t + 1) (by omega) fun u h1 h2 => by
                  by_cases h3 : u = t
                  · subst h3; exact ⟨by omega, hcb⟩
                  · exact hu u (by omega) h2
                rwa [reachTo_yes hc, toI_snoc] at this
              · simp only [if_pos (by omega : (0 : Int) ≤ (s : Int)), if_pos (by omega : (s : Int) < (back.length : Int)), if_neg (fun h => hcb ((hb2.2 s hsn).1 h)), wrapS (by omega : s + 1 ≤ 9223372036854775807)]
                exact skip fun h => hcb (h t htn hc).2
          · simp only [net_Sinks.l1, if_pos (by omega : (t : Int) < (all.length : Int)), if_pos (by omega : (0 : Int) ≤ (t : Int)), if_neg (fun h => hc ((ha2.2 t htn).1 h)), wrapS (by omega : t + 1 ≤ 9223372036854775807)]
            have := ih2 (t + 1) (by omega) fun u h1 h2 => by
              by_cases h3 : u = t
              · subst h3; exact absurd h2 hc
              · exact hu u (by omega) h2
            rwa [reachTo_no hc] at this
      refine Ev.next ?_
      simp only [net_Sinks.l0, if_pos (by omega : (s : Int) < (n : Int))]
      refine Ev.bind ha1 ?_
      exact inner n 0 (by omega) fun u h => by omega
  unfold net_Sinks.f
  simp only [auto_Valid.f, validB_of V, Option.bind_some, if_true, hlen]
  exact outer n 0 (by omega)
end Go.Proofs.Ytjgdalhdiohclaa.Q
end
/-! Part MRefSinks -/
section
namespace Go.Proofs.Ytjgdalhdiohclaa.Q
open Go.RowKit Go.Proofs.YtjgdalhdiohclaaW.PrintWords Go.Proofs.YtjgdalhdiohclaaW.PrintLast Go.Proofs.YtjgdalhdiohclaaW.PrintMore
set_option linter.unusedVariables false
theorem reachTo_sorted (f : Nat → Nat → Nat) (j m s : Nat) : (reachTo f j m s).Pairwise (· < ·) := by
  unfold reachTo; exact List.Pairwise.filter _ List.pairwise_lt_range
theorem reachTo_head {f : Nat → Nat → Nat} {n m s : Nat} (hs : s < n) : 0 < (reachTo f n m s).length ∧ (rd (toI (reachTo f n m s)) 0 = (s : Int) ↔ ∀ t, t < n → Conn f m s t → s ≤ t) := by
  have hmem : s ∈ reachTo f n m s := reachTo_mem.2 ⟨hs, Conn.refl _ _ _⟩
  have hsort := reachTo_sorted f n m s
  have hall : ∀ t, t ∈ reachTo f n m s ↔ t < n ∧ Conn f m s t := fun t => reachTo_mem
  generalize reachTo f n m s = R at hmem hsort hall
  cases R with
  | nil => simp at hmem
  | cons a R =>
    refine ⟨by simp, ?_⟩
    have hr : rd (toI (a :: R)) 0 = (a : Int) := rfl
    rw [hr]
    rw [List.pairwise_cons] at hsort
    have ha := (hall a).1 List.mem_cons_self
    constructor
    · intro h t ht hc
      have : a = s := by omega
      subst this
      rcases List.mem_cons.1 ((hall t).2 ⟨ht, hc⟩) with h1 | h1
      · omega
      · have := hsort.1 t h1; omega
    · intro h
      have := h a ha.1 ha.2
      rcases List.mem_cons.1 hmem with h1 | h1
      · omega
      · have := hsort.1 s h1; omega
theorem ref_sinks {rows : List (List Int)} {n m : Nat} (V : VA rows n m) : Ev (fun k => mizmazeref02_Sinks.f k rows) (sinksTo (nx rows) n m n) := by
  have hlen := V.len; have h60 := V.n60
  have outer : ∀ (d s : Nat), s + d = n → Ev (fun k => mizmazeref02_Sinks.l0 k (sinksTo (nx rows) n m s) (s : Int) rows) (sinksTo (nx rows) n m n) := by
    intro d
    induction d with
    | zero =>
      intro s hs
      obtain rfl : s = n := by omega
      refine Ev.next ?_
      simp only [mizmazeref02_Sinks.l0, if_neg (by omega : ¬ (s : Int) < (rows.length : Int))]
      exact Ev.now _
    | succ d ih =>
      intro s hs
      have hsn : s < n := by omega
      obtain ⟨all, ha1, ha2⟩ := ref_reach V hsn
      have hal := ha2.1
      have hsl := sinksTo_len (nx rows) n m s
      have skip : ¬ IsSink (nx rows) n m s → Ev (fun k => mizmazeref02_Sinks.l0 k (sinksTo (nx rows) n m s) ((s + 1 : Nat) : Int) rows) (sinksTo (nx rows) n m n) := fun h => by
        have := ih (s + 1) (by omega); rwa [sinksTo_no h] at this
      have inner : ∀ (e t : Nat) (good : Bool), t + e = n → (good = true ↔ ∀ u, u < t → Conn (nx rows) m s u → Conn (nx rows) m u s) → Ev (fun k => mizmazeref02_Sinks.l1 k (sinksTo (nx rows) n m s) (s : Int) (toI (reachTo (nx rows) t m s)) all good (t : Int) rows) (sinksTo (nx rows) n m n) := by
        intro e
        induction e with
        | zero =>
          intro t good ht hg
          obtain rfl : t = n := by omega
          obtain ⟨hpos, hhead⟩ := reachTo_head (f := nx rows) (m := m) hsn
          refine Ev.next ?_
          cases good with
          | false =>
            simp only [mizmazeref02_Sinks.l1, if_neg (by omega : ¬ (t : Int) < (all.length : Int)), Bool.false_eq_true, if_false, wrapS (by omega : s + 1 ≤ 9223372036854775807)]
            exact skip fun h => absurd (hg.2 fun u hu hc => (h u hu hc).2) (by simp)
          | true =>
            by_cases hh : rd (toI (reachTo (nx rows) t m s)) 0 = (s : Int)
            · simp only [mizmazeref02_Sinks.l1, if_neg (by omega : ¬ (t : Int) < (all.length : Int)), if_true, toI_len, if_pos (by omega : 0 < ((reachTo (nx rows) t m s).length : Int)), if_pos hh, if_pos (by omega : (sinksTo (nx rows) t m s).length < 5864062014805), wrapS (by omega : s + 1 ≤ 9223372036854775807)]
              have := ih (s + 1) (by omega)
              rwa [sinksTo_yes (fun u hu hc => ⟨hhead.1 hh u hu hc, hg.1 rfl u hu hc⟩)] at this
            · simp only [mizmazeref02_Sinks.l1, if_neg (by omega : ¬ (t : Int) < (all.length : Int)), if_true, toI_len, if_pos (by omega : 0 < ((reachTo (nx rows) t m s).length : Int)), if_neg hh, wrapS (by omega : s + 1 ≤ 9223372036854775807)]
              exact skip fun h => hh (hhead.2 fun u hu hc => (h u hu hc).1)
        | succ e ih2 =>
          intro t good ht hg
          have htn : t < n := by omega
          have hcut := reachTo_len (nx rows) t m s
          refine Ev.next ?_
          by_cases hc : Conn (nx rows) m s t
          · have hm := (ha2.2 t htn).2 hc
            obtain ⟨back, hb1, hb2⟩ := ref_reach V htn
            have hbl := hb2.1
            cases good with
            | true =>
              have hg1 := hg.1 rfl
              simp only [mizmazeref02_Sinks.l1, if_pos (by omega : (t : Int) < (all.length : Int)), if_pos (by omega : (0 : Int) ≤ (t : Int)), hm, if_true, toI_len, if_pos (by omega : (reachTo (nx rows) t m s).length < 17592186044416), Option.bind_some]
              refine Ev.bind hb1 ?_
              simp only [if_pos (by omega : (0 : Int) ≤ (s : Int)), if_pos (by omega : (s : Int) < (back.length : Int)), wrapS (by omega : t + 1 ≤ 9223372036854775807)]
              have := ih2 (t + 1) (rdOf false back (s : Int)) (by omega) ((hb2.2 s hsn).trans ⟨fun h u h1 h2 => by
                by_cases h3 : u = t
                · subst h3; exact h
                · exact hg1 u (by omega) h2, fun h => h t (by omega) hc⟩)
              rwa [reachTo_yes hc, toI_snoc] at this
            | false =>
              simp only [mizmazeref02_Sinks.l1, if_pos (by omega : (t : Int) < (all.length : Int)), if_pos (by omega : (0 : Int) ≤ (t : Int)), hm, if_true, toI_len, if_pos (by omega : (reachTo (nx rows) t m s).length < 17592186044416), Option.bind_some, Bool.false_eq_true, if_false, wrapS (by omega : t + 1 ≤ 9223372036854775807)]
              have := ih2 (t + 1) false (by omega) ⟨fun h => absurd h (by simp), fun h => hg.2 fun u hu h2 => h u (by omega) h2⟩
              rwa [reachTo_yes hc, toI_snoc] at this
          · simp only [mizmazeref02_Sinks.l1, if_pos (by omega : (t : Int) < (all.length : Int)), if_pos (by omega : (0 : Int) ≤ (t : Int)), if_neg (fun h => hc ((ha2.2 t htn).1 h)), wrapS (by omega : t + 1 ≤ 9223372036854775807)]
            have := ih2 (t + 1) good (by omega) (hg.trans ⟨fun h u h1 h2 => by
              by_cases h3 : u = t
              · subst h3; exact absurd h2 hc
              · exact h u (by omega) h2, fun h u h1 h2 => h u (by omega) h2⟩)
            rwa [reachTo_no hc] at this
      refine Ev.next ?_
      simp only [mizmazeref02_Sinks.l0, if_pos (by omega : (s : Int) < (rows.length : Int))]
      refine Ev.bind ha1 ?_
      exact inner n 0 true (by omega) ⟨fun _ u hu => by omega, fun _ => rfl⟩
  unfold mizmazeref02_Sinks.f
  exact outer n 0 (by omega)
theorem ref_sames (l m : List (List Int)) (hl : l.length ≤ 9223372036854775806) (hr : ∀ r ∈ l, r.length ≤ 9223372036854775806) : Ev (fun k => mizmazeref01_Sames.f k l m) (decide (l = m)) := by
  unfold mizmazeref01_Sames.f
  by_cases h1 : l.length = m.length
  · simp only [if_pos (by omega : (l.length : Int) = (m.length : Int))]
    refine @Ev.every Bool (fun k i => mizmazeref01_Sames.l0 k l m (i : Int)) l.length true false _ (fun i => decide (rd_L1 l (i : Int) = rd_L1 m (i : Int))) ?_ ?_ ?_ ?_ ?_
    · intro h
      rw [decide_eq_true_eq]
      refine List.ext_getElem h1 fun i h2 h3 => ?_
      have := of_decide_eq_true (h i h2)
      rw [rdLE h2, rdLE h3] at this; exact this
    · intro i hi hp
      rw [decide_eq_false_iff_not]; rintro rfl; simp at hp
    · intro i hi hp hrr
      have hsmall : (rd_L1 l (i : Int)).length ≤ 9223372036854775806 := by rw [rdLE hi]; exact hr _ (List.getElem_mem hi)
      refine Ev.next ?_
      simp only [mizmazeref01_Sames.l0, if_pos (by omega : (i : Int) < (l.length : Int)), if_pos (by omega : (0 : Int) ≤ (i : Int)), if_pos (by omega : (i : Int) < (m.length : Int)), wrapS (by omega : i + 1 ≤ 9223372036854775807)]
      refine Ev.bind (ref_same _ _ hsmall) ?_
      simp only [hp, if_true]; exact hrr
    · intro i hi hp
      have hsmall : (rd_L1 l (i : Int)).length ≤ 9223372036854775806 := by rw [rdLE hi]; exact hr _ (List.getElem_mem hi)
      refine Ev.next ?_
      simp only [mizmazeref01_Sames.l0, if_pos (by omega : (i : Int) < (l.length : Int)), if_pos (by omega : (0 : Int) ≤ (i : Int)), if_pos (by omega : (i : Int) < (m.length : Int))]
      refine Ev.bind (ref_same _ _ hsmall) ?_
      simp only [hp, Bool.false_eq_true, if_false]; exact Ev.now _
    · refine Ev.next ?_
      simp only [mizmazeref01_Sames.l0, if_neg (by omega : ¬ (l.length : Int) < (l.length : Int))]
      exact Ev.now _
  · simp only [if_neg (by omega : ¬ (l.length : Int) = (m.length : Int))]
    exact Ev.ret (by symm; rw [decide_eq_false_iff_not]; rintro rfl; exact h1 rfl)
end Go.Proofs.Ytjgdalhdiohclaa.Q
end
