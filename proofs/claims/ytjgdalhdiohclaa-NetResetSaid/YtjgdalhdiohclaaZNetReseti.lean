/- NetReset returns true for every input of its row; no further conditions. (text 9 of 20) -/
import Derived.Test.YtjgdalhdiohclaaZNetReseth
import Derived.Test.YtjgdalhdiohclaaZNetResetg
import Derived.Test.YtjgdalhdiohclaaZNetResetf
/-! Part MReach -/
section
namespace Go.Proofs.Ytjgdalhdiohclaa.Q
open Go.RowKit Go.Proofs.YtjgdalhdiohclaaW.PrintWords Go.Proofs.YtjgdalhdiohclaaW.PrintLast Go.Proofs.YtjgdalhdiohclaaW.PrintMore
set_option linter.unusedVariables false

/-! ### words and where they lead, over a step function f -/
/-- The state to which a word leads. -/
def run (f : Nat → Nat → Nat) : Nat → List Nat → Nat
  | s, [] => s
  | s, x :: w => run f (f s x) w
theorem run_app (f : Nat → Nat → Nat) : ∀ (v w : List Nat) s, run f s (v ++ w) = run f (run f s v) w
  | [], _, _ => rfl
  | _ :: v, w, s => run_app f v w _
/-- A word over m letters. -/
def Wd (m : Nat) (w : List Nat) : Prop := ∀ x ∈ w, x < m
theorem Wd.nil (m : Nat) : Wd m [] := fun _ h => nomatch h
theorem Wd.app {m : Nat} {v w : List Nat} (h : Wd m v) (k : Wd m w) : Wd m (v ++ w) := fun x hx => (List.mem_append.1 hx).elim (h x) (k x)
theorem Wd.one {m x : Nat} (h : x < m) : Wd m [x] := fun y hy => by rw [List.mem_singleton.1 hy]; exact h
theorem Wd.left {m : Nat} {v w : List Nat} (h : Wd m (v ++ w)) : Wd m v := fun x hx => h x (List.mem_append.2 (Or.inl hx))
theorem Wd.right {m : Nat} {v w : List Nat} (h : Wd m (v ++ w)) : Wd m w := fun x hx => h x (List.mem_append.2 (Or.inr hx))
/-- Some word leads from s to t. -/
def Conn (f : Nat → Nat → Nat) (m s t : Nat) : Prop := ∃ w, Wd m w ∧ run f s w = t
theorem Conn.refl (f : Nat → Nat → Nat) (m s : Nat) : Conn f m s s := ⟨[], Wd.nil m, rfl⟩
theorem Conn.trans {f : Nat → Nat → Nat} {m s t u : Nat} (h : Conn f m s t) (k : Conn f m t u) : Conn f m s u := by
  obtain ⟨v, h1, rfl⟩ := h; obtain ⟨w, h2, rfl⟩ := k
  exact ⟨v ++ w, h1.app h2, run_app f v w s⟩
theorem Conn.step {f : Nat → Nat → Nat} {m s x : Nat} (h : x < m) : Conn f m s (f s x) := ⟨[x], Wd.one h, rfl⟩
/-- What contains s and is closed contains what can be reached. -/
theorem Conn.closed {f : Nat → Nat → Nat} {m s t : Nat} {P : Nat → Prop} (h : Conn f m s t) (hs : P s) (hc : ∀ u x, P u → x < m → P (f u x)) : P t := by
  obtain ⟨w, hw, rfl⟩ := h
  induction w generalizing s with
  | nil => exact hs
  | cons x w ih => exact ih (hc s x hs (hw x List.mem_cons_self)) fun y hy => hw y (List.mem_cons_of_mem _ hy)
theorem VA.runLt {rows : List (List Int)} {n m : Nat} (V : VA rows n m) {s : Nat} (hs : s < n) {w : List Nat} (hw : Wd m w) : run (nx rows) s w < n := by
  induction w generalizing s with
  | nil => exact hs
  | cons x w ih => exact ih (V.nxLt hs (hw x List.mem_cons_self)) fun y hy => hw y (List.mem_cons_of_mem _ hy)
/-! ### the drawers -/
theorem nodup_le : ∀ (n : Nat) (l : List Nat), l.Nodup → (∀ x ∈ l, x < n) → l.length ≤ n
  | 0, l, _, h => by
    cases l with
    | nil => exact Nat.le_refl 0
    | cons x l => exact absurd (h x List.mem_cons_self) (Nat.not_lt_zero x)
  | n + 1, l, hd, h => by
    by_cases hn : n ∈ l
    · have h1 := nodup_le n (l.erase n) (hd.erase n) fun x hx => by
        have h2 := h x (List.mem_of_mem_erase hx)
        have h3 : x ≠ n := fun e => by subst e; exact hd.not_mem_erase hx
        omega
      rw [List.length_erase_of_mem hn] at h1; omega
    · have := nodup_le n l hd fun x hx => by
        have h2 := h x hx
        have h3 : x ≠ n := fun e => hn (e ▸ hx)
        omega
      omega
theorem drawers {n : Nat} (f : Nat → Nat) (h : ∀ i, i ≤ n → f i < n) : ∃ i j, i < j ∧ j ≤ n ∧ f i = f j := by
  refine Classical.byContradiction fun hc => ?_
  have hd : ((List.range (n + 1)).map f).Nodup := by
    rw [List.nodup_iff_pairwise_ne, List.pairwise_map]
    refine List.Pairwise.imp_of_mem (R := fun a b => a < b) ?_ List.pairwise_lt_range
    intro a b ha hb hab e
    exact hc ⟨a, b, hab, by have := List.mem_range.1 hb; omega, e⟩
  have := nodup_le n _ hd (by
    intro x hx
    obtain ⟨i, hi, rfl⟩ := List.mem_map.1 hx
    exact h i (by have := List.mem_range.1 hi; omega))
  rw [List.length_map, List.length_range] at this; omega
/-- Some word of fewer than n letters leads where a word leads. -/
theorem short_word {f : Nat → Nat → Nat} {n m : Nat} (hf : ∀ s x, s < n → x < m → f s x < n) : ∀ (d : Nat) (w : List Nat) (s : Nat), w.length ≤ d → s < n → Wd m w → ∃ v, Wd m v ∧ run f s v = run f s w ∧ v.length < n ∧ v.length ≤ w.length := by
  have rl : ∀ (w : List Nat) s, s < n → Wd m w → run f s w < n := by
    intro w
    induction w with
    | nil => intro s h _; exact h
    | cons x w ih => intro s h hw; exact ih _ (hf s x h (hw x List.mem_cons_self)) fun y hy => hw y (List.mem_cons_of_mem _ hy)
  intro d
  induction d with
  | zero => intro w s h hs hw; obtain rfl := List.eq_nil_of_length_eq_zero (by omega : w.length = 0); exact ⟨[], hw, rfl, by simp; omega, by simp⟩
  | succ d ih =>
    intro w s h hs hw
    by_cases hl : w.length < n
    · exact ⟨w, hw, rfl, hl, Nat.le_refl _⟩
    · have htk : ∀ i, Wd m (w.take i) := fun i x hx => hw x (List.mem_of_mem_take hx)
      have hdr : ∀ i, Wd m (w.drop i) := fun i x hx => hw x (List.mem_of_mem_drop hx)
      obtain ⟨i, j, hij, hj, e⟩ := drawers (n := n) (fun i => run f s (w.take i)) fun i _ => rl _ _ hs (htk i)
      obtain ⟨v, h1, h2, h3, h4⟩ := ih (w.take i ++ w.drop j) s (by rw [List.length_append, List.length_take, List.length_drop]; omega) hs ((htk i).app (hdr j))
      refine ⟨v, h1, h2.trans ?_, h3, by rw [List.length_append, List.length_take, List.length_drop] at h4; omega⟩
      rw [run_app, e, ← run_app, List.take_append_drop]

/-! ### lists of bools -/
/-- The list says which states have a property. -/
def Is (n : Nat) (l : List Bool) (P : Nat → Prop) : Prop := l.length = n ∧ ∀ t, t < n → (rdOf false l (t : Int) = true ↔ P t)
theorem Is.imp {n : Nat} {l : List Bool} {P P' : Nat → Prop} (h : Is n l P) (e : ∀ t, t < n → (P t ↔ P' t)) : Is n l P' := ⟨h.1, fun t ht => (h.2 t ht).trans (e t ht)⟩
theorem rdB_set {l : List Bool} {i j : Nat} {b : Bool} (hj : j < l.length) : rdOf false (l.set i b) (j : Int) = if i = j then b else rdOf false l (j : Int) := by
  rw [rdBE (by rw [List.length_set]; exact hj), rdBE hj, List.getElem_set]
theorem Is.set {n : Nat} {l : List Bool} {P : Nat → Prop} (h : Is n l P) {u : Nat} : Is n (l.set u true) (fun t => P t ∨ u = t) := by
  refine ⟨by rw [List.length_set]; exact h.1, fun t ht => ?_⟩
  rw [rdB_set (by rw [h.1]; exact ht)]
  by_cases e : u = t
  · simp [e]
  · simp [e, h.2 t ht]
theorem Is.none {n : Nat} : Is n (List.replicate n false) (fun _ => False) := by
  refine ⟨List.length_replicate, fun t ht => ?_⟩
  rw [rdBE (by rw [List.length_replicate]; exact ht), List.getElem_replicate]; simp
end Go.Proofs.Ytjgdalhdiohclaa.Q
end
/-! Part MReachb -/
section
namespace Go.Proofs.Ytjgdalhdiohclaa.Q
open Go.RowKit Go.Proofs.YtjgdalhdiohclaaW.PrintWords Go.Proofs.YtjgdalhdiohclaaW.PrintLast Go.Proofs.YtjgdalhdiohclaaW.PrintMore
set_option linter.unusedVariables false

theorem Is.put {n : Nat} {l : List Bool} {P : Nat → Prop} (h : Is n l P) {u : Nat} {b : Bool} : Is n (l.set u b) (fun t => if u = t then b = true else P t) := by
  refine ⟨by rw [List.length_set]; exact h.1, fun t ht => ?_⟩
  rw [rdB_set (by rw [h.1]; exact ht)]
  by_cases e : u = t
  · simp [e]
  · simp [e, h.2 t ht]
/-- How many states are not met. -/
def left (l : List Bool) : Nat := l.count false
theorem left_set {l : List Bool} {u : Nat} (h : u < l.length) (hf : rdOf false l (u : Int) = false) : left (l.set u true) + 1 = left l := by
  induction l generalizing u with
  | nil => exact absurd h (by simp)
  | cons b l ih =>
    cases u with
    | zero =>
      have : b = false := hf
      subst this
      simp [left]
    | succ u =>
      have := ih (u := u) (by simpa using h) (by rw [rdBE (by simpa using h)]; rw [rdBE h] at hf; simpa using hf)
      simp only [left] at this
      cases b <;> simp [left] <;> omega
theorem net_reaches {rows : List (List Int)} {n m s : Nat} (V : VA rows n m) (hs : s < n) : ∃ l, Ev (fun k => net_reach.f k rows (s : Int)) l ∧ Is n l (Conn (nx rows) m s) := by
  have hlen := V.len; have h60 := V.n60; have h6 := V.m6
  have key : ∀ (d : Nat) (met : List Bool) (P : Nat → Prop) (s : Nat), s < n → left met ≤ d → Is n met P → ∃ l P', Ev (fun k => net_visit.f k rows met (s : Int)) l ∧ Is n l P' ∧ left l ≤ left met ∧ (∀ t, P t → P' t) ∧ P' s ∧ (∀ t, P' t → P t ∨ Conn (nx rows) m s t) ∧ (∀ t, P' t → P t ∨ ∀ x, x < m → P' (nx rows t x)) := by
    intro d
    induction d with
    | zero =>
      intro met P s hs hd hm
      have hh : rdOf false met (s : Int) = true := by
        cases h : rdOf false met (s : Int) with
        | true => rfl
        | false => have := left_set (by rw [hm.1]; exact hs) h; omega
      refine ⟨met, P, ?_, hm, Nat.le_refl _, fun _ h => h, (hm.2 s hs).1 hh, fun t h => Or.inl h, fun t h => Or.inl h⟩
      refine Ev.next ?_
      simp only [net_visit.f, if_pos (by omega : (0 : Int) ≤ (s : Int)), if_pos (by have := hm.1; omega : (s : Int) < (met.length : Int)), hh, if_true]
      exact Ev.now _
    | succ d ih =>
      intro met P s hs hd hm
      cases hh : rdOf false met (s : Int) with
      | true =>
        refine ⟨met, P, ?_, hm, Nat.le_refl _, fun _ h => h, (hm.2 s hs).1 hh, fun t h => Or.inl h, fun t h => Or.inl h⟩
        refine Ev.next ?_
        simp only [net_visit.f, if_pos (by omega : (0 : Int) ≤ (s : Int)), if_pos (by have := hm.1; omega : (s : Int) < (met.length : Int)), hh, if_true]
        exact Ev.now _
      | false =>
        have hcnt := left_set (by rw [hm.1]; exact hs) hh
        have hrow := V.row s hs
        have inner : ∀ (e x : Nat) (met1 : List Bool) (P1 : Nat → Prop), x + e = m → left met1 ≤ d → Is n met1 P1 → ∃ l P', Ev (fun k => net_visit.l0 k rows met1 (rd_L1 rows (s : Int)) (x : Int)) l ∧ Is n l P' ∧ left l ≤ left met1 ∧ (∀ t, P1 t → P' t) ∧ (∀ y, x ≤ y → y < m → P' (nx rows s y)) ∧ (∀ t, P' t → P1 t ∨ Conn (nx rows) m s t) ∧ (∀ t, P' t → P1 t ∨ ∀ x, x < m → P' (nx rows t x)) := by
          intro e
          induction e with
          | zero =>
            intro x met1 P1 hx hd1 hm1
            refine ⟨met1, P1, ?_, hm1, Nat.le_refl _, fun _ h => h, fun y h1 h2 => by omega, fun t h => Or.inl h, fun t h => Or.inl h⟩
            refine Ev.next ?_
            simp only [net_visit.l0, if_neg (by omega : ¬ (x : Int) < ((rd_L1 rows (s : Int)).length : Int))]
            exact Ev.now _
          | succ e ih2 =>
            intro x met1 P1 hx hd1 hm1
            have hxm : x < m := by omega
            obtain ⟨l1, P2, a1, a2, a3, a4, a5, a6, a7⟩ := ih met1 P1 (nx rows s x) (V.nxLt hs hxm) hd1 hm1
            obtain ⟨l2, P3, b1, b2, b3, b4, b5, b6, b7⟩ := ih2 (x + 1) l1 P2 (by omega) (by omega) a2
            refine ⟨l2, P3, ?_, b2, by omega, fun t h => b4 t (a4 t h), ?_, ?_, ?_⟩
            · refine Ev.next ?_
              simp only [net_visit.l0, if_pos (by omega : (x : Int) < ((rd_L1 rows (s : Int)).length : Int)), if_pos (by omega : (0 : Int) ≤ (x : Int)), V.nxE hs hxm, wrapS (by omega : x + 1 ≤ 9223372036854775807)]
              exact Ev.bind a1 b1
            · intro y h1 h2
              by_cases hy : y = x
              · subst hy; exact b4 _ a5
              · exact b5 y (by omega) h2
            · intro t h
              rcases b6 t h with h | h
              · rcases a6 t h with h | h
                · exact Or.inl h
                · exact Or.inr ((Conn.step hxm).trans h)
              · exact Or.inr h
            · intro t h
              rcases b7 t h with h | h
              · rcases a7 t h with h | h
                · exact Or.inl h
                · exact Or.inr fun x hx => b4 _ (h x hx)
              · exact Or.inr h
        obtain ⟨l, P', a1, a2, a3, a4, a5, a6, a7⟩ := inner m 0 (met.set s true) _ (by omega) (by omega) (hm.set (u := s))
        refine ⟨l, P', ?_, a2, by omega, fun t h => a4 t (Or.inl h), a4 s (Or.inr rfl), ?_, ?_⟩
        · refine Ev.next ?_
          simp only [net_visit.f, if_pos (by omega : (0 : Int) ≤ (s : Int)), if_pos (by have := hm.1; omega : (s : Int) < (met.length : Int)), hh, Bool.false_eq_true, if_false, if_pos (by omega : (s : Int) < (rows.length : Int)), Int.toNat_natCast]
          exact a1
        · intro t h
          rcases a6 t h with (h | rfl) | h
          · exact Or.inl h
          · exact Or.inr (Conn.refl _ _ _)
          · exact Or.inr h
        · intro t h
          rcases a7 t h with (h | rfl) | h
          · exact Or.inl h
          · exact Or.inr fun x hx => a5 x (Nat.zero_le x) hx
          · exact Or.inr h
  obtain ⟨l, P', a1, a2, a3, a4, a5, a6, a7⟩ := key _ _ _ s hs (Nat.le_refl _) (Is.none (n := n))
  refine ⟨l, ?_, a2.imp fun t ht => ⟨fun h => (a6 t h).elim False.elim id, fun h => h.closed (P := P') a5 fun u x hu hx => (a7 u hu).elim False.elim fun h => h x hx⟩⟩
  unfold net_reach.f
  simp only [if_pos (by omega : rows.length ≤ 281474976710656)]
  rw [hlen]
  exact a1
end Go.Proofs.Ytjgdalhdiohclaa.Q
end
/-! Part MConn -/
section
namespace Go.Proofs.Ytjgdalhdiohclaa.Q
open Go.RowKit Go.Proofs.YtjgdalhdiohclaaW.PrintWords Go.Proofs.YtjgdalhdiohclaaW.PrintLast Go.Proofs.YtjgdalhdiohclaaW.PrintMore
set_option linter.unusedVariables false
theorem VA.of {rows : List (List Int)} (h : validB rows = true) : VA rows rows.length (rd_L1 rows 0).length := validB_iff.1 h
end Go.Proofs.Ytjgdalhdiohclaa.Q
end
/-! Part MCode -/
section
namespace Go.Proofs.Ytjgdalhdiohclaa.Q
set_option linter.unusedVariables false
/-! ### words in order: the shorter one first, then by letters -/
/-- The number of a word in this order. -/
def code (m : Nat) (w : List Nat) : Nat := w.foldl (fun a x => m * a + (x + 1)) 0
theorem code_nil (m : Nat) : code m [] = 0 := rfl
theorem code_snoc (m : Nat) (w : List Nat) (x : Nat) : code m (w ++ [x]) = m * code m w + (x + 1) := by
  unfold code; rw [List.foldl_append]; rfl
theorem snoc_ind {P : List Nat → Prop} (h0 : P []) (h1 : ∀ v x, P v → P (v ++ [x])) (w : List Nat) : P w := by
  have : ∀ n (w : List Nat), w.length = n → P w := by
    intro n
    induction n with
    | zero => intro w h; rw [List.eq_nil_of_length_eq_zero h]; exact h0
    | succ n ih =>
      intro w h
      have hne : w ≠ [] := fun e => by subst e; simp at h
      rw [← List.dropLast_concat_getLast hne]
      exact h1 _ _ (ih _ (by rw [List.length_dropLast]; omega))
  exact this _ w rfl
theorem digits_inj {m a b x y : Nat} (hx : x < m) (hy : y < m) (h : m * a + (x + 1) = m * b + (y + 1)) : a = b ∧ x = y := by
  have key : ∀ a b x y : Nat, x < m → a < b → m * a + (x + 1) = m * b + (y + 1) → False := fun a b x y hx hab h => by
    have := Nat.mul_le_mul_left m (Nat.succ_le_of_lt hab)
    rw [Nat.mul_succ] at this; omega
  rcases Nat.lt_trichotomy a b with h1 | h1 | h1
  · exact (key a b x y hx h1 h).elim
  · subst h1; omega
  · exact (key b a y x hy h1 h.symm).elim
theorem code_inj {m : Nat} : ∀ (v w : List Nat), Wd m v → Wd m w → code m v = code m w → v = w := by
  intro v
  induction v using snoc_ind with
  | h0 =>
    intro w _ hw h
    induction w using snoc_ind with
    | h0 => rfl
    | h1 w x _ => rw [code_snoc, code_nil] at h; omega
  | h1 v x ih =>
    intro w hv hw h
    induction w using snoc_ind with
    | h0 => rw [code_snoc, code_nil] at h; omega
    | h1 w y _ =>
      rw [code_snoc, code_snoc] at h
      obtain ⟨h1, rfl⟩ := digits_inj (hv.right x (by simp)) (hw.right y (by simp)) h
      rw [ih w hv.left hw.left h1]
/-- The number of the first word of k letters. -/
def lo (m : Nat) : Nat → Nat
  | 0 => 0
  | k + 1 => m * lo m k + 1
theorem lo_pow (m : Nat) : ∀ k, lo m (k + 1) = lo m k + m ^ k
  | 0 => by simp [lo]
  | k + 1 => by
    have := lo_pow m k
    show m * lo m (k + 1) + 1 = (m * lo m k + 1) + m ^ (k + 1)
    rw [this, Nat.mul_add, Nat.pow_succ, Nat.mul_comm m (m ^ k)]; omega
theorem code_lo {m : Nat} (w : List Nat) (h : Wd m w) : lo m w.length ≤ code m w ∧ code m w + 1 ≤ lo m (w.length + 1) := by
  induction w using snoc_ind with
  | h0 => simp [lo, code_nil]
  | h1 w x ih =>
    obtain ⟨h1, h2⟩ := ih h.left
    have hx := h.right x (by simp)
    rw [code_snoc, List.length_append, List.length_singleton]
    have a := Nat.mul_le_mul_left m h1; have b := Nat.mul_le_mul_left m h2
    rw [Nat.mul_add] at b
    show m * lo m w.length + 1 ≤ _ ∧ _ ≤ m * lo m (w.length + 1) + 1
    omega
theorem lo_mono {m : Nat} (hm : 0 < m) {j k : Nat} (h : j ≤ k) : lo m j ≤ lo m k := by
  induction k with
  | zero => rw [Nat.le_zero.1 h]; exact Nat.le_refl _
  | succ k ih =>
    rcases Nat.lt_or_ge k j with h1 | h1
    · rw [Nat.le_antisymm h h1]; exact Nat.le_refl _
    · have := ih h1; rw [lo_pow]; omega
theorem code_len {m : Nat} (hm : 0 < m) {v w : List Nat} (hv : Wd m v) (hw : Wd m w) (h : v.length < w.length) : code m v < code m w := by
  have := code_lo v hv; have := code_lo w hw; have := lo_mono hm (j := v.length + 1) (k := w.length) h; omega
/-- The first shortest word that leads from s to t. -/
structure Least (f : Nat → Nat → Nat) (m s t : Nat) (w : List Nat) : Prop where
  wd : Wd m w
  ends : run f s w = t
  le : ∀ v, Wd m v → run f s v = t → code m w ≤ code m v
theorem Least.uniq {f : Nat → Nat → Nat} {m s t : Nat} {v w : List Nat} (h : Least f m s t v) (k : Least f m s t w) : v = w :=
  code_inj v w h.wd k.wd (Nat.le_antisymm (h.le w k.wd k.ends) (k.le v h.wd h.ends))
/-- A word as the program has it. -/
def toI (w : List Nat) : List Int := w.map fun (x : Nat) => (x : Int)
theorem toI_snoc (w : List Nat) (x : Nat) : toI (w ++ [x]) = toI w ++ [(x : Int)] := by simp [toI]
theorem toI_len (w : List Nat) : (toI w).length = w.length := by simp [toI]
end Go.Proofs.Ytjgdalhdiohclaa.Q
end
/-! Part MSinks -/
section
namespace Go.Proofs.Ytjgdalhdiohclaa.Q
open Go.RowKit Go.Proofs.YtjgdalhdiohclaaW.PrintWords Go.Proofs.YtjgdalhdiohclaaW.PrintLast Go.Proofs.YtjgdalhdiohclaaW.PrintMore
set_option linter.unusedVariables false
/-! ### sinks -/
/-- The state s is the least one of a sink. -/
def IsSink (f : Nat → Nat → Nat) (n m s : Nat) : Prop := ∀ t, t < n → Conn f m s t → s ≤ t ∧ Conn f m t s
open Classical in
/-- The states that can be reached, in order. -/
noncomputable def reachTo (f : Nat → Nat → Nat) (j m s : Nat) : List Nat := (List.range j).filter fun t => decide (Conn f m s t)
open Classical in
/-- The sinks, in order. -/
noncomputable def sinksTo (f : Nat → Nat → Nat) (n m j : Nat) : List (List Int) := (List.range j).flatMap fun s => if IsSink f n m s then [toI (reachTo f n m s)] else []
theorem reachTo_yes {f : Nat → Nat → Nat} {j m s : Nat} (h : Conn f m s j) : reachTo f (j + 1) m s = reachTo f j m s ++ [j] := by
  unfold reachTo; rw [List.range_succ, List.filter_append]; simp [h]
theorem reachTo_no {f : Nat → Nat → Nat} {j m s : Nat} (h : ¬ Conn f m s j) : reachTo f (j + 1) m s = reachTo f j m s := by
  unfold reachTo; rw [List.range_succ, List.filter_append]; simp [h]
theorem reachTo_mem {f : Nat → Nat → Nat} {j m s t : Nat} : t ∈ reachTo f j m s ↔ t < j ∧ Conn f m s t := by
  unfold reachTo; rw [List.mem_filter, List.mem_range]; simp
theorem reachTo_len (f : Nat → Nat → Nat) (j m s : Nat) : (reachTo f j m s).length ≤ j := by
  unfold reachTo; exact Nat.le_trans (List.length_filter_le _ _) (Nat.le_of_eq List.length_range)
theorem sinksTo_yes {f : Nat → Nat → Nat} {n m j : Nat} (h : IsSink f n m j) : sinksTo f n m (j + 1) = sinksTo f n m j ++ [toI (reachTo f n m j)] := by
  unfold sinksTo; rw [List.range_succ, List.flatMap_append]; simp [h]
theorem sinksTo_no {f : Nat → Nat → Nat} {n m j : Nat} (h : ¬ IsSink f n m j) : sinksTo f n m (j + 1) = sinksTo f n m j := by
  unfold sinksTo; rw [List.range_succ, List.flatMap_append]; simp [h]
theorem sinksTo_len (f : Nat → Nat → Nat) (n m : Nat) : ∀ j, (sinksTo f n m j).length ≤ j
  | 0 => by simp [sinksTo]
  | j + 1 => by
    have := sinksTo_len f n m j
    by_cases h : IsSink f n m j
    · rw [sinksTo_yes h, List.length_append]; simp; omega
    · rw [sinksTo_no h]; omega
theorem net_sinks {rows : List (List Int)} {n m : Nat} (V : VA rows n m) : Ev (fun k => net_Sinks.f k rows) (sinksTo (nx rows) n m n, 0) := by
  have hlen := V.len; have h60 := V.n60
  have outer : ∀ (d s : Nat), s + d = n → Ev (fun k => net_Sinks.l0 k (sinksTo (nx rows) n m s) (n : Int) (s : Int) rows) (sinksTo (nx rows) n m n, 0) := by
    intro d
    induction d with
    | zero =>
      intro s hs
      obtain rfl : s = n := by omega
      refine Ev.next ?_
      simp only [net_Sinks.l0, if_neg (by omega : ¬ (s : Int) < (s : Int))]
      exact Ev.now _
    | succ d ih =>
      intro s hs
      have hsn : s < n := by omega
      obtain ⟨all, ha1, ha2⟩ := net_reaches V hsn
      have hal := ha2.1
      have hrl := reachTo_len (nx rows) n m s; have hsl := sinksTo_len (nx rows) n m s
      have skip : ¬ IsSink (nx rows) n m s → Ev (fun k => net_Sinks.l0 k (sinksTo (nx rows) n m s) (n : Int) ((s + 1 : Nat) : Int) rows) (sinksTo (nx rows) n m n, 0) := fun h => by
        have := ih (s + 1) (by omega); rwa [sinksTo_no h] at this
      have inner : ∀ (e t : Nat), t + e = n → (∀ u, u < t → Conn (nx rows) m s u → s ≤ u ∧ Conn (nx rows) m u s) → Ev (fun k => net_Sinks.l1 k (sinksTo (nx rows) n m s) (s : Int) (toI (reachTo (nx rows) t m s)) (n : Int) (s : Int) all (all.length : Int) (t : Int) rows) (sinksTo (nx rows) n m n, 0) := by
        intro e
        induction e with
        | zero =>
          intro t ht hu
          obtain rfl : t = n := by omega
          refine Ev.next ?_
          simp only [net_Sinks.l1, if_neg (by omega : ¬ (t : Int) < (all.length : Int)), if_pos (by omega : (sinksTo (nx rows) t m s).length < 5864062014805), wrapS (by omega : s + 1 ≤ 9223372036854775807)]
          have := ih (s + 1) (by omega); rwa [sinksTo_yes hu] at this
        | succ e ih2 =>
          intro t ht hu
          have htn : t < n := by omega
          have hcut := reachTo_len (nx rows) t m s
          refine Ev.next ?_
          by_cases hc : Conn (nx rows) m s t
          · have hm := (ha2.2 t htn).2 hc
            by_cases hts : t < s
            · simp only [net_Sinks.l1, if_pos (by omega : (t : Int) < (all.length : Int)), if_pos (by omega : (0 : Int) ≤ (t : Int)), hm, if_true, if_pos (by omega : (t : Int) < (s : Int)), wrapS (by omega : s + 1 ≤ 9223372036854775807)]
              exact skip fun h => by have := (h t htn hc).1; omega
            · obtain ⟨back, hb1, hb2⟩ := net_reaches V htn
              have hbl := hb2.1
              simp only [net_Sinks.l1, if_pos (by omega : (t : Int) < (all.length : Int)), if_pos (by omega : (0 : Int) ≤ (t : Int)), hm, if_true, if_neg (by omega : ¬ (t : Int) < (s : Int))]
              refine Ev.bind hb1 ?_
              by_cases hcb : Conn (nx rows) m t s
              · simp only [if_pos (by omega : (0 : Int) ≤ (s : Int)), if_pos (by omega : (s : Int) < (back.length : Int)), (hb2.2 s hsn).2 hcb, if_true, toI_len, if_pos (by omega : (reachTo (nx rows) t m s).length < 17592186044416), wrapS (by omega : t + 1 ≤ 9223372036854775807)]
                have := ih2 (t + 1) (by omega) fun u h1 h2 => by
                  by_cases h3 : u = t
                  · subst h3; exact ⟨by omega, hcb⟩
                  · exact hu u (by omega) h2
                rwa [reachTo_yes hc, toI_snoc] at this
              · simp only [if_pos (by omega : (0 : Int) ≤ (s : Int)), if_pos (by omega : (s : Int) < (back.length : Int)), if_neg (fun h => hcb ((hb2.2 s hsn).1 h)), wrapS (by omega : s + 1 ≤ 9223372036854775807)]
                exact skip fun h => hcb (h t htn hc).2
          · simp only [net_Sinks.l1, if_pos (by omega : (t : Int) < (all.length : Int)), if_pos (by omega : (0 : Int) ≤ (t : Int)), if_neg (fun h => hc ((ha2.2 t htn).1 h)), wrapS (by omega : t + 1 ≤ 9223372036854775807)]
            have := ih2 (t + 1) (by omega) fun u h1 h2 => by
              by_cases h3 : u = t
              · subst h3; exact absurd h2 hc
              · exact hu u (by omega) h2
            rwa [reachTo_no hc] at this
      refine Ev.next ?_
      simp only [net_Sinks.l0, if_pos (by omega : (s : Int) < (n : Int))]
      refine Ev.bind ha1 ?_
      exact inner n 0 (by omega) fun u h => by omega
  unfold net_Sinks.f
  simp only [auto_Valid.f, validB_of V, Option.bind_some, if_true, hlen]
  exact outer n 0 (by omega)
/-- From each state a sink can be reached. -/
theorem some_sink {f : Nat → Nat → Nat} {n m : Nat} (hf : ∀ s x, s < n → x < m → f s x < n) {s : Nat} (hs : s < n) : ∃ s0, s0 < n ∧ IsSink f n m s0 ∧ Conn f m s s0 := by
  have lt : ∀ {s t}, s < n → Conn f m s t → t < n := fun {s t} hs h => h.closed (P := fun u => u < n) hs fun u x hu hx => hf u x hu hx
  -- a state whose reach is least
  have least : ∀ (d s : Nat), s < n → (reachTo f n m s).length ≤ d → ∃ t, t < n ∧ Conn f m s t ∧ ∀ u, Conn f m t u → Conn f m u t := by
    intro d
    induction d with
    | zero =>
      intro s hs hl
      have : s ∈ reachTo f n m s := reachTo_mem.2 ⟨hs, Conn.refl _ _ _⟩
      rw [List.eq_nil_of_length_eq_zero (by omega : (reachTo f n m s).length = 0)] at this; simp at this
    | succ d ih =>
      intro s hs hl
      by_cases h : ∀ u, Conn f m s u → Conn f m u s
      · exact ⟨s, hs, Conn.refl _ _ _, h⟩
      · simp only [Classical.not_forall] at h
        obtain ⟨u, hu, hnu⟩ := h
        have hun := lt hs hu
        have hlt : (reachTo f n m u).length < (reachTo f n m s).length := by
          have hsub : ∀ x ∈ reachTo f n m u, x ∈ (reachTo f n m s).erase s := fun x hx => by
            have h1 := reachTo_mem.1 hx
            have hne : x ≠ s := fun e => hnu (e ▸ h1.2)
            exact (List.mem_erase_of_ne hne).2 (reachTo_mem.2 ⟨h1.1, hu.trans h1.2⟩)
          have hnd : (reachTo f n m u).Nodup := List.Pairwise.filter _ List.nodup_range
          have hle := List.Nodup.length_le_of_subset hnd hsub
          have hmem : s ∈ reachTo f n m s := reachTo_mem.2 ⟨hs, Conn.refl _ _ _⟩
          rw [List.length_erase_of_mem hmem] at hle
          have : 0 < (reachTo f n m s).length := List.length_pos_of_mem hmem
          omega
        obtain ⟨t, h1, h2, h3⟩ := ih u hun (by omega)
        exact ⟨t, h1, hu.trans h2, h3⟩
  obtain ⟨t, ht, hst, hall⟩ := least _ s hs (Nat.le_refl _)
  -- the least state of its sink
  have low : ∀ (d t : Nat), t ≤ d → t < n → (∀ u, Conn f m t u → Conn f m u t) → ∃ s0, s0 < n ∧ IsSink f n m s0 ∧ Conn f m t s0 := by
    intro d
    induction d with
    | zero => intro t htd ht hall; exact ⟨t, ht, fun u _ hu => ⟨by omega, hall u hu⟩, Conn.refl _ _ _⟩
    | succ d ih =>
      intro t htd ht hall
      by_cases h : ∃ u, u < t ∧ Conn f m t u
      · obtain ⟨u, h1, h2⟩ := h
        obtain ⟨s0, h3, h4, h5⟩ := ih u (by omega) (by omega) fun v hv => (hall v (h2.trans hv)).trans h2
        exact ⟨s0, h3, h4, h2.trans h5⟩
      · exact ⟨t, ht, fun u _ hu => ⟨by
          rcases Nat.lt_or_ge u t with h1 | h1
          · exact absurd ⟨u, h1, hu⟩ h
          · exact h1, hall u hu⟩, Conn.refl _ _ _⟩
  obtain ⟨s0, h1, h2, h3⟩ := low t t (Nat.le_refl _) ht hall
  exact ⟨s0, h1, h2, hst.trans h3⟩
end Go.Proofs.Ytjgdalhdiohclaa.Q
end
/-! Part MRun -/
section
namespace Go.Proofs.Ytjgdalhdiohclaa.Q
open Go.RowKit Go.Proofs.YtjgdalhdiohclaaW.PrintWords Go.Proofs.YtjgdalhdiohclaaW.PrintLast Go.Proofs.YtjgdalhdiohclaaW.PrintMore
set_option linter.unusedVariables false
theorem Least.short {rows : List (List Int)} {n m s t : Nat} {w : List Nat} (h : Least (nx rows) m s t w) (V : VA rows n m) (hs : s < n) : w.length < n := by
  obtain ⟨z, hz1, hz2, hz3, _⟩ := short_word (fun s x => V.nxLt) _ w s (Nat.le_refl _) hs h.wd
  rcases Nat.lt_or_ge z.length w.length with h1 | h1
  · have := code_len V.m0 hz1 h.wd h1
    have := h.le z hz1 (hz2.trans h.ends); omega
  · omega
theorem toI_rd {w : List Nat} {i : Nat} (h : i < w.length) : rd (toI w) (i : Int) = ((w[i] : Nat) : Int) := by
  rw [rdE (by rw [toI_len]; exact h)]; simp [toI]
theorem inB_toI {m : Nat} {w : List Nat} : inB (m : Int) (toI w) = true ↔ Wd m w := by
  unfold inB toI
  rw [List.all_eq_true]
  constructor
  · intro h x hx
    have := h (x : Int) (List.mem_map.2 ⟨x, hx, rfl⟩)
    simp at this; omega
  · intro h x hx
    obtain ⟨y, hy, rfl⟩ := List.mem_map.1 hx
    have := h y hy
    simp; omega
/-- A word of the program is a word. -/
theorem toI_of {m : Nat} {l : List Int} (h : inB (m : Int) l = true) : ∃ w, Wd m w ∧ l = toI w := by
  refine ⟨l.map Int.toNat, ?_, ?_⟩
  · intro x hx
    obtain ⟨y, hy, rfl⟩ := List.mem_map.1 hx
    unfold inB at h; rw [List.all_eq_true] at h
    have := h y hy; simp at this; omega
  · unfold toI
    rw [List.map_map]
    symm
    rw [List.map_congr_left (g := id) (fun y hy => by
      unfold inB at h; rw [List.all_eq_true] at h
      have := h y hy; simp at this ⊢; omega)]
    simp
theorem auto_lead {rows : List (List Int)} {n m s : Nat} (V : VA rows n m) (hs : s < n) {w : List Nat} (hw : Wd m w) (hl : w.length ≤ 1000000) : Ev (fun k => auto_Lead.f k rows (s : Int) (toI w)) ((run (nx rows) s w : Nat) : Int) := by
  have hlen := V.len
  have key : ∀ (d i u : Nat), i + d = w.length → u < n → Ev (fun k => auto_Lead.l0 k (u : Int) (toI w) (w.length : Int) (i : Int) rows) ((run (nx rows) u (w.drop i) : Nat) : Int) := by
    intro d
    induction d with
    | zero =>
      intro i u hi hu
      refine Ev.next ?_
      simp only [auto_Lead.l0, if_neg (by omega : ¬ (i : Int) < (w.length : Int))]
      rw [List.drop_eq_nil_of_le (by omega)]
      exact Ev.now _
    | succ d ih =>
      intro i u hi hu
      have hil : i < w.length := by omega
      have hx := hw w[i] (List.getElem_mem hil)
      have hrow := V.row u hu
      refine Ev.next ?_
      simp only [auto_Lead.l0, if_pos (by omega : (i : Int) < (w.length : Int)), if_pos (by omega : (0 : Int) ≤ (i : Int)), toI_len, if_pos (by omega : (0 : Int) ≤ (u : Int)), if_pos (by omega : (u : Int) < (rows.length : Int)), toI_rd hil, if_pos (by omega : (0 : Int) ≤ ((w[i] : Nat) : Int)), if_pos (by omega : ((w[i] : Nat) : Int) < ((rd_L1 rows (u : Int)).length : Int)), V.nxE hu hx, wrapS (by omega : i + 1 ≤ 9223372036854775807)]
      rw [List.drop_eq_getElem_cons hil]
      exact ih (i + 1) _ (by omega) (V.nxLt hu hx)
  unfold auto_Lead.f
  rw [toI_len]
  exact key w.length 0 s (by omega) hs
theorem auto_letters {rows : List (List Int)} {n m : Nat} (V : VA rows n m) : auto_Letters.f rows = some (m : Int) := by
  unfold auto_Letters.f
  have := V.n0; have := V.len; have := V.row 0 V.n0
  rw [if_pos (by omega)]; congr 1; exact congrArg _ this
theorem auto_word {rows : List (List Int)} {n m : Nat} (V : VA rows n m) (l : List Int) : auto_Word.f rows l = some (decide (l.length ≤ 40000) && inB (m : Int) l) := by
  unfold auto_Word.f
  by_cases h : l.length ≤ 40000
  · rw [if_pos (by omega), auto_letters V, decide_eq_true h]
    simp only [Option.bind_some, auto_within_int.f, Bool.true_and]
  · rw [if_neg (by omega), decide_eq_false h, Bool.false_and]
theorem ref_has (l : List Int) (z : Int) (hl : l.length ≤ 9223372036854775806) : Ev (fun k => mizmazeref01_Has.f k l z) (decide (z ∈ l)) := by
  unfold mizmazeref01_Has.f
  refine @Ev.every Bool (fun k i => mizmazeref01_Has.l0 k l z (i : Int)) l.length false true _ (fun i => decide (rd l (i : Int) ≠ z)) ?_ ?_ ?_ ?_ ?_
  · intro h
    rw [decide_eq_false_iff_not]
    intro hz
    obtain ⟨i, hi, e⟩ := List.getElem_of_mem hz
    have := of_decide_eq_true (h i hi)
    rw [rdE hi] at this; exact this e
  · intro i hi h
    have h2 := of_decide_eq_false h
    rw [rdE hi] at h2
    rw [decide_eq_true_eq, ← Classical.not_not.1 h2]; exact List.getElem_mem hi
  · intro i hi hp hr
    refine Ev.next ?_
    simp only [mizmazeref01_Has.l0, if_pos (by omega : (i : Int) < (l.length : Int)), if_pos (by omega : (0 : Int) ≤ (i : Int)), if_neg (of_decide_eq_true hp), wrapS (by omega : i + 1 ≤ 9223372036854775807)]
    exact hr
  · intro i hi hp
    refine Ev.next ?_
    simp only [mizmazeref01_Has.l0, if_pos (by omega : (i : Int) < (l.length : Int)), if_pos (by omega : (0 : Int) ≤ (i : Int)), if_pos (Classical.not_not.1 (of_decide_eq_false hp))]
    exact Ev.now _
  · refine Ev.next ?_
    simp only [mizmazeref01_Has.l0, if_neg (by omega : ¬ (l.length : Int) < (l.length : Int))]
    exact Ev.now _
end Go.Proofs.Ytjgdalhdiohclaa.Q
end
