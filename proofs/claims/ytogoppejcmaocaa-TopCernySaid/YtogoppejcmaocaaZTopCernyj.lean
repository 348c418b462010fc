/- The law TopCerny holds: the shortest reset word that is found for Cerny's automaton of n states has (n - 1)^2 letters, for n from 2 to 11; the law has no arguments. (text 10 of 30) -/
import Derived.Test.YtogoppejcmaocaaZTopCernyh
import Derived.ProofKit
import Derived.OpenShut
import Derived.ChangeOld
import Derived.ChangeSlices
import Derived.Deep.Matrix
import Derived.Test.YtogoppejcmaocaaZTopCernyi
import Derived.Test.YtogoppejcmaocaaZTopCernyd
/-! Part XOpen -/
section
namespace Go.Proofs.Ytogoppejcmaocaa.Q
open Go.RowKit Go.Proofs.YtogoppejcmaocaaW.PrintWords Go.Proofs.YtogoppejcmaocaaW.PrintLast Go.Proofs.YtogoppejcmaocaaW.PrintMore
open Go.ChangeShapes Go.WideShapes
set_option linter.unusedVariables false
set_option linter.unusedSimpArgs false

section
variable {H : Type} {enc : TypeId × Value → H} {P : Program} {w : World} {held : Bool}
end
end Go.Proofs.Ytogoppejcmaocaa.Q
end
/-! Part MBase -/
section
namespace Go.Proofs.Ytogoppejcmaocaa.Q
open Go.RowKit Go.Proofs.YtogoppejcmaocaaW.PrintWords Go.Proofs.YtogoppejcmaocaaW.PrintLast Go.Proofs.YtogoppejcmaocaaW.PrintMore
set_option linter.unusedVariables false

/-! ### numbers and lists -/
theorem wrapS {i : Nat} (h : i + 1 ≤ 9223372036854775807) : wrap64 ((i : Int) + 1) = ((i + 1 : Nat) : Int) := by
  unfold wrap64; omega
theorem wrapI {z : Int} (h0 : -9223372036854775808 ≤ z) (h : z ≤ 9223372036854775807) : wrap64 z = z := by
  unfold wrap64; omega
theorem rdN (l : List Int) (i : Nat) : rd l (i : Int) = l.getD i 0 := rfl
theorem rdE {l : List Int} {i : Nat} (h : i < l.length) : rd l (i : Int) = l[i] := by
  rw [rdN, List.getD_eq_getElem?_getD, List.getElem?_eq_getElem h]; rfl
theorem rdLN (l : List (List Int)) (i : Nat) : rd_L1 l (i : Int) = l.getD i [] := rfl
theorem rdLE {l : List (List Int)} {i : Nat} (h : i < l.length) : rd_L1 l (i : Int) = l[i] := by
  rw [rdLN, List.getD_eq_getElem?_getD, List.getElem?_eq_getElem h]; rfl
theorem rdBE {l : List Bool} {i : Nat} (h : i < l.length) : rdOf false l (i : Int) = l[i] := by
  show l.getD i false = _
  rw [List.getD_eq_getElem?_getD, List.getElem?_eq_getElem h]; rfl
theorem rd_in {l : List Int} {n x : Int} (h : inB n l = true) (h0 : 0 ≤ x) (h1 : x < l.length) : 0 ≤ rd l x ∧ rd l x < n := by
  obtain ⟨i, rfl⟩ := Int.eq_ofNat_of_zero_le h0
  rw [rdE (by omega)]
  unfold inB at h
  rw [List.all_eq_true] at h
  simpa using h _ (List.getElem_mem (by omega : i < l.length))
/-- A function that doesn't count rounds. -/
theorem Ev.const {α : Type} {a : Option α} {r : α} (h : a = some r) : Ev (fun _ => a) r := ⟨0, fun _ _ => h⟩
theorem Ev.eq {α : Type} {g : Nat → Option α} {r r' : α} (h : Ev g r) (e : r = r') : Ev g r' := e ▸ h

/-! ### reference 1 -/
theorem Ev.next {α : Type} {g : Nat → Option α} {r : α} (h : Ev (fun k => g (k + 1)) r) : Ev g r := Ev.step (fun _ => rfl) h
theorem Ev.ret {α : Type} {r r' : α} (e : r = r') : Ev (fun _ => some r) r' := e ▸ Ev.now r
/-- A loop that asks a question of each number below n. -/
theorem Ev.every {α : Type} {g : Nat → Nat → Option α} {n : Nat} {yes no r : α} (p : Nat → Bool)
    (hy : (∀ i, i < n → p i = true) → r = yes) (hn : ∀ i, i < n → p i = false → r = no)
    (go : ∀ i, i < n → p i = true → Ev (fun k => g k (i + 1)) r → Ev (fun k => g k i) r)
    (stop : ∀ i, i < n → p i = false → Ev (fun k => g k i) no) (fin : Ev (fun k => g k n) yes) : Ev (fun k => g k 0) r := by
  have key : ∀ d i : Nat, i + d = n → (∀ j, j < i → p j = true) → Ev (fun k => g k i) r := by
    intro d
    induction d with
    | zero =>
      intro i hi hj
      obtain rfl : i = n := by omega
      rw [hy hj]; exact fin
    | succ d ih =>
      intro i hi hj
      cases hp : p i with
      | false => rw [hn i (by omega) hp]; exact stop i (by omega) hp
      | true =>
        refine go i (by omega) hp (ih (i + 1) (by omega) fun j h => ?_)
        rcases Nat.lt_or_ge j i with h4 | h4
        · exact hj j h4
        · obtain rfl : j = i := by omega
          exact hp
  exact key n 0 (by omega) fun j h => by omega
theorem inB_iff {n : Int} {l : List Int} : inB n l = true ↔ ∀ i (h : i < l.length), 0 ≤ l[i] ∧ l[i] < n := by
  unfold inB
  rw [List.all_eq_true]
  refine ⟨fun h i hi => by simpa using h _ (List.getElem_mem hi), fun h x hx => ?_⟩
  obtain ⟨i, hi, rfl⟩ := List.getElem_of_mem hx
  simpa using h i hi
/-- What a valid automaton is. -/
structure VA (rows : List (List Int)) (n m : Nat) : Prop where
  len : rows.length = n
  n0 : 0 < n
  n60 : n ≤ 60
  m0 : 0 < m
  m6 : m ≤ 6
  row : ∀ s, s < n → (rd_L1 rows (s : Int)).length = m
  ent : ∀ s, s < n → inB n (rd_L1 rows (s : Int)) = true
theorem any_bad {l : List (List Int)} {p : List Int → Bool} : l.any p = false ↔ ∀ i, i < l.length → p (rd_L1 l (i : Int)) = false := by
  rw [List.any_eq_false]
  refine ⟨fun h i hi => by rw [rdLE hi]; simpa using h _ (List.getElem_mem hi), fun h x hx => ?_⟩
  obtain ⟨i, hi, rfl⟩ := List.getElem_of_mem hx
  have := h i hi
  rw [rdLE hi] at this
  simp [this]
theorem validB_iff {rows : List (List Int)} : validB rows = true ↔ VA rows rows.length (rd_L1 rows 0).length := by
  unfold validB kOf badB
  rw [Bool.and_eq_true, decide_eq_true_eq, Bool.not_eq_true', any_bad]
  constructor
  · rintro ⟨⟨h1, h2, h3, h4⟩, h5⟩
    have e := fun s (h : s < rows.length) => h5 s h
    simp only [Bool.or_eq_false_iff, decide_eq_false_iff_not, Bool.not_eq_false', Classical.not_not] at e
    exact ⟨rfl, by omega, by omega, by omega, by omega, fun s h => by have := (e s h).1; omega, fun s h => (e s h).2⟩
  · intro V
    have := V.n0; have := V.n60; have := V.m0; have := V.m6
    refine ⟨⟨by omega, by omega, by omega, by omega⟩, fun i hi => ?_⟩
    have := V.row i hi
    simp only [Bool.or_eq_false_iff, decide_eq_false_iff_not, Bool.not_eq_false', Classical.not_not]
    exact ⟨by omega, V.ent i hi⟩
theorem validB_of {rows : List (List Int)} {n m : Nat} (V : VA rows n m) : validB rows = true := by
  refine validB_iff.2 ?_
  have h1 := V.len; subst h1
  have h2 : (rd_L1 rows 0).length = m := V.row 0 V.n0
  rw [h2]; exact V
/-- The state to which a letter leads. -/
def nx (rows : List (List Int)) (s x : Nat) : Nat := (rd (rd_L1 rows (s : Int)) (x : Int)).toNat
theorem VA.nxE {rows : List (List Int)} {n m : Nat} (V : VA rows n m) {s x : Nat} (hs : s < n) (hx : x < m) : rd (rd_L1 rows (s : Int)) (x : Int) = ((nx rows s x : Nat) : Int) := by
  have := rd_in (V.ent s hs) (Int.natCast_nonneg x) (by have := V.row s hs; omega)
  unfold nx; omega
theorem VA.nxLt {rows : List (List Int)} {n m : Nat} (V : VA rows n m) {s x : Nat} (hs : s < n) (hx : x < m) : nx rows s x < n := by
  have := rd_in (V.ent s hs) (Int.natCast_nonneg x) (by have := V.row s hs; omega)
  unfold nx; omega
theorem VA.letters {rows : List (List Int)} {n m : Nat} (V : VA rows n m) : mizmazeref01_Letters.f rows = some (m : Int) := by
  unfold mizmazeref01_Letters.f
  have := V.n0; have := V.len; have := V.row 0 V.n0
  rw [if_pos (by omega)]; congr 1; exact congrArg _ this
end Go.Proofs.Ytogoppejcmaocaa.Q
end
/-! Part MGen -/
section
namespace Go.Proofs.Ytogoppejcmaocaa.Q
open Go.RowKit Go.Proofs.YtogoppejcmaocaaW.PrintWords Go.Proofs.YtogoppejcmaocaaW.PrintLast Go.Proofs.YtogoppejcmaocaaW.PrintMore
set_option linter.unusedVariables false

/-! ### words and where they lead, over a step function f -/
/-- The state to which a word leads. -/
def run (f : Nat → Nat → Nat) : Nat → List Nat → Nat
  | s, [] => s
  | s, x :: w => run f (f s x) w
theorem run_app (f : Nat → Nat → Nat) : ∀ (v w : List Nat) s, run f s (v ++ w) = run f (run f s v) w
  | [], _, _ => rfl
  | _ :: v, w, s => run_app f v w _
theorem run_snoc (f : Nat → Nat → Nat) (v : List Nat) (x s : Nat) : run f s (v ++ [x]) = f (run f s v) x := run_app f v [x] s
/-- A word over m letters. -/
def Wd (m : Nat) (w : List Nat) : Prop := ∀ x ∈ w, x < m
theorem Wd.nil (m : Nat) : Wd m [] := fun _ h => nomatch h
theorem Wd.app {m : Nat} {v w : List Nat} (h : Wd m v) (k : Wd m w) : Wd m (v ++ w) := fun x hx => (List.mem_append.1 hx).elim (h x) (k x)
theorem Wd.one {m x : Nat} (h : x < m) : Wd m [x] := fun y hy => by rw [List.mem_singleton.1 hy]; exact h
theorem Wd.left {m : Nat} {v w : List Nat} (h : Wd m (v ++ w)) : Wd m v := fun x hx => h x (List.mem_append.2 (Or.inl hx))
theorem Wd.right {m : Nat} {v w : List Nat} (h : Wd m (v ++ w)) : Wd m w := fun x hx => h x (List.mem_append.2 (Or.inr hx))
/-- Some word leads from s to t. -/
def Conn (f : Nat → Nat → Nat) (m s t : Nat) : Prop := ∃ w, Wd m w ∧ run f s w = t
theorem Conn.refl (f : Nat → Nat → Nat) (m s : Nat) : Conn f m s s := ⟨[], Wd.nil m, rfl⟩
theorem Conn.trans {f : Nat → Nat → Nat} {m s t u : Nat} (h : Conn f m s t) (k : Conn f m t u) : Conn f m s u := by
  obtain ⟨v, h1, rfl⟩ := h; obtain ⟨w, h2, rfl⟩ := k
  exact ⟨v ++ w, h1.app h2, run_app f v w s⟩
theorem Conn.step {f : Nat → Nat → Nat} {m s x : Nat} (h : x < m) : Conn f m s (f s x) := ⟨[x], Wd.one h, rfl⟩
/-- What contains s and is closed contains what can be reached. -/
theorem Conn.closed {f : Nat → Nat → Nat} {m s t : Nat} {P : Nat → Prop} (h : Conn f m s t) (hs : P s) (hc : ∀ u x, P u → x < m → P (f u x)) : P t := by
  obtain ⟨w, hw, rfl⟩ := h
  induction w generalizing s with
  | nil => exact hs
  | cons x w ih => exact ih (hc s x hs (hw x List.mem_cons_self)) fun y hy => hw y (List.mem_cons_of_mem _ hy)
theorem VA.runLt {rows : List (List Int)} {n m : Nat} (V : VA rows n m) {s : Nat} (hs : s < n) {w : List Nat} (hw : Wd m w) : run (nx rows) s w < n := by
  induction w generalizing s with
  | nil => exact hs
  | cons x w ih => exact ih (V.nxLt hs (hw x List.mem_cons_self)) fun y hy => hw y (List.mem_cons_of_mem _ hy)
/-! ### the drawers -/
theorem nodup_le : ∀ (n : Nat) (l : List Nat), l.Nodup → (∀ x ∈ l, x < n) → l.length ≤ n
  | 0, l, _, h => by
    cases l with
    | nil => exact Nat.le_refl 0
    | cons x l => exact absurd (h x List.mem_cons_self) (Nat.not_lt_zero x)
  | n + 1, l, hd, h => by
    by_cases hn : n ∈ l
    · have h1 := nodup_le n (l.erase n) (hd.erase n) fun x hx => by
        have h2 := h x (List.mem_of_mem_erase hx)
        have h3 : x ≠ n := fun e => by subst e; exact hd.not_mem_erase hx
        omega
      rw [List.length_erase_of_mem hn] at h1; omega
    · have := nodup_le n l hd fun x hx => by
        have h2 := h x hx
        have h3 : x ≠ n := fun e => hn (e ▸ hx)
        omega
      omega
theorem drawers {n : Nat} (f : Nat → Nat) (h : ∀ i, i ≤ n → f i < n) : ∃ i j, i < j ∧ j ≤ n ∧ f i = f j := by
  refine Classical.byContradiction fun hc => ?_
  have hd : ((List.range (n + 1)).map f).Nodup := by
    rw [List.nodup_iff_pairwise_ne, List.pairwise_map]
    refine List.Pairwise.imp_of_mem (R := fun a b => a < b) ?_ List.pairwise_lt_range
    intro a b ha hb hab e
    exact hc ⟨a, b, hab, by have := List.mem_range.1 hb; omega, e⟩
  have := nodup_le n _ hd (by
    intro x hx
    obtain ⟨i, hi, rfl⟩ := List.mem_map.1 hx
    exact h i (by have := List.mem_range.1 hi; omega))
  rw [List.length_map, List.length_range] at this; omega
/-- Some word of fewer than n letters leads where a word leads. -/
theorem short_word {f : Nat → Nat → Nat} {n m : Nat} (hf : ∀ s x, s < n → x < m → f s x < n) : ∀ (d : Nat) (w : List Nat) (s : Nat), w.length ≤ d → s < n → Wd m w → ∃ v, Wd m v ∧ run f s v = run f s w ∧ v.length < n ∧ v.length ≤ w.length := by
  have rl : ∀ (w : List Nat) s, s < n → Wd m w → run f s w < n := by
    intro w
    induction w with
    | nil => intro s h _; exact h
    | cons x w ih => intro s h hw; exact ih _ (hf s x h (hw x List.mem_cons_self)) fun y hy => hw y (List.mem_cons_of_mem _ hy)
  intro d
  induction d with
  | zero => intro w s h hs hw; obtain rfl := List.eq_nil_of_length_eq_zero (by omega : w.length = 0); exact ⟨[], hw, rfl, by simp; omega, by simp⟩
  | succ d ih =>
    intro w s h hs hw
    by_cases hl : w.length < n
    · exact ⟨w, hw, rfl, hl, Nat.le_refl _⟩
    · have htk : ∀ i, Wd m (w.take i) := fun i x hx => hw x (List.mem_of_mem_take hx)
      have hdr : ∀ i, Wd m (w.drop i) := fun i x hx => hw x (List.mem_of_mem_drop hx)
      obtain ⟨i, j, hij, hj, e⟩ := drawers (n := n) (fun i => run f s (w.take i)) fun i _ => rl _ _ hs (htk i)
      obtain ⟨v, h1, h2, h3, h4⟩ := ih (w.take i ++ w.drop j) s (by rw [List.length_append, List.length_take, List.length_drop]; omega) hs ((htk i).app (hdr j))
      refine ⟨v, h1, h2.trans ?_, h3, by rw [List.length_append, List.length_take, List.length_drop] at h4; omega⟩
      rw [run_app, e, ← run_app, List.take_append_drop]

/-! ### lists of bools -/
/-- The list says which states have a property. -/
def Is (n : Nat) (l : List Bool) (P : Nat → Prop) : Prop := l.length = n ∧ ∀ t, t < n → (rdOf false l (t : Int) = true ↔ P t)
theorem Is.imp {n : Nat} {l : List Bool} {P P' : Nat → Prop} (h : Is n l P) (e : ∀ t, t < n → (P t ↔ P' t)) : Is n l P' := ⟨h.1, fun t ht => (h.2 t ht).trans (e t ht)⟩
theorem rdB_set {l : List Bool} {i j : Nat} {b : Bool} (hj : j < l.length) : rdOf false (l.set i b) (j : Int) = if i = j then b else rdOf false l (j : Int) := by
  rw [rdBE (by rw [List.length_set]; exact hj), rdBE hj, List.getElem_set]
theorem Is.set {n : Nat} {l : List Bool} {P : Nat → Prop} (h : Is n l P) {u : Nat} : Is n (l.set u true) (fun t => P t ∨ u = t) := by
  refine ⟨by rw [List.length_set]; exact h.1, fun t ht => ?_⟩
  rw [rdB_set (by rw [h.1]; exact ht)]
  by_cases e : u = t
  · simp [e]
  · simp [e, h.2 t ht]
theorem Is.none {n : Nat} : Is n (List.replicate n false) (fun _ => False) := by
  refine ⟨List.length_replicate, fun t ht => ?_⟩
  rw [rdBE (by rw [List.length_replicate]; exact ht), List.getElem_replicate]; simp
theorem Is.eq {n : Nat} {l l' : List Bool} {P : Nat → Prop} (h : Is n l P) (h' : Is n l' P) : l = l' := by
  refine List.ext_getElem (h.1.trans h'.1.symm) fun i h1 h2 => ?_
  have a := h.2 i (h.1 ▸ h1); have b := h'.2 i (h.1 ▸ h1)
  rw [rdBE h1] at a; rw [rdBE h2] at b
  rw [Bool.eq_iff_iff, a, b]
theorem Wd.tail {m x : Nat} {w : List Nat} (h : Wd m (x :: w)) : Wd m w := fun y hy => h y (List.mem_cons_of_mem _ hy)
theorem Wd.head {m x : Nat} {w : List Nat} (h : Wd m (x :: w)) : x < m := h x List.mem_cons_self
theorem Wd.cons {m x : Nat} {w : List Nat} (hx : x < m) (h : Wd m w) : Wd m (x :: w) := fun y hy => by
  rcases List.mem_cons.1 hy with rfl | h1
  · exact hx
  · exact h y h1
end Go.Proofs.Ytogoppejcmaocaa.Q
end
/-! Part MCode -/
section
namespace Go.Proofs.Ytogoppejcmaocaa.Q
set_option linter.unusedVariables false
/-! ### words in order: the shorter one first, then by letters -/
/-- The number of a word in this order. -/
def code (m : Nat) (w : List Nat) : Nat := w.foldl (fun a x => m * a + (x + 1)) 0
theorem code_nil (m : Nat) : code m [] = 0 := rfl
theorem code_snoc (m : Nat) (w : List Nat) (x : Nat) : code m (w ++ [x]) = m * code m w + (x + 1) := by
  unfold code; rw [List.foldl_append]; rfl
theorem snoc_ind {P : List Nat → Prop} (h0 : P []) (h1 : ∀ v x, P v → P (v ++ [x])) (w : List Nat) : P w := by
  have : ∀ n (w : List Nat), w.length = n → P w := by
    intro n
    induction n with
    | zero => intro w h; rw [List.eq_nil_of_length_eq_zero h]; exact h0
    | succ n ih =>
      intro w h
      have hne : w ≠ [] := fun e => by subst e; simp at h
      rw [← List.dropLast_concat_getLast hne]
      exact h1 _ _ (ih _ (by rw [List.length_dropLast]; omega))
  exact this _ w rfl
theorem digits_inj {m a b x y : Nat} (hx : x < m) (hy : y < m) (h : m * a + (x + 1) = m * b + (y + 1)) : a = b ∧ x = y := by
  have key : ∀ a b x y : Nat, x < m → a < b → m * a + (x + 1) = m * b + (y + 1) → False := fun a b x y hx hab h => by
    have := Nat.mul_le_mul_left m (Nat.succ_le_of_lt hab)
    rw [Nat.mul_succ] at this; omega
  rcases Nat.lt_trichotomy a b with h1 | h1 | h1
  · exact (key a b x y hx h1 h).elim
  · subst h1; omega
  · exact (key b a y x hy h1 h.symm).elim
theorem code_inj {m : Nat} : ∀ (v w : List Nat), Wd m v → Wd m w → code m v = code m w → v = w := by
  intro v
  induction v using snoc_ind with
  | h0 =>
    intro w _ hw h
    induction w using snoc_ind with
    | h0 => rfl
    | h1 w x _ => rw [code_snoc, code_nil] at h; omega
  | h1 v x ih =>
    intro w hv hw h
    induction w using snoc_ind with
    | h0 => rw [code_snoc, code_nil] at h; omega
    | h1 w y _ =>
      rw [code_snoc, code_snoc] at h
      obtain ⟨h1, rfl⟩ := digits_inj (hv.right x (by simp)) (hw.right y (by simp)) h
      rw [ih w hv.left hw.left h1]
/-- The number of the first word of k letters. -/
def lo (m : Nat) : Nat → Nat
  | 0 => 0
  | k + 1 => m * lo m k + 1
theorem lo_pow (m : Nat) : ∀ k, lo m (k + 1) = lo m k + m ^ k
  | 0 => by simp [lo]
  | k + 1 => by
    have := lo_pow m k
    show m * lo m (k + 1) + 1 = (m * lo m k + 1) + m ^ (k + 1)
    rw [this, Nat.mul_add, Nat.pow_succ, Nat.mul_comm m (m ^ k)]; omega
theorem code_lo {m : Nat} (w : List Nat) (h : Wd m w) : lo m w.length ≤ code m w ∧ code m w + 1 ≤ lo m (w.length + 1) := by
  induction w using snoc_ind with
  | h0 => simp [lo, code_nil]
  | h1 w x ih =>
    obtain ⟨h1, h2⟩ := ih h.left
    have hx := h.right x (by simp)
    rw [code_snoc, List.length_append, List.length_singleton]
    have a := Nat.mul_le_mul_left m h1; have b := Nat.mul_le_mul_left m h2
    rw [Nat.mul_add] at b
    show m * lo m w.length + 1 ≤ _ ∧ _ ≤ m * lo m (w.length + 1) + 1
    omega
theorem lo_mono {m : Nat} (hm : 0 < m) {j k : Nat} (h : j ≤ k) : lo m j ≤ lo m k := by
  induction k with
  | zero => rw [Nat.le_zero.1 h]; exact Nat.le_refl _
  | succ k ih =>
    rcases Nat.lt_or_ge k j with h1 | h1
    · rw [Nat.le_antisymm h h1]; exact Nat.le_refl _
    · have := ih h1; rw [lo_pow]; omega
theorem code_len {m : Nat} (hm : 0 < m) {v w : List Nat} (hv : Wd m v) (hw : Wd m w) (h : v.length < w.length) : code m v < code m w := by
  have := code_lo v hv; have := code_lo w hw; have := lo_mono hm (j := v.length + 1) (k := w.length) h; omega
theorem code_cons (m x : Nat) (w : List Nat) : code m (x :: w) = (x + 1) * m ^ w.length + code m w := by
  induction w using snoc_ind with
  | h0 => simp [code]
  | h1 w y ih =>
    rw [← List.cons_append, code_snoc, ih, code_snoc, List.length_append, List.length_singleton, Nat.pow_succ, Nat.mul_add, Nat.mul_left_comm, Nat.mul_comm m (m ^ w.length)]; omega
theorem code_head {m x y : Nat} {v w : List Nat} (hv : Wd m v) (hw : Wd m w) (h : v.length = w.length) (hxy : x < y) : code m (x :: v) < code m (y :: w) := by
  have h1 := code_lo v hv; have h2 := code_lo w hw
  rw [code_cons, code_cons, h]
  rw [h, lo_pow] at h1
  have := Nat.mul_le_mul_right (m ^ w.length) (Nat.succ_le_of_lt hxy)
  rw [Nat.succ_eq_add_one, Nat.add_mul] at this
  rw [Nat.add_mul, Nat.add_mul]; omega
/-- The first shortest word that leads from s to t. -/
structure Least (f : Nat → Nat → Nat) (m s t : Nat) (w : List Nat) : Prop where
  wd : Wd m w
  ends : run f s w = t
  le : ∀ v, Wd m v → run f s v = t → code m w ≤ code m v
theorem Least.uniq {f : Nat → Nat → Nat} {m s t : Nat} {v w : List Nat} (h : Least f m s t v) (k : Least f m s t w) : v = w :=
  code_inj v w h.wd k.wd (Nat.le_antisymm (h.le w k.wd k.ends) (k.le v h.wd h.ends))
/-- A word as the program has it. -/
def toI (w : List Nat) : List Int := w.map fun (x : Nat) => (x : Int)
theorem toI_snoc (w : List Nat) (x : Nat) : toI (w ++ [x]) = toI w ++ [(x : Int)] := by simp [toI]
theorem toI_len (w : List Nat) : (toI w).length = w.length := by simp [toI]
end Go.Proofs.Ytogoppejcmaocaa.Q
end
/-! Part MCerny -/
section
namespace Go.Proofs.Ytogoppejcmaocaa.Q
open Go.RowKit
set_option linter.unusedVariables false
/-! ### Cerny's automaton needs (n - 1)^2 letters -/
structure Cy (f : Nat → Nat → Nat) (n : Nat) : Prop where
  a : ∀ s, s < n → f s 0 = (s + 1) % n
  b : ∀ s, s < n → f s 1 = if s = n - 1 then 0 else s
/-- g states in a row, the last one e, to which w does not lead. -/
def Gap (f : Nat → Nat → Nat) (n : Nat) (w : List Nat) (g e : Nat) : Prop := ∀ i, i < g → ∀ s, s < n → run f s w ≠ (e + n - i) % n
theorem Cy.gap {f : Nat → Nat → Nat} {n : Nat} (C : Cy f n) (hn : 2 ≤ n) (w : List Nat) (hw : Wd 2 w) : ∀ g e, 1 ≤ g → g < n → e < n → Gap f n w g e → (g - 1) * n + 1 + (e + 1) % n ≤ w.length := by
  have hlt : ∀ v, Wd 2 v → ∀ s, s < n → run f s v < n := by
    intro v
    induction v using snoc_ind with
    | h0 => exact fun _ s hs => hs
    | h1 v x ih =>
      intro hv s hs
      rw [run_snoc]
      have h1 := ih hv.left s hs
      have hx : x < 2 := hv.right x (by simp)
      rcases Nat.lt_or_ge x 1 with h | h
      · obtain rfl : x = 0 := by omega
        rw [C.a _ h1]; exact Nat.mod_lt _ (by omega)
      · obtain rfl : x = 1 := by omega
        rw [C.b _ h1]; split <;> omega
  induction w using snoc_ind with
  | h0 =>
    intro g e h1 hg he hG
    exfalso
    have := hG 0 (by omega) e he
    rw [Nat.sub_zero, Nat.add_mod_right, Nat.mod_eq_of_lt he] at this
    exact this rfl
  | h1 v x ih =>
    intro g e h1 hg he hG
    have hv := hw.left
    have hx : x < 2 := hw.right x (by simp)
    rw [List.length_append, List.length_singleton]
    rcases Nat.lt_or_ge x 1 with h | h
    · obtain rfl : x = 0 := by omega
      -- the gap behind a was one place before
      have hG' : Gap f n v g ((e + n - 1) % n) := by
        intro i hi s hs heq
        refine hG i hi s hs ?_
        rw [run_snoc, C.a _ (hlt v hv s hs), heq]
        rcases Nat.eq_zero_or_pos e with h0 | h0
        · subst h0
          have e1 : (0 + n - 1) % n = n - 1 := by
            rw [show 0 + n - 1 = n - 1 by omega]; exact Nat.mod_eq_of_lt (show n - 1 < n by omega)
          rw [e1]
          have e2 : (n - 1 + n - i) % n = n - 1 - i := by
            rw [show n - 1 + n - i = (n - 1 - i) + n by omega, Nat.add_mod_right]; exact Nat.mod_eq_of_lt (by omega)
          rw [e2]
          rw [show n - 1 - i + 1 = 0 + n - i by omega]
        · have e1 : (e + n - 1) % n = e - 1 := by
            rw [show e + n - 1 = (e - 1) + n by omega, Nat.add_mod_right]; exact Nat.mod_eq_of_lt (by omega)
          rw [e1]
          rw [show e - 1 + n - i = e + n - i - 1 by omega]
          rw [Nat.mod_add_mod, show e + n - i - 1 + 1 = e + n - i by omega]
      have := ih hv g _ h1 hg (Nat.mod_lt _ (by omega)) hG'
      rcases Nat.eq_zero_or_pos e with h0 | h0
      · subst h0
        have e1 : (0 + n - 1) % n = n - 1 := by
            rw [show 0 + n - 1 = n - 1 by omega]; exact Nat.mod_eq_of_lt (show n - 1 < n by omega)
        rw [e1, show n - 1 + 1 = n by omega, Nat.mod_self] at this
        rw [Nat.mod_eq_of_lt (show 0 + 1 < n by omega)]
        omega
      · have e1 : (e + n - 1) % n = e - 1 := by
          rw [show e + n - 1 = (e - 1) + n by omega, Nat.add_mod_right]; exact Nat.mod_eq_of_lt (by omega)
        rw [e1, show e - 1 + 1 = e by omega, Nat.mod_eq_of_lt he] at this
        have : (e + 1) % n ≤ e + 1 := Nat.mod_le _ _
        omega
    · obtain rfl : x = 1 := by omega
      by_cases hin : ∃ i, i < g ∧ (e + n - i) % n = n - 1
      · obtain ⟨i0, hi0, hi1⟩ := hin
        by_cases h00 : ∃ i, i < g ∧ (e + n - i) % n = 0
        · obtain ⟨j0, hj0, hj1⟩ := h00
          -- both ends are in the gap
          have hG' : Gap f n v g e := by
            intro i hi s hs heq
            have hl := hlt v hv s hs
            by_cases c : run f s v = n - 1
            · refine hG j0 hj0 s hs ?_
              rw [run_snoc, C.b _ hl, if_pos c, hj1]
            · refine hG i hi s hs ?_
              rw [run_snoc, C.b _ hl, if_neg c, heq]
          have := ih hv g e h1 hg he hG'
          omega
        · -- the gap ends at n - 1
          have he1 : e = n - 1 := by
            rcases Nat.eq_zero_or_pos i0 with hz | hz
            · subst hz
              rw [Nat.sub_zero, Nat.add_mod_right, Nat.mod_eq_of_lt he] at hi1
              exact hi1
            · exfalso
              refine h00 ⟨i0 - 1, by omega, ?_⟩
              have e1 : e + n - (i0 - 1) = (e + n - i0) + 1 := by omega
              rw [e1, ← Nat.mod_add_mod, hi1, show n - 1 + 1 = n by omega, Nat.mod_self]
          subst he1
          rw [show n - 1 + 1 = n by omega, Nat.mod_self]
          rcases Nat.lt_or_ge g 2 with hg2 | hg2
          · obtain rfl : g = 1 := by omega
            simp
          · have hG' : Gap f n v (g - 1) (n - 2) := by
              intro i hi s hs heq
              have hl := hlt v hv s hs
              have e1 : (n - 2 + n - i) % n = n - 2 - i := by
                rw [show n - 2 + n - i = (n - 2 - i) + n by omega, Nat.add_mod_right]; exact Nat.mod_eq_of_lt (by omega)
              rw [e1] at heq
              refine hG (i + 1) (by omega) s hs ?_
              rw [run_snoc, C.b _ hl, if_neg (by omega), heq]
              rw [show n - 1 + n - (i + 1) = (n - 2 - i) + n by omega, Nat.add_mod_right]
              exact (Nat.mod_eq_of_lt (by omega)).symm
            have := ih hv (g - 1) (n - 2) (by omega) (by omega) (by omega) hG'
            rw [show n - 2 + 1 = n - 1 by omega, Nat.mod_eq_of_lt (show n - 1 < n by omega)] at this
            have e2 : (g - 1) * n = (g - 1 - 1) * n + n := by
              have : g - 1 = (g - 1 - 1) + 1 := by omega
              conv => lhs; rw [this]
              rw [Nat.add_mul, Nat.one_mul]
            omega
      · have hG' : Gap f n v g e := by
          intro i hi s hs heq
          have hl := hlt v hv s hs
          refine hG i hi s hs ?_
          rw [run_snoc, C.b _ hl, if_neg ?_, heq]
          rw [heq]
          exact fun h => hin ⟨i, hi, h⟩
        have := ih hv g e h1 hg he hG'
        omega
/-- No shorter word leads all states to one. -/
theorem Cy.least {f : Nat → Nat → Nat} {n : Nat} (C : Cy f n) (hn : 2 ≤ n) {w : List Nat} (hw : Wd 2 w) {t : Nat} (ht : t < n) (h : ∀ s, s < n → run f s w = t) : (n - 1) * (n - 1) ≤ w.length := by
  have hG : Gap f n w (n - 1) ((t + n - 1) % n) := by
    intro i hi s hs heq
    rw [h s hs] at heq
    rcases Nat.eq_zero_or_pos t with h0 | h0
    · subst h0
      have e1 : (0 + n - 1) % n = n - 1 := by
            rw [show 0 + n - 1 = n - 1 by omega]; exact Nat.mod_eq_of_lt (show n - 1 < n by omega)
      rw [e1, show n - 1 + n - i = (n - 1 - i) + n by omega, Nat.add_mod_right, Nat.mod_eq_of_lt (by omega)] at heq
      omega
    · have e1 : (t + n - 1) % n = t - 1 := by
        rw [show t + n - 1 = (t - 1) + n by omega, Nat.add_mod_right]; exact Nat.mod_eq_of_lt (by omega)
      rw [e1] at heq
      rcases Nat.lt_or_ge (t - 1) i with h1 | h1
      · rw [Nat.mod_eq_of_lt (by omega)] at heq; omega
      · rw [show t - 1 + n - i = (t - 1 - i) + n by omega, Nat.add_mod_right, Nat.mod_eq_of_lt (by omega)] at heq
        omega
  have := C.gap hn w hw (n - 1) _ (by omega) (by omega) (Nat.mod_lt _ (by omega)) hG
  have e2 : (n - 1) * (n - 1) = (n - 1 - 1) * n + 1 := by
    obtain ⟨k, rfl⟩ : ∃ k, n = k + 2 := ⟨n - 2, by omega⟩
    simp only [Nat.add_sub_cancel, show k + 2 - 1 = k + 1 by omega]
    simp only [Nat.mul_add, Nat.add_mul, Nat.one_mul, Nat.mul_one]
    omega
  omega
def cyf (n s x : Nat) : Nat := if x = 0 then (s + 1) % n else if s = n - 1 then 0 else s
def cyw (n : Nat) : List Nat := (List.replicate (n - 2) (1 :: List.replicate (n - 1) 0)).flatten ++ [1]
theorem cyw_ok : ∀ n, n < 13 → 2 ≤ n → (cyw n).length = (n - 1) * (n - 1) ∧ (cyw n).all (· < 2) = true ∧ (List.range n).all (fun s => run (cyf n) s (cyw n) == run (cyf n) 0 (cyw n)) = true := by decide +kernel
end Go.Proofs.Ytogoppejcmaocaa.Q
end
/-! Part MBfs -/
section
namespace Go.Proofs.Ytogoppejcmaocaa.Q
open Go.RowKit Go.Proofs.YtogoppejcmaocaaW.PrintWords Go.Proofs.YtogoppejcmaocaaW.PrintLast Go.Proofs.YtogoppejcmaocaaW.PrintMore
set_option linter.unusedVariables false
/-! ### breadth first -/
/-- What holds while letter x of the i-th state met is looked at. -/
structure Bfs (f : Nat → Nat → Nat) (m n s t : Nat) (q : List (Nat × List Nat)) (i x : Nat) : Prop where
  st : q[0]? = some (s, [])
  ok : ∀ e ∈ q, e.1 < n ∧ Wd m e.2 ∧ run f s e.2 = e.1 ∧ e.1 ≠ t
  nd : (q.map Prod.fst).Nodup
  le : ∀ (j : Nat) (e : Nat × List Nat), q[j]? = some e → e.2.length ≤ j
  mono : ∀ (j k : Nat) (a b : Nat × List Nat), j < k → q[j]? = some a → q[k]? = some b → code m a.2 < code m b.2
  done : ∀ (j : Nat) (e : Nat × List Nat) (y : Nat), q[j]? = some e → y < m → (j < i ∨ j = i ∧ y < x) → ∃ a ∈ q, a.1 = f e.1 y ∧ code m a.2 ≤ code m (e.2 ++ [y])
  top : ∀ e : Nat × List Nat, q[i]? = some e → ∀ a ∈ q, code m a.2 < m * code m e.2 + (x + 1)
theorem Bfs.len {f : Nat → Nat → Nat} {m n s t i x : Nat} {q : List (Nat × List Nat)} (B : Bfs f m n s t q i x) : q.length ≤ n := by
  have := nodup_le n _ B.nd (by intro u hu; obtain ⟨e, he, rfl⟩ := List.mem_map.1 hu; exact (B.ok e he).1)
  rwa [List.length_map] at this
/-- Every word is behind the front, or leads to a state met. -/
theorem Bfs.front {f : Nat → Nat → Nat} {m n s t i x : Nat} {q : List (Nat × List Nat)} (B : Bfs f m n s t q i x) {e : Nat × List Nat} (he : q[i]? = some e) (hx : x < m) (v : List Nat) (hv : Wd m v) :
    m * code m e.2 + (x + 1) ≤ code m v ∨ ∃ a ∈ q, a.1 = run f s v ∧ code m a.2 ≤ code m v := by
  induction v using snoc_ind with
  | h0 => exact Or.inr ⟨(s, []), List.mem_of_getElem? B.st, rfl, Nat.le_refl _⟩
  | h1 v y ih =>
    have hy := hv.right y (by simp)
    have hc := code_snoc m v y
    rcases ih hv.left with h | ⟨a, ha, ha1, ha2⟩
    · left; rw [hc]
      have : code m v ≤ m * code m v := Nat.le_mul_of_pos_left _ (by omega)
      omega
    · obtain ⟨j, hj⟩ := List.mem_iff_getElem?.1 ha
      have hm := Nat.mul_le_mul_left m ha2
      by_cases hd : j < i ∨ j = i ∧ y < x
      · obtain ⟨b, hb, hb1, hb2⟩ := B.done j a y hj hy hd
        refine Or.inr ⟨b, hb, by rw [run_snoc, hb1, ha1], ?_⟩
        rw [code_snoc] at hb2; rw [hc]; omega
      · left; rw [hc]
        rcases Nat.lt_or_ge i j with h | h
        · have h2 := Nat.mul_le_mul_left m (Nat.succ_le_of_lt (B.mono i j e a h he hj))
          rw [Nat.mul_succ] at h2
          omega
        · obtain rfl : j = i := by omega
          rw [he] at hj; obtain rfl := Option.some.inj hj
          omega
/-- When all is looked at: every word leads to a state met. -/
theorem Bfs.all {f : Nat → Nat → Nat} {m n s t i x : Nat} {q : List (Nat × List Nat)} (B : Bfs f m n s t q i x) (he : q.length ≤ i) (v : List Nat) (hv : Wd m v) : ∃ a ∈ q, a.1 = run f s v := by
  induction v using snoc_ind with
  | h0 => exact ⟨(s, []), List.mem_of_getElem? B.st, rfl⟩
  | h1 v y ih =>
    obtain ⟨a, ha, ha1⟩ := ih hv.left
    obtain ⟨j, hj⟩ := List.mem_iff_getElem?.1 ha
    have hlt := (List.getElem?_eq_some_iff.1 hj).1
    obtain ⟨b, hb, hb1, _⟩ := B.done j a y hj (hv.right y (by simp)) (Or.inl (by omega))
    exact ⟨b, hb, by rw [run_snoc, hb1, ha1]⟩
theorem Bfs.old {f : Nat → Nat → Nat} {m n s t i x : Nat} {q : List (Nat × List Nat)} (B : Bfs f m n s t q i x) {e a : Nat × List Nat} (he : q[i]? = some e) (ha : a ∈ q) (h : a.1 = f e.1 x) : Bfs f m n s t q i (x + 1) where
  st := B.st
  ok := B.ok
  nd := B.nd
  le := B.le
  mono := B.mono
  done := fun j e' y hj hy hd => by
    by_cases h1 : j < i ∨ j = i ∧ y < x
    · exact B.done j e' y hj hy h1
    · obtain rfl : j = i := by omega
      obtain rfl : y = x := by omega
      rw [he] at hj; obtain rfl := Option.some.inj hj
      refine ⟨a, ha, h, ?_⟩
      have := B.top e he a ha
      rw [code_snoc]; omega
  top := fun e' he' a ha => by have := B.top e' he' a ha; omega
theorem Bfs.new {f : Nat → Nat → Nat} {m n s t i x : Nat} {q : List (Nat × List Nat)} (B : Bfs f m n s t q i x) {e : Nat × List Nat} (he : q[i]? = some e) (hx : x < m) (hf : f e.1 x < n) (hn : ∀ a ∈ q, a.1 ≠ f e.1 x) (ht : f e.1 x ≠ t) : Bfs f m n s t (q ++ [(f e.1 x, e.2 ++ [x])]) i (x + 1) := by
  have hi := (List.getElem?_eq_some_iff.1 he).1
  have hem := List.mem_of_getElem? he
  have hok := B.ok e hem
  have ap : ∀ (j : Nat) (a : Nat × List Nat), (q ++ [(f e.1 x, e.2 ++ [x])])[j]? = some a → (q[j]? = some a ∧ j < q.length) ∨ (j = q.length ∧ a = (f e.1 x, e.2 ++ [x])) := by
    intro j a h
    rcases Nat.lt_trichotomy j q.length with h1 | h1 | h1
    · rw [List.getElem?_append_left h1] at h; exact Or.inl ⟨h, h1⟩
    · subst h1; rw [List.getElem?_append_right (Nat.le_refl _)] at h; simp at h; exact Or.inr ⟨rfl, h.symm⟩
    · rw [List.getElem?_eq_none (by rw [List.length_append]; simp; omega)] at h; exact absurd h (by simp)
  have hi' : (q ++ [(f e.1 x, e.2 ++ [x])])[i]? = some e := by rw [List.getElem?_append_left hi]; exact he
  refine ⟨?_, ?_, ?_, ?_, ?_, ?_, ?_⟩
  · rw [List.getElem?_append_left (by omega)]; exact B.st
  · intro a ha
    rcases List.mem_append.1 ha with h | h
    · exact B.ok a h
    · obtain rfl := List.mem_singleton.1 h
      exact ⟨hf, hok.2.1.app (Wd.one hx), by rw [run_snoc, hok.2.2.1], ht⟩
  · rw [List.map_append, List.nodup_append]
    refine ⟨B.nd, by simp, ?_⟩
    intro u hu v hv h
    obtain ⟨a, ha, rfl⟩ := List.mem_map.1 hu
    simp only [List.map_cons, List.map_nil, List.mem_singleton] at hv
    exact hn a ha (h.trans hv)
  · intro j a h
    rcases ap j a h with ⟨h1, _⟩ | ⟨rfl, rfl⟩
    · exact B.le j a h1
    · have := B.le i e he; simp only [List.length_append, List.length_singleton]; omega
  · intro j k a b hjk ha hb
    rcases ap k b hb with ⟨h1, h2⟩ | ⟨rfl, rfl⟩
    · rcases ap j a ha with ⟨h3, _⟩ | ⟨rfl, _⟩
      · exact B.mono j k a b hjk h3 h1
      · omega
    · rcases ap j a ha with ⟨h3, _⟩ | ⟨rfl, _⟩
      · have := B.top e he a (List.mem_of_getElem? h3)
        simp only [code_snoc]; omega
      · omega
  · intro j a y ha hy hd
    rcases ap j a ha with ⟨h1, h2⟩ | ⟨rfl, _⟩
    · by_cases h3 : j < i ∨ j = i ∧ y < x
      · obtain ⟨b, hb, h4⟩ := B.done j a y h1 hy h3
        exact ⟨b, List.mem_append.2 (Or.inl hb), h4⟩
      · obtain rfl : j = i := by omega
        obtain rfl : y = x := by omega
        rw [he] at h1; obtain rfl := Option.some.inj h1
        exact ⟨(f e.1 y, e.2 ++ [y]), by simp, rfl, Nat.le_refl _⟩
    · omega
  · intro e' he' a ha
    rw [hi'] at he'; obtain rfl := Option.some.inj he'
    rcases List.mem_append.1 ha with h | h
    · have := B.top e he a h; omega
    · obtain rfl := List.mem_singleton.1 h
      simp only [code_snoc]; omega
theorem Bfs.row {f : Nat → Nat → Nat} {m n s t i : Nat} {q : List (Nat × List Nat)} (B : Bfs f m n s t q i m) {e : Nat × List Nat} (he : q[i]? = some e) : Bfs f m n s t q (i + 1) 0 where
  st := B.st
  ok := B.ok
  nd := B.nd
  le := B.le
  mono := B.mono
  done := fun j e' y hj hy hd => B.done j e' y hj hy (by omega)
  top := fun e' he' a ha => by
    have h1 := B.top e he a ha
    have h2 := Nat.mul_le_mul_left m (Nat.succ_le_of_lt (B.mono i (i + 1) e e' (by omega) he he'))
    rw [Nat.mul_succ] at h2; omega
theorem Bfs.start {f : Nat → Nat → Nat} {m n s t : Nat} (hs : s < n) (hst : s ≠ t) : Bfs f m n s t [(s, [])] 0 0 where
  st := rfl
  ok := fun e he => by obtain rfl := List.mem_singleton.1 he; exact ⟨hs, Wd.nil m, rfl, hst⟩
  nd := by simp
  le := fun j e he => by
    cases j with
    | zero => simp at he; subst he; simp
    | succ j => simp at he
  mono := fun j k a b hjk ha hb => by
    cases k with
    | zero => omega
    | succ k => simp at hb
  done := fun j e y _ _ hd => by omega
  top := fun e he a ha => by
    simp at he; subst he
    obtain rfl := List.mem_singleton.1 ha
    simp [code_nil]
end Go.Proofs.Ytogoppejcmaocaa.Q
end
/-! Part MRun -/
section
namespace Go.Proofs.Ytogoppejcmaocaa.Q
open Go.RowKit Go.Proofs.YtogoppejcmaocaaW.PrintWords Go.Proofs.YtogoppejcmaocaaW.PrintLast Go.Proofs.YtogoppejcmaocaaW.PrintMore
set_option linter.unusedVariables false
theorem Least.short {rows : List (List Int)} {n m s t : Nat} {w : List Nat} (h : Least (nx rows) m s t w) (V : VA rows n m) (hs : s < n) : w.length < n := by
  obtain ⟨z, hz1, hz2, hz3, _⟩ := short_word (fun s x => V.nxLt) _ w s (Nat.le_refl _) hs h.wd
  rcases Nat.lt_or_ge z.length w.length with h1 | h1
  · have := code_len V.m0 hz1 h.wd h1
    have := h.le z hz1 (hz2.trans h.ends); omega
  · omega
end Go.Proofs.Ytogoppejcmaocaa.Q
end
/-! Part MRefAll -/
section
namespace Go.Proofs.Ytogoppejcmaocaa.Q
open Go.RowKit Go.Proofs.YtogoppejcmaocaaW.PrintWords Go.Proofs.YtogoppejcmaocaaW.PrintLast Go.Proofs.YtogoppejcmaocaaW.PrintMore
set_option linter.unusedVariables false
set_option linter.unusedSectionVars false
set_option linter.unusedSimpArgs false
end Go.Proofs.Ytogoppejcmaocaa.Q
end
/-! Part MRefImg -/
section
namespace Go.Proofs.Ytogoppejcmaocaa.Q
open Go.RowKit Go.Proofs.YtogoppejcmaocaaW.PrintWords Go.Proofs.YtogoppejcmaocaaW.PrintLast Go.Proofs.YtogoppejcmaocaaW.PrintMore
set_option linter.unusedVariables false
set_option linter.unusedSectionVars false
set_option linter.unusedSimpArgs false
/-! ### reference 1: words and images -/
/-- The states to which a word leads from the states of a set, in order. -/
def imgL (f : Nat → Nat → Nat) (n : Nat) (q w : List Nat) : List Nat := (List.range n).filter fun t => decide (t ∈ q.map fun s => run f s w)
theorem imgL_mem {f : Nat → Nat → Nat} {n t : Nat} {q w : List Nat} : t ∈ imgL f n q w ↔ t < n ∧ ∃ s ∈ q, run f s w = t := by
  unfold imgL
  rw [List.mem_filter, List.mem_range, decide_eq_true_eq, List.mem_map]
theorem imgL_srt (f : Nat → Nat → Nat) (n : Nat) (q w : List Nat) : (imgL f n q w).Pairwise (· < ·) := List.Pairwise.filter _ List.pairwise_lt_range
theorem imgL_one {f : Nat → Nat → Nat} {n t : Nat} {q w : List Nat} (hn : 0 < n) (ht : t < n) (h : ∀ s ∈ q, run f s w = t) (hq : ∃ s, s ∈ q) : imgL f n q w = [t] := by
  have hs := imgL_srt f n q w
  have hm : ∀ x, x ∈ imgL f n q w ↔ x = t := fun x => by
    rw [imgL_mem]
    constructor
    · rintro ⟨_, s, hs, rfl⟩; exact h s hs
    · rintro rfl; obtain ⟨s, hs⟩ := hq; exact ⟨ht, s, hs, h s hs⟩
  match hI : imgL f n q w with
  | [] => rw [hI] at hm; exact absurd ((hm t).2 rfl) (by simp)
  | [x] => rw [hI] at hm; rw [(hm x).1 List.mem_cons_self]
  | x :: y :: l =>
    rw [hI] at hm hs
    have h1 := (hm x).1 List.mem_cons_self
    have h2 := (hm y).1 (List.mem_cons_of_mem _ List.mem_cons_self)
    have h3 := (List.pairwise_cons.1 hs).1 y List.mem_cons_self
    omega
end Go.Proofs.Ytogoppejcmaocaa.Q
end
/-! Part MPair -/
section
namespace Go.Proofs.Ytogoppejcmaocaa.Q
set_option linter.unusedVariables false
set_option linter.unusedSectionVars false
set_option linter.unusedSimpArgs false
/-! ### words that merge two states -/
/-- The shortest words that merge p and q have d letters. -/
def MDist (f : Nat → Nat → Nat) (m p q d : Nat) : Prop := (∃ w, Wd m w ∧ w.length = d ∧ run f p w = run f q w) ∧ ∀ w, Wd m w → run f p w = run f q w → d ≤ w.length
/-- Some word merges p and q. -/
def Mg (f : Nat → Nat → Nat) (m p q : Nat) : Prop := ∃ w, Wd m w ∧ run f p w = run f q w
section
variable {f : Nat → Nat → Nat} {m n p q d e x : Nat}
theorem MDist.uniq (h : MDist f m p q d) (k : MDist f m p q e) : d = e := by
  obtain ⟨⟨v, h1, h2, h3⟩, h4⟩ := h; obtain ⟨⟨w, k1, k2, k3⟩, k4⟩ := k
  have := h4 w k1 k3; have := k4 v h1 h3; omega
theorem MDist.mg (h : MDist f m p q d) : Mg f m p q := by obtain ⟨⟨v, h1, h2, h3⟩, h4⟩ := h; exact ⟨v, h1, h3⟩
theorem MDist.symm (h : MDist f m p q d) : MDist f m q p d := by
  obtain ⟨⟨v, h1, h2, h3⟩, h4⟩ := h
  exact ⟨⟨v, h1, h2, h3.symm⟩, fun w hw hr => h4 w hw hr.symm⟩
theorem Mg.symm (h : Mg f m p q) : Mg f m q p := by obtain ⟨v, h1, h2⟩ := h; exact ⟨v, h1, h2.symm⟩
theorem Mg.refl (f : Nat → Nat → Nat) (m p : Nat) : Mg f m p p := ⟨[], Wd.nil m, rfl⟩
theorem MDist.zero (f : Nat → Nat → Nat) (m p : Nat) : MDist f m p p 0 := ⟨⟨[], Wd.nil m, rfl, rfl⟩, fun _ _ _ => Nat.zero_le _⟩
theorem MDist.eq0 (h : MDist f m p q 0) : p = q := by
  obtain ⟨⟨v, h1, h2, h3⟩, h4⟩ := h
  rw [List.eq_nil_of_length_eq_zero h2] at h3; exact h3
theorem Mg.dist (h : Mg f m p q) : ∃ d, MDist f m p q d := by
  obtain ⟨w, h1, h2⟩ := h
  have key : ∀ k : Nat, (∃ w, Wd m w ∧ w.length ≤ k ∧ run f p w = run f q w) → ∃ d, MDist f m p q d := by
    intro k
    induction k with
    | zero => rintro ⟨w, a, b, c⟩; exact ⟨0, ⟨w, a, by omega, c⟩, fun _ _ _ => Nat.zero_le _⟩
    | succ k ih =>
      rintro ⟨w, a, b, c⟩
      by_cases hk : ∃ w, Wd m w ∧ w.length ≤ k ∧ run f p w = run f q w
      · exact ih hk
      · refine ⟨k + 1, ⟨w, a, ?_, c⟩, fun v hv hr => ?_⟩
        · rcases Nat.lt_or_ge w.length (k + 1) with h | h
          · exact absurd ⟨w, a, by omega, c⟩ hk
          · omega
        · rcases Nat.lt_or_ge v.length (k + 1) with h | h
          · exact absurd ⟨v, hv, by omega, hr⟩ hk
          · omega
  exact key w.length ⟨w, h1, Nat.le_refl _, h2⟩
theorem Mg.step (hx : x < m) (h : Mg f m (f p x) (f q x)) : Mg f m p q := by
  obtain ⟨w, h1, h2⟩ := h; exact ⟨x :: w, Wd.cons hx h1, h2⟩
/-- One letter nearer, and nothing nearer than that. -/
theorem MDist.pred (h : MDist f m p q (d + 1)) : p ≠ q ∧ (∃ x, x < m ∧ MDist f m (f p x) (f q x) d) ∧ ∀ x e, x < m → MDist f m (f p x) (f q x) e → d ≤ e := by
  obtain ⟨⟨v, h1, h2, h3⟩, h4⟩ := h
  have low : ∀ x e, x < m → MDist f m (f p x) (f q x) e → d ≤ e := by
    rintro x e hx ⟨⟨w, k1, k2, k3⟩, _⟩
    have := h4 (x :: w) (Wd.cons hx k1) k3
    simp at this; omega
  refine ⟨?_, ?_, low⟩
  · rintro rfl; have := h4 [] (Wd.nil m) rfl; simp at this
  · cases v with
    | nil => simp at h2
    | cons y v =>
      refine ⟨y, h1.head, ⟨v, h1.tail, by simpa using h2, h3⟩, fun w hw hr => ?_⟩
      have := h4 (y :: w) (Wd.cons h1.head hw) hr
      simp at this; omega
theorem MDist.succ (hpq : p ≠ q) (hx : x < m) (h : MDist f m (f p x) (f q x) d) (hl : ∀ y e, y < m → MDist f m (f p y) (f q y) e → d ≤ e) : MDist f m p q (d + 1) := by
  obtain ⟨⟨v, h1, h2, h3⟩, h4⟩ := h
  refine ⟨⟨x :: v, Wd.cons hx h1, by simp [h2], h3⟩, fun w hw hr => ?_⟩
  cases w with
  | nil => exact absurd hr hpq
  | cons y w =>
    obtain ⟨e, he⟩ := Mg.dist ⟨w, hw.tail, hr⟩
    have h5 := hl y e hw.head he
    have h6 := he.2 w hw.tail hr
    simp; omega
/-- A pair as one state. -/
theorem pair_run (hn : 0 < n) (hf : ∀ s x, s < n → x < m → f s x < n) : ∀ (w : List Nat) (p q : Nat), p < n → q < n → Wd m w → run (fun s x => f (s / n) x * n + f (s % n) x) (p * n + q) w = run f p w * n + run f q w
  | [], _, _, _, _, _ => rfl
  | x :: w, p, q, hp, hq, hw => by
    have e1 : (p * n + q) / n = p := by rw [Nat.add_comm, Nat.add_mul_div_right _ _ hn, Nat.div_eq_of_lt hq, Nat.zero_add]
    have e2 : (p * n + q) % n = q := by rw [Nat.add_comm, Nat.add_mul_mod_self_right, Nat.mod_eq_of_lt hq]
    simp only [run, e1, e2]
    exact pair_run hn hf w _ _ (hf p x hp hw.head) (hf q x hq hw.head) hw.tail
theorem pair_lt {a b : Nat} (ha : a < n) (hb : b < n) : a * n + b < n * n := by
  have := Nat.mul_le_mul_right n (Nat.succ_le_of_lt ha)
  rw [Nat.succ_mul] at this; omega
theorem pair_eq {a b c d : Nat} (hb : b < n) (hd : d < n) (h : a * n + b = c * n + d) : a = c ∧ b = d := by
  have hn : 0 < n := by omega
  have e1 : (a * n + b) / n = a := by rw [Nat.add_comm, Nat.add_mul_div_right _ _ hn, Nat.div_eq_of_lt hb, Nat.zero_add]
  have e2 : (c * n + d) / n = c := by rw [Nat.add_comm, Nat.add_mul_div_right _ _ hn, Nat.div_eq_of_lt hd, Nat.zero_add]
  rw [h, e2] at e1
  refine ⟨e1.symm, ?_⟩
  subst e1; omega
theorem runLt (hf : ∀ s x, s < n → x < m → f s x < n) : ∀ (w : List Nat) (s : Nat), s < n → Wd m w → run f s w < n
  | [], _, hs, _ => hs
  | x :: w, s, hs, hw => runLt hf w _ (hf s x hs hw.head) hw.tail
theorem MDist.lt (hf : ∀ s x, s < n → x < m → f s x < n) (hp : p < n) (hq : q < n) (h : MDist f m p q d) : d < n * n := by
  obtain ⟨⟨v, h1, h2, h3⟩, h4⟩ := h
  have hn : 0 < n := by omega
  obtain ⟨z, z1, z2, z3, z4⟩ := short_word (f := fun s x => f (s / n) x * n + f (s % n) x) (n := n * n) (m := m) (fun s x hs hx => by
    have e1 : s / n < n := Nat.div_lt_of_lt_mul hs
    have e2 : s % n < n := Nat.mod_lt _ hn
    exact pair_lt (hf _ x e1 hx) (hf _ x e2 hx)) _ v (p * n + q) (Nat.le_refl _) (pair_lt hp hq) h1
  rw [pair_run hn hf z p q hp hq z1, pair_run hn hf v p q hp hq h1] at z2
  obtain ⟨e1, e2⟩ := pair_eq (runLt hf z q hq z1) (runLt hf v q hq h1) z2
  have := h4 z z1 (by rw [e1, e2, h3])
  omega
end
/-- The first shortest word that merges p and q. -/
structure LM (f : Nat → Nat → Nat) (m p q : Nat) (w : List Nat) : Prop where
  wd : Wd m w
  ends : run f p w = run f q w
  le : ∀ v, Wd m v → run f p v = run f q v → code m w ≤ code m v
section
variable {f : Nat → Nat → Nat} {m n p q d x : Nat} {v w : List Nat}
theorem LM.uniq (h : LM f m p q v) (k : LM f m p q w) : v = w := code_inj v w h.wd k.wd (Nat.le_antisymm (h.le w k.wd k.ends) (k.le v h.wd h.ends))
theorem LM.symm (h : LM f m p q w) : LM f m q p w := ⟨h.wd, h.ends.symm, fun v hv hr => h.le v hv hr.symm⟩
theorem LM.refl (f : Nat → Nat → Nat) (m p : Nat) : LM f m p p [] := ⟨Wd.nil m, rfl, fun v _ _ => Nat.zero_le _⟩
theorem LM.cons (hm : 0 < m) (hd : MDist f m p q (d + 1)) (hx : x < m) (hl : ∀ y, y < x → ¬ MDist f m (f p y) (f q y) d) (h : LM f m (f p x) (f q x) w) (hw : w.length = d) : LM f m p q (x :: w) := by
  obtain ⟨hne, _, hlow⟩ := hd.pred
  refine ⟨Wd.cons hx h.wd, h.ends, fun v hv hr => ?_⟩
  cases v with
  | nil => exact absurd hr hne
  | cons y v =>
    have hlen := hd.2 (y :: v) hv hr
    simp only [List.length_cons] at hlen
    rcases Nat.lt_or_ge (x :: w).length (y :: v).length with h1 | h1
    · exact Nat.le_of_lt (code_len hm (Wd.cons hx h.wd) hv h1)
    · simp only [List.length_cons] at h1
      have hvl : v.length = w.length := by omega
      have hyx : ¬ y < x := fun hlt => by
        refine hl y hlt ⟨⟨v, hv.tail, by omega, hr⟩, fun u hu hur => ?_⟩
        have := hd.2 (y :: u) (Wd.cons hv.head hu) hur
        simp at this; omega
      rcases Nat.lt_or_ge x y with h2 | h2
      · exact Nat.le_of_lt (code_head h.wd hv.tail (by omega) h2)
      · obtain rfl : x = y := by omega
        rw [code_cons, code_cons, hvl]
        have := h.le v hv.tail hr
        omega
theorem LM.dist (hm : 0 < m) (h : LM f m p q w) : MDist f m p q w.length := by
  refine ⟨⟨w, h.wd, rfl, h.ends⟩, fun v hv hr => ?_⟩
  rcases Nat.lt_or_ge v.length w.length with h1 | h1
  · have := code_len hm hv h.wd h1; have := h.le v hv hr; omega
  · exact h1
end
end Go.Proofs.Ytogoppejcmaocaa.Q
end
/-! Part MNear -/
section
namespace Go.Proofs.Ytogoppejcmaocaa.Q
set_option linter.unusedVariables false
set_option linter.unusedSectionVars false
set_option linter.unusedSimpArgs false
/-! ### the nearest pair of a set is near (Frankl; Pin) -/
theorem Wd.take {m : Nat} {w : List Nat} (h : Wd m w) (i : Nat) : Wd m (w.take i) := fun x hx => h x (List.mem_of_mem_take hx)
theorem Wd.drop {m : Nat} {w : List Nat} (h : Wd m w) (i : Nat) : Wd m (w.drop i) := fun x hx => h x (List.mem_of_mem_drop hx)
end Go.Proofs.Ytogoppejcmaocaa.Q
end
