/- What Merge and Apart return is what the reference says: the first shortest word that merges two states, and the pairs that no word merges, in order, for any automaton and states. (text 17 of 25) -/
import Derived.Test.YtogoppejcmaocaaZResetMergeso
import Derived.Test.YtogoppejcmaocaaZResetMergesi
import Derived.Test.YtogoppejcmaocaaZResetMergesp
import Derived.Test.YtogoppejcmaocaaZResetMergesg
import Derived.Test.YtogoppejcmaocaaZResetMergesj
import Derived.Test.YtogoppejcmaocaaZResetMergesh
/-! Part MReset -/
section
namespace Go.Proofs.Ytogoppejcmaocaa.Q
open Go.RowKit Go.Proofs.YtogoppejcmaocaaW.PrintWords Go.Proofs.YtogoppejcmaocaaW.PrintLast Go.Proofs.YtogoppejcmaocaaW.PrintMore
set_option linter.unusedVariables false
set_option linter.unusedSectionVars false
set_option linter.unusedSimpArgs false
/-! ### the nearest pair of a set -/
theorem inPy {n p q : Nat} (hp : p < n) (hq : q < n) : inP n (p : Int) (q : Int) = true := decide_eq_true (by omega)
def seen (i j a b : Nat) : Prop := a < b ∧ (a < i ∨ a = i ∧ b < i + 1 + j)
structure Best (f : Nat → Nat → Nat) (m : Nat) (Q : List Nat) (i j : Nat) (b1 b2 : Nat) (fd : Bool) : Prop where
  none : fd = false → ∀ a b (hb : b < Q.length), ¬ seen i j a b
  some : fd = true → ∃ d, b1 ∈ Q ∧ b2 ∈ Q ∧ b1 < b2 ∧ MDist f m b1 b2 d ∧ ∀ a b (ha : a < Q.length) (hb : b < Q.length), seen i j a b → ∃ e, MDist f m Q[a] Q[b] e ∧ d ≤ e
theorem Best.ext {f : Nat → Nat → Nat} {m : Nat} {Q : List Nat} {i j i' j' b1 b2 : Nat} {fd : Bool} (h : Best f m Q i j b1 b2 fd) (e : ∀ a b, b < Q.length → (seen i' j' a b ↔ seen i j a b)) : Best f m Q i' j' b1 b2 fd :=
  ⟨fun hf a b hb hs => h.none hf a b hb ((e a b hb).1 hs), fun hf => by
    obtain ⟨d, h1, h2, h3, h4, h5⟩ := h.some hf
    exact ⟨d, h1, h2, h3, h4, fun a b ha hb hs => h5 a b ha hb ((e a b hb).1 hs)⟩⟩
section
variable {rows : List (List Int)} {n m : Nat} (V : VA rows n m)
include V
/-! ### Reset -/
/-- The way from all states to a set. -/
structure Way (f : Nat → Nat → Nat) (m n : Nat) (w Q : List Nat) : Prop where
  wd : Wd m w
  srt : Q.Pairwise (· < ·)
  into : ∀ s, s < n → run f s w ∈ Q
  onto : ∀ t ∈ Q, ∃ s, s < n ∧ run f s w = t
omit V in
theorem nodup_of_lt {Q : List Nat} (h : Q.Pairwise (· < ·)) : Q.Nodup := by
  rw [List.nodup_iff_pairwise_ne]
  exact h.imp fun h => by omega
omit V in
theorem Way.lt {f : Nat → Nat → Nat} {m n : Nat} {w Q : List Nat} (h : Way f m n w Q) (hf : ∀ s x, s < n → x < m → f s x < n) : ∀ t ∈ Q, t < n := fun t ht => by
  obtain ⟨s, hs, rfl⟩ := h.onto t ht
  exact runLt hf w s hs h.wd
omit V in
theorem Way.len {f : Nat → Nat → Nat} {m n : Nat} {w Q : List Nat} (h : Way f m n w Q) (hf : ∀ s x, s < n → x < m → f s x < n) : Q.length ≤ n := nodup_le n Q (nodup_of_lt h.srt) (h.lt hf)
omit V in
omit V in
omit V in
end
end Go.Proofs.Ytogoppejcmaocaa.Q
end
/-! Part MApart -/
section
namespace Go.Proofs.Ytogoppejcmaocaa.Q
open Go.RowKit Go.Proofs.YtogoppejcmaocaaW.PrintWords Go.Proofs.YtogoppejcmaocaaW.PrintLast Go.Proofs.YtogoppejcmaocaaW.PrintMore
set_option linter.unusedVariables false
set_option linter.unusedSectionVars false
set_option linter.unusedSimpArgs false
theorem VA.of' {rows : List (List Int)} (h : validB rows = true) : VA rows rows.length (rd_L1 rows 0).length := validB_iff.1 h
/-! ### the pairs that no word merges -/
open Classical in
noncomputable def aRow (f : Nat → Nat → Nat) (m : Nat) : Nat → Nat → Nat → List (Nat × Nat)
  | 0, _, _ => []
  | e + 1, p, q => (if Mg f m p q then [] else [(p, q)]) ++ aRow f m e p (q + 1)
noncomputable def aAll (f : Nat → Nat → Nat) (m n : Nat) : Nat → Nat → List (Nat × Nat)
  | 0, _ => []
  | e + 1, p => aRow f m (n - (p + 1)) p (p + 1) ++ aAll f m n e (p + 1)
def toS (l : List (Nat × Nat)) : List S49 := l.map fun c => ⟨(c.1 : Int), (c.2 : Int)⟩
theorem toS_len (l : List (Nat × Nat)) : (toS l).length = l.length := by simp [toS]
theorem toS_app (l l' : List (Nat × Nat)) : toS (l ++ l') = toS l ++ toS l' := by simp [toS]
theorem aRow_yes {f : Nat → Nat → Nat} {m e p q : Nat} (h : Mg f m p q) : aRow f m (e + 1) p q = aRow f m e p (q + 1) := by
  rw [aRow, if_pos h, List.nil_append]
theorem aRow_no {f : Nat → Nat → Nat} {m e p q : Nat} (h : ¬ Mg f m p q) : aRow f m (e + 1) p q = (p, q) :: aRow f m e p (q + 1) := by
  rw [aRow, if_neg h]; rfl
theorem aRow_len (f : Nat → Nat → Nat) (m : Nat) : ∀ e p q, (aRow f m e p q).length ≤ e
  | 0, _, _ => Nat.le_refl _
  | e + 1, p, q => by
    have := aRow_len f m e p (q + 1)
    by_cases h : Mg f m p q
    · rw [aRow_yes h]; omega
    · rw [aRow_no h, List.length_cons]; omega
section
variable {rows : List (List Int)} {n m : Nat} (V : VA rows n m)
include V
theorem apart_l1 {left : List ((Int × Int) × Int)} (L : LeftOk (nx rows) m n left) {p : Nat} (hp : p < n) (res : List S49) : ∀ (e q : Nat) (out : List (Nat × Nat)), q + e = n → p < q → out.length + e ≤ 1000000 →
    Ev (fun k => reset_Apart.l0 k n left (toS (out ++ aRow (nx rows) m e p q)) ((p + 1 : Nat) : Int)) res → Ev (fun k => reset_Apart.l1 k n left (toS out) (p : Int) (q : Int)) res := by
  have hn60 := V.n60
  intro e
  induction e with
  | zero =>
    intro q out hq hpq hl h
    refine Ev.step (fun k => ?_) h
    rw [reset_Apart.l1, if_neg (by omega), wrapS (by omega), aRow, List.append_nil]
  | succ e ih =>
    intro q out hq hpq hl h
    have hqn : q < n := by omega
    rcases L p q (Nat.le_of_lt hpq) hqn with ⟨d, h1, h2⟩ | ⟨h1, h2⟩
    · rw [aRow_yes h2.mg] at h
      refine Ev.step (fun k => ?_) (ih (q + 1) out (by omega) (by omega) (by omega) h)
      rw [reset_Apart.l1, if_pos (by omega), if_pos (inPy hp hqn), h1, if_pos (by rfl), wrapS (by omega)]
    · rw [aRow_no h2] at h
      refine Ev.step (fun k => ?_) (ih (q + 1) (out ++ [(p, q)]) (by omega) (by omega) (by simp; omega) (by rw [List.append_assoc]; exact h))
      rw [reset_Apart.l1, if_pos (by omega), if_pos (inPy hp hqn), h1, if_neg (by simp), if_pos (by rw [toS_len]; omega), wrapS (by omega), toS_app]
      rfl
theorem apart_l0 {left : List ((Int × Int) × Int)} (L : LeftOk (nx rows) m n left) : ∀ (e p : Nat) (out : List (Nat × Nat)), p + e = n → out.length + 60 * e ≤ 900000 → Ev (fun k => reset_Apart.l0 k n left (toS out) (p : Int)) (toS (out ++ aAll (nx rows) m n e p)) := by
  have hn60 := V.n60
  intro e
  induction e with
  | zero =>
    intro p out hp hl
    rw [aAll, List.append_nil]
    refine Ev.step (f := fun _ => some (toS out)) (fun k => ?_) (Ev.now _)
    rw [reset_Apart.l0, if_neg (by omega)]
  | succ e ih =>
    intro p out hp hl
    have hrl := aRow_len (nx rows) m (n - (p + 1)) p (p + 1)
    have := ih (p + 1) (out ++ aRow (nx rows) m (n - (p + 1)) p (p + 1)) (by omega) (by rw [List.length_append]; omega)
    rw [aAll, ← List.append_assoc]
    refine Ev.step (fun k => ?_) (apart_l1 V L (by omega) _ (n - (p + 1)) (p + 1) out (by omega) (by omega) (by omega) this)
    rw [reset_Apart.l0, if_pos (by omega), wrapS (by omega)]
theorem apart_ev : Ev (fun k => reset_Apart.f k rows) (toS (aAll (nx rows) m n n 0), 0) := by
  have hn60 := V.n60
  obtain ⟨left, L, hl⟩ := newMerger_ev V
  unfold reset_Apart.f
  simp only [auto_Valid.f, validB_of V, Option.bind_some, if_true, V.len]
  exact Ev.bind hl (Ev.bind (apart_l0 V L n 0 [] (by omega) (by simp; omega)) (Ev.now _))
theorem refApart_l1 {tab : List (List Int)} (T : TabOk (nx rows) m n tab) {p : Nat} (hp : p < n) (res : List S49) : ∀ (e q : Nat) (out : List (Nat × Nat)), q + e = n → p < q → out.length + e ≤ 1000000 →
    Ev (fun k => mizmazeref03_Apart.l0 k tab (toS (out ++ aRow (nx rows) m e p q)) ((p + 1 : Nat) : Int)) res → Ev (fun k => mizmazeref03_Apart.l1 k tab (toS out) (p : Int) (q : Int)) res := by
  have hn60 := V.n60
  intro e
  induction e with
  | zero =>
    intro q out hq hpq hl h
    refine Ev.step (fun k => ?_) h
    rw [mizmazeref03_Apart.l1, T.shape.len, if_neg (by omega), wrapS (by omega), aRow, List.append_nil]
  | succ e ih =>
    intro q out hq hpq hl h
    have hqn : q < n := by omega
    rcases T.ent p q hp hqn with ⟨d, h1, h2⟩ | ⟨h1, h2⟩
    · have h1' : rd (rd_L1 tab (p : Int)) (q : Int) = (d : Int) := h1
      rw [aRow_yes h2.mg] at h
      refine Ev.step (fun k => ?_) (ih (q + 1) out (by omega) (by omega) (by omega) h)
      rw [mizmazeref03_Apart.l1, T.shape.len, if_pos (by omega), if_pos (by omega), if_pos (by omega), if_pos (by omega), T.shape.row p hp, if_pos (by omega), h1', if_neg (by omega), wrapS (by omega)]
    · have h1' : rd (rd_L1 tab (p : Int)) (q : Int) = -1 := h1
      rw [aRow_no h2] at h
      refine Ev.step (fun k => ?_) (ih (q + 1) (out ++ [(p, q)]) (by omega) (by omega) (by simp; omega) (by rw [List.append_assoc]; exact h))
      rw [mizmazeref03_Apart.l1, T.shape.len, if_pos (by omega), if_pos (by omega), if_pos (by omega), if_pos (by omega), T.shape.row p hp, if_pos (by omega), h1', if_pos (by omega), if_pos (by rw [toS_len]; omega), wrapS (by omega), toS_app]
      rfl
theorem refApart_l0 {tab : List (List Int)} (T : TabOk (nx rows) m n tab) : ∀ (e p : Nat) (out : List (Nat × Nat)), p + e = n → out.length + 60 * e ≤ 900000 → Ev (fun k => mizmazeref03_Apart.l0 k tab (toS out) (p : Int)) (toS (out ++ aAll (nx rows) m n e p)) := by
  have hn60 := V.n60
  intro e
  induction e with
  | zero =>
    intro p out hp hl
    rw [aAll, List.append_nil]
    refine Ev.step (f := fun _ => some (toS out)) (fun k => ?_) (Ev.now _)
    rw [mizmazeref03_Apart.l0, T.shape.len, if_neg (by omega)]
  | succ e ih =>
    intro p out hp hl
    have hrl := aRow_len (nx rows) m (n - (p + 1)) p (p + 1)
    have := ih (p + 1) (out ++ aRow (nx rows) m (n - (p + 1)) p (p + 1)) (by omega) (by rw [List.length_append]; omega)
    rw [aAll, ← List.append_assoc]
    refine Ev.step (fun k => ?_) (refApart_l1 V T (by omega) _ (n - (p + 1)) (p + 1) out (by omega) (by omega) (by omega) this)
    rw [mizmazeref03_Apart.l0, T.shape.len, if_pos (by omega), wrapS (by omega)]
theorem ref_apart : Ev (fun k => mizmazeref03_Apart.f k rows) (toS (aAll (nx rows) m n n 0)) := by
  have hn60 := V.n60
  obtain ⟨tab, T, ht⟩ := ref_table V
  unfold mizmazeref03_Apart.f
  exact Ev.bind ht (refApart_l0 V T n 0 [] (by omega) (by simp; omega))
theorem aAll_small : (aAll (nx rows) m n n 0).length ≤ 3600 := by
  have hn60 := V.n60
  have key : ∀ e p, (aAll (nx rows) m n e p).length ≤ e * 60 := by
    intro e
    induction e with
    | zero => intro p; simp [aAll]
    | succ e ih =>
      intro p
      have h1 := aRow_len (nx rows) m (n - (p + 1)) p (p + 1)
      have h2 := ih (p + 1)
      rw [aAll, List.length_append, Nat.succ_mul]; omega
  have := key n 0
  have := Nat.mul_le_mul_right 60 hn60
  omega
end
theorem ref_pairs (l : List S49) (hl : l.length ≤ 1000000) : Ev (fun k => mizmazeref03_Pairs.f k l l) true := by
  have key : ∀ d i : Nat, i + d = l.length → Ev (fun k => mizmazeref03_Pairs.l0 k l l (i : Int)) true := by
    intro d
    induction d with
    | zero =>
      intro i hi
      refine Ev.step (f := fun _ => some true) (fun k => ?_) (Ev.now _)
      rw [mizmazeref03_Pairs.l0, if_neg (by omega)]
    | succ d ih =>
      intro i hi
      refine Ev.step (fun k => ?_) (ih (i + 1) (by omega))
      rw [mizmazeref03_Pairs.l0, if_pos (by omega), if_pos (by omega), if_pos (by omega), if_neg (by simp), wrapS (by omega)]
  unfold mizmazeref03_Pairs.f
  simp only [if_true]
  exact key l.length 0 (by omega)
section
variable {rows : List (List Int)} {n m : Nat} (V : VA rows n m)
include V
/-- Merge of two states. -/
theorem merge_ev {p q : Nat} (hp : p < n) (hq : q < n) : (∃ w, LM (nx rows) m p q w ∧ Ev (fun k => reset_Merge.f k rows (p : Int) (q : Int)) (toI w, 0)) ∨ (¬ Mg (nx rows) m p q ∧ Ev (fun k => reset_Merge.f k rows (p : Int) (q : Int)) ([], 4)) := by
  obtain ⟨left, L, hl⟩ := newMerger_ev V
  have hs := srt_lt hp hq
  unfold reset_Merge.f
  simp only [auto_Valid.f, validB_of V, Option.bind_some, if_true, auto_state, V.len, decide_eq_true (show (0 : Int) ≤ (p : Int) ∧ (p : Int) < (n : Int) by omega), decide_eq_true (show (0 : Int) ≤ (q : Int) ∧ (q : Int) < (n : Int) by omega), of_srt]
  rcases merger_word_ev V L hs.1 hs.2 with ⟨w, h1, h2⟩ | ⟨h1, h2⟩
  · exact Or.inl ⟨w, LM.srt.1 h1, Ev.bind hl (Ev.bind h2 (by simp only [if_true]; exact Ev.now _))⟩
  · exact Or.inr ⟨fun h => h1 (Mg.srt.2 h), Ev.bind hl (Ev.bind h2 (by simp only [Bool.false_eq_true, if_false]; exact Ev.now _))⟩
theorem merge_bad {a b : Int} (h : ¬ ((0 ≤ a ∧ a < n) ∧ 0 ≤ b ∧ b < n)) : Ev (fun k => reset_Merge.f k rows a b) ([], 2) := by
  unfold reset_Merge.f
  simp only [auto_Valid.f, validB_of V, Option.bind_some, if_true, auto_state, V.len]
  by_cases h1 : 0 ≤ a ∧ a < n
  · have h2 : ¬ (0 ≤ b ∧ b < n) := fun h2 => h ⟨h1, h2⟩
    simp only [decide_eq_true h1, decide_eq_false h2, if_true, Bool.false_eq_true, if_false]
    exact Ev.now _
  · simp only [decide_eq_false h1, Bool.false_eq_true, if_false]
    exact Ev.now _
end
theorem merge_form {rows : List (List Int)} (h : validB rows = false) (a b : Int) : Ev (fun k => reset_Merge.f k rows a b) ([], 1) := by
  unfold reset_Merge.f
  simp only [auto_Valid.f, h, Option.bind_some, Bool.false_eq_true, if_false]
  exact Ev.now _
theorem apart_form {rows : List (List Int)} (h : validB rows = false) : Ev (fun k => reset_Apart.f k rows) ([], 1) := by
  unfold reset_Apart.f
  simp only [auto_Valid.f, h, Option.bind_some, Bool.false_eq_true, if_false]
  exact Ev.now _
end Go.Proofs.Ytogoppejcmaocaa.Q
end
