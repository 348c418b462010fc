/- The law ShortFinds holds: Shortest returns the first shortest reset word, or the documented error, for any automaton; no bound on the argument beyond its type's. (text 21 of 31) -/
import Derived.Test.YtogoppejcmaocaaZShortFindss
import Derived.Test.YtogoppejcmaocaaZShortFindsj
import Derived.Test.YtogoppejcmaocaaZShortFindst
import Derived.Test.YtogoppejcmaocaaZShortFindsi
import Derived.Test.YtogoppejcmaocaaZShortFindsl
/-! Part MReset -/
section
namespace Go.Proofs.Ytogoppejcmaocaa.Q
open Go.RowKit Go.Proofs.YtogoppejcmaocaaW.PrintWords Go.Proofs.YtogoppejcmaocaaW.PrintLast Go.Proofs.YtogoppejcmaocaaW.PrintMore
set_option linter.unusedVariables false
set_option linter.unusedSectionVars false
set_option linter.unusedSimpArgs false
/-! ### the nearest pair of a set -/
def seen (i j a b : Nat) : Prop := a < b ∧ (a < i ∨ a = i ∧ b < i + 1 + j)
structure Best (f : Nat → Nat → Nat) (m : Nat) (Q : List Nat) (i j : Nat) (b1 b2 : Nat) (fd : Bool) : Prop where
 none : fd = false → ∀ a b (hb : b < Q.length), ¬ seen i j a b
 some : fd = true → ∃ d, b1 ∈ Q ∧ b2 ∈ Q ∧ b1 < b2 ∧ MDist f m b1 b2 d ∧ ∀ a b (ha : a < Q.length) (hb : b < Q.length), seen i j a b → ∃ e, MDist f m Q[a] Q[b] e ∧ d ≤ e
theorem Best.ext {f : Nat → Nat → Nat} {m : Nat} {Q : List Nat} {i j i' j' b1 b2 : Nat} {fd : Bool} (h : Best f m Q i j b1 b2 fd) (e : ∀ a b, b < Q.length → (seen i' j' a b ↔ seen i j a b)) : Best f m Q i' j' b1 b2 fd :=
 ⟨fun hf a b hb hs => h.none hf a b hb ((e a b hb).1 hs), fun hf => by
  obtain ⟨d, h1, h2, h3, h4, h5⟩ := h.some hf
  exact ⟨d, h1, h2, h3, h4, fun a b ha hb hs => h5 a b ha hb ((e a b hb).1 hs)⟩⟩
section
variable {rows : List (List Int)} {n m : Nat} (V : VA rows n m)
include V
/-! ### Reset -/
/-- The way from all states to a set. -/
structure Way (f : Nat → Nat → Nat) (m n : Nat) (w Q : List Nat) : Prop where
 wd : Wd m w
 srt : Q.Pairwise (· < ·)
 into : ∀ s, s < n → run f s w ∈ Q
 onto : ∀ t ∈ Q, ∃ s, s < n ∧ run f s w = t
omit V in
theorem nodup_of_lt {Q : List Nat} (h : Q.Pairwise (· < ·)) : Q.Nodup := by
 rw [List.nodup_iff_pairwise_ne]
 exact h.imp fun h => by omega
omit V in
theorem Way.lt {f : Nat → Nat → Nat} {m n : Nat} {w Q : List Nat} (h : Way f m n w Q) (hf : ∀ s x, s < n → x < m → f s x < n) : ∀ t ∈ Q, t < n := fun t ht => by
 obtain ⟨s, hs, rfl⟩ := h.onto t ht
 exact runLt hf w s hs h.wd
omit V in
theorem Way.len {f : Nat → Nat → Nat} {m n : Nat} {w Q : List Nat} (h : Way f m n w Q) (hf : ∀ s x, s < n → x < m → f s x < n) : Q.length ≤ n := nodup_le n Q (nodup_of_lt h.srt) (h.lt hf)
omit V in
omit V in
omit V in
end
end Go.Proofs.Ytogoppejcmaocaa.Q
end
/-! Part MApart -/
section
namespace Go.Proofs.Ytogoppejcmaocaa.Q
open Go.RowKit Go.Proofs.YtogoppejcmaocaaW.PrintWords Go.Proofs.YtogoppejcmaocaaW.PrintLast Go.Proofs.YtogoppejcmaocaaW.PrintMore
set_option linter.unusedVariables false
set_option linter.unusedSectionVars false
set_option linter.unusedSimpArgs false
theorem VA.of' {rows : List (List Int)} (h : validB rows = true) : VA rows rows.length (rd_L1 rows 0).length := validB_iff.1 h
/-! ### the pairs that no word merges -/
open Classical in
noncomputable def aRow (f : Nat → Nat → Nat) (m : Nat) : Nat → Nat → Nat → List (Nat × Nat)
 | 0, _, _ => []
 | e + 1, p, q => (if Mg f m p q then [] else [(p, q)]) ++ aRow f m e p (q + 1)
noncomputable def aAll (f : Nat → Nat → Nat) (m n : Nat) : Nat → Nat → List (Nat × Nat)
 | 0, _ => []
 | e + 1, p => aRow f m (n - (p + 1)) p (p + 1) ++ aAll f m n e (p + 1)
def toS (l : List (Nat × Nat)) : List S49 := l.map fun c => ⟨(c.1 : Int), (c.2 : Int)⟩
theorem toS_len (l : List (Nat × Nat)) : (toS l).length = l.length := by simp [toS]
theorem toS_app (l l' : List (Nat × Nat)) : toS (l ++ l') = toS l ++ toS l' := by simp [toS]
theorem aRow_yes {f : Nat → Nat → Nat} {m e p q : Nat} (h : Mg f m p q) : aRow f m (e + 1) p q = aRow f m e p (q + 1) := by
 rw [aRow, if_pos h, List.nil_append]
theorem aRow_no {f : Nat → Nat → Nat} {m e p q : Nat} (h : ¬ Mg f m p q) : aRow f m (e + 1) p q = (p, q) :: aRow f m e p (q + 1) := by
 rw [aRow, if_neg h]; rfl
theorem aRow_len (f : Nat → Nat → Nat) (m : Nat) : ∀ e p q, (aRow f m e p q).length ≤ e
 | 0, _, _ => Nat.le_refl _
 | e + 1, p, q => by
  have := aRow_len f m e p (q + 1)
  by_cases h : Mg f m p q
  ·rw [aRow_yes h]; omega
  ·rw [aRow_no h, List.length_cons]; omega
theorem aRow_mem {f : Nat → Nat → Nat} {m a b : Nat} : ∀ {e p q : Nat}, (a, b) ∈ aRow f m e p q ↔ a = p ∧ q ≤ b ∧ b < q + e ∧ ¬ Mg f m a b
 | 0, p, q => by simp [aRow]; omega
 | e + 1, p, q => by
  by_cases h : Mg f m p q
  ·rw [aRow_yes h, aRow_mem]
   constructor
   ·rintro ⟨rfl, h1, h2, h3⟩; exact ⟨rfl, by omega, by omega, h3⟩
   ·rintro ⟨rfl, h1, h2, h3⟩
    have : b ≠ q := fun e => h3 (e ▸ h)
    exact ⟨rfl, by omega, by omega, h3⟩
  ·rw [aRow_no h, List.mem_cons, aRow_mem, Prod.mk.injEq]
   constructor
   ·rintro (⟨rfl, rfl⟩ | ⟨rfl, h1, h2, h3⟩)
    ·exact ⟨rfl, by omega, by omega, h⟩
    ·exact ⟨rfl, by omega, by omega, h3⟩
   ·rintro ⟨rfl, h1, h2, h3⟩
    by_cases hb : b = q
    ·exact Or.inl ⟨rfl, hb⟩
    ·exact Or.inr ⟨rfl, by omega, by omega, h3⟩
theorem aAll_mem {f : Nat → Nat → Nat} {m n a b : Nat} : ∀ {e p : Nat}, p + e = n → ((a, b) ∈ aAll f m n e p ↔ p ≤ a ∧ a < b ∧ b < n ∧ ¬ Mg f m a b)
 | 0, p, h => by simp [aAll]; omega
 | e + 1, p, h => by
  rw [aAll, List.mem_append, aRow_mem, aAll_mem (by omega)]
  constructor
  ·rintro (⟨rfl, h1, h2, h3⟩ | ⟨h1, h2, h3, h4⟩)
   ·exact ⟨by omega, by omega, by omega, h3⟩
   ·exact ⟨by omega, h2, h3, h4⟩
  ·rintro ⟨h1, h2, h3, h4⟩
   by_cases ha : a = p
   ·exact Or.inl ⟨ha, by omega, by omega, h4⟩
   ·exact Or.inr ⟨by omega, h2, h3, h4⟩
theorem aAll_nil {f : Nat → Nat → Nat} {m n : Nat} : aAll f m n n 0 = [] ↔ ∀ p q, p < n → q < n → Mg f m p q := by
 constructor
 ·intro h p q hp hq
  apply Classical.byContradiction
  intro hn
  rcases Nat.lt_trichotomy p q with h1 | h1 | h1
  ·have := (aAll_mem (f := f) (m := m) (a := p) (b := q) (Nat.zero_add n)).2 ⟨Nat.zero_le _, h1, hq, hn⟩
   rw [h] at this; cases this
  ·subst h1; exact hn (Mg.refl f m p)
  ·have := (aAll_mem (f := f) (m := m) (a := q) (b := p) (Nat.zero_add n)).2 ⟨Nat.zero_le _, h1, hp, fun h2 => hn h2.symm⟩
   rw [h] at this; cases this
 ·intro h
  apply List.eq_nil_iff_forall_not_mem.2
  rintro ⟨a, b⟩ hab
  obtain ⟨_, h1, h2, h3⟩ := (aAll_mem (Nat.zero_add n)).1 hab
  exact h3 (h a b (by omega) h2)
section
variable {rows : List (List Int)} {n m : Nat} (V : VA rows n m)
include V
theorem refApart_l1 {tab : List (List Int)} (T : TabOk (nx rows) m n tab) {p : Nat} (hp : p < n) (res : List S49) : ∀ (e q : Nat) (out : List (Nat × Nat)), q + e = n → p < q → out.length + e ≤ 1000000 →
  Ev (fun k => mizmazeref03_Apart.l0 k tab (toS (out ++ aRow (nx rows) m e p q)) ((p + 1 : Nat) : Int)) res → Ev (fun k => mizmazeref03_Apart.l1 k tab (toS out) (p : Int) (q : Int)) res := by
 have hn60 := V.n60
 intro e
 induction e with
 | zero =>
  intro q out hq hpq hl h
  refine Ev.step (fun k => ?_) h
  rw [mizmazeref03_Apart.l1, T.shape.len, if_neg (by omega), wrapS (by omega), aRow, List.append_nil]
 | succ e ih =>
  intro q out hq hpq hl h
  have hqn : q < n := by omega
  rcases T.ent p q hp hqn with ⟨d, h1, h2⟩ | ⟨h1, h2⟩
  ·have h1' : rd (rd_L1 tab (p : Int)) (q : Int) = (d : Int) := h1
   rw [aRow_yes h2.mg] at h
   refine Ev.step (fun k => ?_) (ih (q + 1) out (by omega) (by omega) (by omega) h)
   rw [mizmazeref03_Apart.l1, T.shape.len, if_pos (by omega), if_pos (by omega), if_pos (by omega), if_pos (by omega), T.shape.row p hp, if_pos (by omega), h1', if_neg (by omega), wrapS (by omega)]
  ·have h1' : rd (rd_L1 tab (p : Int)) (q : Int) = -1 := h1
   rw [aRow_no h2] at h
   refine Ev.step (fun k => ?_) (ih (q + 1) (out ++ [(p, q)]) (by omega) (by omega) (by simp; omega) (by rw [List.append_assoc]; exact h))
   rw [mizmazeref03_Apart.l1, T.shape.len, if_pos (by omega), if_pos (by omega), if_pos (by omega), if_pos (by omega), T.shape.row p hp, if_pos (by omega), h1', if_pos (by omega), if_pos (by rw [toS_len]; omega), wrapS (by omega), toS_app]
   rfl
theorem refApart_l0 {tab : List (List Int)} (T : TabOk (nx rows) m n tab) : ∀ (e p : Nat) (out : List (Nat × Nat)), p + e = n → out.length + 60 * e ≤ 900000 → Ev (fun k => mizmazeref03_Apart.l0 k tab (toS out) (p : Int)) (toS (out ++ aAll (nx rows) m n e p)) := by
 have hn60 := V.n60
 intro e
 induction e with
 | zero =>
  intro p out hp hl
  rw [aAll, List.append_nil]
  refine Ev.step (f := fun _ => some (toS out)) (fun k => ?_) (Ev.now _)
  rw [mizmazeref03_Apart.l0, T.shape.len, if_neg (by omega)]
 | succ e ih =>
  intro p out hp hl
  have hrl := aRow_len (nx rows) m (n - (p + 1)) p (p + 1)
  have := ih (p + 1) (out ++ aRow (nx rows) m (n - (p + 1)) p (p + 1)) (by omega) (by rw [List.length_append]; omega)
  rw [aAll, ← List.append_assoc]
  refine Ev.step (fun k => ?_) (refApart_l1 V T (by omega) _ (n - (p + 1)) (p + 1) out (by omega) (by omega) (by omega) this)
  rw [mizmazeref03_Apart.l0, T.shape.len, if_pos (by omega), wrapS (by omega)]
theorem ref_apart : Ev (fun k => mizmazeref03_Apart.f k rows) (toS (aAll (nx rows) m n n 0)) := by
 have hn60 := V.n60
 obtain ⟨tab, T, ht⟩ := ref_table V
 unfold mizmazeref03_Apart.f
 exact Ev.bind ht (refApart_l0 V T n 0 [] (by omega) (by simp; omega))
theorem ref_home {b : Bool} (hb : b = true ↔ ∀ p q, p < n → q < n → Mg (nx rows) m p q) : Ev (fun k => mizmazeref03_Home.f k rows) b := by
 unfold mizmazeref03_Home.f
 refine Ev.bind (ref_apart V) (Ev.ret ?_)
 rw [toS_len, Bool.eq_iff_iff, hb, ← aAll_nil]
 simp
end
section
variable {rows : List (List Int)} {n m : Nat} (V : VA rows n m)
include V
end
end Go.Proofs.Ytogoppejcmaocaa.Q
end
