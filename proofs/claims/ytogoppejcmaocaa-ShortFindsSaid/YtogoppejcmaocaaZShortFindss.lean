/- The law ShortFinds holds: Shortest returns the first shortest reset word, or the documented error, for any automaton; no bound on the argument beyond its type's. (text 19 of 31) -/
import Derived.Test.YtogoppejcmaocaaZShortFindsj
import Derived.Test.YtogoppejcmaocaaZShortFindso
import Derived.Test.YtogoppejcmaocaaZShortFindsr
/-! Part MWord -/
section
namespace Go.Proofs.Ytogoppejcmaocaa.Q
open Go.RowKit Go.Proofs.YtogoppejcmaocaaW.PrintWords Go.Proofs.YtogoppejcmaocaaW.PrintLast Go.Proofs.YtogoppejcmaocaaW.PrintMore
set_option linter.unusedVariables false
set_option linter.unusedSectionVars false
set_option linter.unusedSimpArgs false
/-! ### the first shortest word that merges two states: by the table, and by the merger's map -/
section
variable {rows : List (List Int)} {n m : Nat} (V : VA rows n m)
include V
omit V in
omit V in
theorem MDist.srt {f : Nat → Nat → Nat} {m a b d : Nat} : MDist f m (min a b) (max a b) d ↔ MDist f m a b d := by
 rcases Nat.lt_or_ge a b with h | h
 ·rw [Nat.min_eq_left (by omega), Nat.max_eq_right (by omega)]
 ·rw [Nat.min_eq_right (by omega), Nat.max_eq_left (by omega)]; exact ⟨MDist.symm, MDist.symm⟩
omit V in
theorem Mg.srt {f : Nat → Nat → Nat} {m a b : Nat} : Mg f m (min a b) (max a b) ↔ Mg f m a b := by
 rcases Nat.lt_or_ge a b with h | h
 ·rw [Nat.min_eq_left (by omega), Nat.max_eq_right (by omega)]
 ·rw [Nat.min_eq_right (by omega), Nat.max_eq_left (by omega)]; exact ⟨Mg.symm, Mg.symm⟩
omit V in
theorem LM.srt {f : Nat → Nat → Nat} {m a b : Nat} {w : List Nat} : LM f m (min a b) (max a b) w ↔ LM f m a b w := by
 rcases Nat.lt_or_ge a b with h | h
 ·rw [Nat.min_eq_left (by omega), Nat.max_eq_right (by omega)]
 ·rw [Nat.min_eq_right (by omega), Nat.max_eq_left (by omega)]; exact ⟨LM.symm, LM.symm⟩
omit V in
end
end Go.Proofs.Ytogoppejcmaocaa.Q
end
/-! Part MMerger -/
section
namespace Go.Proofs.Ytogoppejcmaocaa.Q
open Go.RowKit Go.Proofs.YtogoppejcmaocaaW.PrintWords Go.Proofs.YtogoppejcmaocaaW.PrintLast Go.Proofs.YtogoppejcmaocaaW.PrintMore
set_option linter.unusedVariables false
set_option linter.unusedSectionVars false
set_option linter.unusedSimpArgs false
/-! ### newMerger: breadth first, backwards -/
abbrev Ent2 := (Nat × Nat) × Nat
def pI (c : Nat × Nat) : Int × Int := ((c.1 : Int), (c.2 : Int))
/-! the pairs behind a pair -/
theorem lkB_cons (c k : Int × Int) (l : List (Int × Int)) (B : List ((Int × Int) × List (Int × Int))) : lkB c ((k, l) :: B) = if c = k then some l else lkB c B := by
 unfold lkB
 by_cases h : c = k
 ·subst h; simp [List.lookup_cons]
 ·rw [if_neg h]
  have hb : @BEq.beq (Int × Int) instBEqOfDecidableEq c k = false := decide_eq_false h
  show (match @BEq.beq (Int × Int) instBEqOfDecidableEq c k with | true => some l | false => _) = _
  rw [hb]
theorem lkB_map (c x : Int × Int) (c' : Int × Int) : ∀ B : List ((Int × Int) × List (Int × Int)), lkB c' (B.map fun e => if e.1 = c then (c, e.2 ++ [x]) else e) = if c' = c then (lkB c' B).map (· ++ [x]) else lkB c' B
 | [] => by simp [lkB]
 | (k, l) :: B => by
  have ih := lkB_map c x c' B
  rw [List.map_cons]
  by_cases hk : k = c
  ·subst hk
   rw [if_pos rfl, lkB_cons, lkB_cons, ih]
   by_cases h : c' = k
   ·simp [h]
   ·simp [h]
  ·rw [if_neg hk, lkB_cons, lkB_cons, ih]
   by_cases h : c' = k
   ·subst h; simp [hk]
   ·simp [h]
theorem lkB_snoc (c c' : Int × Int) (l : List (Int × Int)) : ∀ B : List ((Int × Int) × List (Int × Int)), lkB c' (B ++ [(c, l)]) = (lkB c' B).or (if c' = c then some l else none)
 | [] => by
  rw [List.nil_append, lkB_cons]
  rfl
 | (k, l') :: B => by
  rw [List.cons_append, lkB_cons, lkB_cons, lkB_snoc c c' l B]
  by_cases h : c' = k
  ·simp [h]
  ·simp [h]
theorem addB_get (c x c' : Int × Int) (B : List ((Int × Int) × List (Int × Int))) : (lkB c' (addB c x B)).getD [] = if c' = c then (lkB c B).getD [] ++ [x] else (lkB c' B).getD [] := by
 unfold addB
 cases hc : lkB c B with
 | none =>
  simp only [Option.isSome_none, Bool.false_eq_true, if_false]
  rw [lkB_snoc]
  by_cases h : c' = c
  ·subst h; simp [hc]
  ·simp [h]
 | some l =>
  simp only [Option.isSome_some, if_true]
  rw [lkB_map]
  by_cases h : c' = c
  ·subst h; simp [hc]
  ·simp [h]
def srt (a b : Nat) : Nat × Nat := (min a b, max a b)
/-- The lists behind the pairs hold just what P says; none is longer than N. -/
structure BefOk (f : Nat → Nat → Nat) (P : Nat → Nat → Nat → Prop) (bf : List ((Int × Int) × List (Int × Int))) (N : Nat) : Prop where
 mem : ∀ c z, z ∈ (lkB c bf).getD [] ↔ ∃ p q x : Nat, P p q x ∧ z = pI (p, q) ∧ c = pI (srt (f p x) (f q x))
 len : ∀ c, ((lkB c bf).getD []).length ≤ N
theorem BefOk.imp {f : Nat → Nat → Nat} {P P' : Nat → Nat → Nat → Prop} {bf : List ((Int × Int) × List (Int × Int))} {N N' : Nat} (h : BefOk f P bf N) (e : ∀ p q x, P p q x ↔ P' p q x) (hN : N ≤ N') : BefOk f P' bf N' :=
 ⟨fun c z => (h.mem c z).trans ⟨fun ⟨p, q, x, h1, h2⟩ => ⟨p, q, x, (e p q x).1 h1, h2⟩, fun ⟨p, q, x, h1, h2⟩ => ⟨p, q, x, (e p q x).2 h1, h2⟩⟩, fun c => Nat.le_trans (h.len c) hN⟩
theorem BefOk.add {f : Nat → Nat → Nat} {P : Nat → Nat → Nat → Prop} {bf : List ((Int × Int) × List (Int × Int))} {N : Nat} (h : BefOk f P bf N) (p q x : Nat) : BefOk f (fun a b y => P a b y ∨ a = p ∧ b = q ∧ y = x) (addB (pI (srt (f p x) (f q x))) (pI (p, q)) bf) (N + 1) := by
 refine ⟨fun c z => ?_, fun c => ?_⟩
 ·rw [addB_get]
  by_cases hc : c = pI (srt (f p x) (f q x))
  ·rw [if_pos hc, List.mem_append, List.mem_singleton, h.mem]
   constructor
   ·rintro (⟨a, b, y, h1, h2, h3⟩ | h1)
    ·exact ⟨a, b, y, Or.inl h1, h2, hc.trans h3⟩
    ·exact ⟨p, q, x, Or.inr ⟨rfl, rfl, rfl⟩, h1, hc⟩
   ·rintro ⟨a, b, y, h1 | ⟨rfl, rfl, rfl⟩, h2, h3⟩
    ·exact Or.inl ⟨a, b, y, h1, h2, hc.symm.trans h3⟩
    ·exact Or.inr h2
  ·rw [if_neg hc, h.mem]
   constructor
   ·rintro ⟨a, b, y, h1, h2, h3⟩; exact ⟨a, b, y, Or.inl h1, h2, h3⟩
   ·rintro ⟨a, b, y, h1 | ⟨rfl, rfl, rfl⟩, h2, h3⟩
    ·exact ⟨a, b, y, h1, h2, h3⟩
    ·exact absurd h3 hc
 ·rw [addB_get]
  split
  ·have := h.len (pI (srt (f p x) (f q x)))
   simp; omega
  ·have := h.len c; omega
def diagQ (p : Nat) : List Ent2 := (List.range p).map fun i => ((i, i), 0)
section
variable {rows : List (List Int)} {n m : Nat} (V : VA rows n m)
include V
end
/-- The queue. -/
structure BQ (f : Nat → Nat → Nat) (m n : Nat) (Q : List Ent2) (i : Nat) : Prop where
 nd : (Q.map (·.1)).Nodup
 ok : ∀ e ∈ Q, e.1.1 ≤ e.1.2 ∧ e.1.2 < n ∧ MDist f m e.1.1 e.1.2 e.2
 diag : ∀ p, p < n → ((p, p), 0) ∈ Q
 mono : ∀ (j k : Nat) (a b : Ent2), j < k → Q[j]? = some a → Q[k]? = some b → a.2 ≤ b.2
 top : ∀ e : Ent2, Q[i]? = some e → ∀ a ∈ Q, a.2 ≤ e.2 + 1
 cl : ∀ (j : Nat) (e : Ent2), Q[j]? = some e → j < i → ∀ p q x, p < q → q < n → x < m → srt (f p x) (f q x) = e.1 → ∃ a ∈ Q, a.1 = (p, q)
section
variable {f : Nat → Nat → Nat} {m n i : Nat} {Q : List Ent2}
theorem BQ.len (B : BQ f m n Q i) : Q.length ≤ n * n := by
 have h1 : ((Q.map (·.1)).map fun c => c.1 * n + c.2).Nodup := by
  rw [List.nodup_iff_pairwise_ne] at *
  rw [List.pairwise_map]
  refine List.Pairwise.imp_of_mem ?_ (List.nodup_iff_pairwise_ne.1 B.nd)
  intro a b ha hb hne e
  obtain ⟨ea, hea, rfl⟩ := List.mem_map.1 ha
  obtain ⟨eb, heb, rfl⟩ := List.mem_map.1 hb
  obtain ⟨e1, e2⟩ := pair_eq (B.ok ea hea).2.1 (B.ok eb heb).2.1 e
  exact hne (Prod.ext e1 e2)
 have := nodup_le (n * n) _ h1 (by
  intro u hu
  obtain ⟨c, hc, rfl⟩ := List.mem_map.1 hu
  obtain ⟨e, he, rfl⟩ := List.mem_map.1 hc
  have := B.ok e he
  exact pair_lt (by omega) (by omega))
 simpa using this
theorem srt_mdist {a b d : Nat} {c : Nat × Nat} (h : srt a b = c) : MDist f m c.1 c.2 d ↔ MDist f m a b d := by
 rw [← h]; exact MDist.srt
theorem srt_lt {a b : Nat} (ha : a < n) (hb : b < n) : (srt a b).1 ≤ (srt a b).2 ∧ (srt a b).2 < n := by unfold srt; simp only; omega
theorem BQ.front (B : BQ f m n Q i) (hf : ∀ s x, s < n → x < m → f s x < n) {e : Ent2} (he : Q[i]? = some e) : ∀ (d p q : Nat), p ≤ q → q < n → MDist f m p q d → d < e.2 → ∃ (j : Nat) (a : Ent2), Q[j]? = some a ∧ j < i ∧ a.1 = (p, q) ∧ a.2 = d := by
 have back : ∀ a ∈ Q, a.2 < e.2 → ∃ j, Q[j]? = some a ∧ j < i := by
  intro a ha h
  obtain ⟨j, hj⟩ := List.mem_iff_getElem?.1 ha
  refine ⟨j, hj, ?_⟩
  rcases Nat.lt_trichotomy j i with h1 | h1 | h1
  ·exact h1
  ·subst h1; rw [he] at hj; obtain rfl := Option.some.inj hj; omega
  ·have := B.mono i j e a h1 he hj; omega
 intro d
 induction d with
 | zero =>
  intro p q hpq hq hd h0
  obtain rfl := hd.eq0
  obtain ⟨j, hj, hji⟩ := back _ (B.diag p hq) h0
  exact ⟨j, _, hj, hji, rfl, rfl⟩
 | succ d ih =>
  intro p q hpq hq hd h0
  obtain ⟨hne, ⟨x, hx, hdx⟩, _⟩ := hd.pred
  have hs := srt_lt (hf p x (by omega) hx) (hf q x hq hx)
  obtain ⟨j, a, hj, hji, ha1, ha2⟩ := ih _ _ hs.1 hs.2 ((srt_mdist rfl).2 hdx) (by omega)
  obtain ⟨b, hb, hb1⟩ := B.cl j a hj hji p q x (by omega) hq hx ha1.symm
  have hbd : b.2 = d + 1 := by
   have := (B.ok b hb).2.2
   rw [hb1] at this
   exact this.uniq hd
  obtain ⟨j', hj', hji'⟩ := back b hb (by omega)
  exact ⟨j', b, hj', hji', hb1, hbd⟩
theorem BQ.all (B : BQ f m n Q i) (hf : ∀ s x, s < n → x < m → f s x < n) (hi : Q.length ≤ i) : ∀ (d p q : Nat), p ≤ q → q < n → MDist f m p q d → ((p, q), d) ∈ Q := by
 intro d
 induction d with
 | zero =>
  intro p q hpq hq hd
  obtain rfl := hd.eq0
  exact B.diag p hq
 | succ d ih =>
  intro p q hpq hq hd
  obtain ⟨hne, ⟨x, hx, hdx⟩, _⟩ := hd.pred
  have hs := srt_lt (hf p x (by omega) hx) (hf q x hq hx)
  have hm := ih _ _ hs.1 hs.2 ((srt_mdist rfl).2 hdx)
  obtain ⟨j, hj⟩ := List.mem_iff_getElem?.1 hm
  have hjl := (List.getElem?_eq_some_iff.1 hj).1
  obtain ⟨b, hb, hb1⟩ := B.cl j _ hj (by omega) p q x (by omega) hq hx rfl
  have hbd : b.2 = d + 1 := by
   have := (B.ok b hb).2.2
   rw [hb1] at this
   exact this.uniq hd
  have : b = ((p, q), d + 1) := Prod.ext hb1 hbd
  exact this ▸ hb
theorem BQ.new (B : BQ f m n Q i) (hf : ∀ s x, s < n → x < m → f s x < n) {e : Ent2} (he : Q[i]? = some e) {p q x : Nat} (hpq : p < q) (hq : q < n) (hx : x < m) (hs : srt (f p x) (f q x) = e.1) (hn : ∀ a ∈ Q, a.1 ≠ (p, q)) : BQ f m n (Q ++ [((p, q), e.2 + 1)]) i := by
 have hi := (List.getElem?_eq_some_iff.1 he).1
 have hem := List.mem_of_getElem? he
 have hD : MDist f m p q (e.2 + 1) := by
  refine MDist.succ (by omega) hx ((srt_mdist hs).1 (B.ok e hem).2.2) fun y e' hy hd => ?_
  rcases Nat.lt_or_ge e' e.2 with h1 | h1
  ·have hsy := srt_lt (hf p y (by omega) hy) (hf q y hq hy)
   obtain ⟨j, a, hj, hji, ha1, ha2⟩ := B.front hf he e' _ _ hsy.1 hsy.2 ((srt_mdist rfl).2 hd) h1
   obtain ⟨b, hb, hb1⟩ := B.cl j a hj hji p q y hpq hq hy ha1.symm
   exact absurd hb1 (hn b hb)
  ·exact h1
 have ap : ∀ (j : Nat) (a : Ent2), (Q ++ [((p, q), e.2 + 1)])[j]? = some a → (Q[j]? = some a ∧ j < Q.length) ∨ (j = Q.length ∧ a = ((p, q), e.2 + 1)) := by
  intro j a h
  rcases Nat.lt_trichotomy j Q.length with h1 | h1 | h1
  ·rw [List.getElem?_append_left h1] at h; exact Or.inl ⟨h, h1⟩
  ·subst h1; rw [List.getElem?_append_right (Nat.le_refl _)] at h; simp at h; exact Or.inr ⟨rfl, h.symm⟩
  ·rw [List.getElem?_eq_none (by rw [List.length_append]; simp; omega)] at h; exact absurd h (by simp)
 refine ⟨?_, ?_, fun p hp => List.mem_append_left _ (B.diag p hp), ?_, ?_, ?_⟩
 ·rw [List.map_append, List.nodup_append]
  refine ⟨B.nd, by simp, ?_⟩
  intro u hu v hv h
  obtain ⟨a, ha, rfl⟩ := List.mem_map.1 hu
  simp only [List.map_cons, List.map_nil, List.mem_singleton] at hv
  exact hn a ha (h.trans hv)
 ·intro a ha
  rcases List.mem_append.1 ha with h | h
  ·exact B.ok a h
  ·obtain rfl := List.mem_singleton.1 h
   exact ⟨Nat.le_of_lt hpq, hq, hD⟩
 ·intro j k a b hjk ha hb
  rcases ap k b hb with ⟨h1, h2⟩ | ⟨rfl, rfl⟩
  ·rcases ap j a ha with ⟨h3, _⟩ | ⟨rfl, _⟩
   ·exact B.mono j k a b hjk h3 h1
   ·omega
  ·rcases ap j a ha with ⟨h3, _⟩ | ⟨rfl, _⟩
   ·exact B.top e he a (List.mem_of_getElem? h3)
   ·omega
 ·intro e' he' a ha
  rw [List.getElem?_append_left hi, he] at he'
  obtain rfl := Option.some.inj he'
  rcases List.mem_append.1 ha with h | h
  ·exact B.top e he a h
  ·obtain rfl := List.mem_singleton.1 h; exact Nat.le_refl _
 ·intro j e' hj hji p' q' x' h1 h2 h3 h4
  rcases ap j e' hj with ⟨h5, _⟩ | ⟨rfl, _⟩
  ·obtain ⟨a, ha, ha1⟩ := B.cl j e' h5 hji p' q' x' h1 h2 h3 h4
   exact ⟨a, List.mem_append_left _ ha, ha1⟩
  ·omega
theorem BQ.row (B : BQ f m n Q i) {e : Ent2} (he : Q[i]? = some e) (hd : ∀ p q x, p < q → q < n → x < m → srt (f p x) (f q x) = e.1 → ∃ a ∈ Q, a.1 = (p, q)) : BQ f m n Q (i + 1) := by
 refine ⟨B.nd, B.ok, B.diag, B.mono, fun e' he' a ha => ?_, fun j e' hj hji p q x h1 h2 h3 h4 => ?_⟩
 ·have h1 := B.top e he a ha
  have h2 := B.mono i (i + 1) e e' (by omega) he he'
  omega
 ·rcases Nat.lt_or_ge j i with h5 | h5
  ·exact B.cl j e' hj h5 p q x h1 h2 h3 h4
  ·obtain rfl : j = i := by omega
   rw [he] at hj; obtain rfl := Option.some.inj hj
   exact hd p q x h1 h2 h3 h4
theorem BQ.start (f : Nat → Nat → Nat) (m n : Nat) : BQ f m n (diagQ n) 0 := by
 have form : ∀ e ∈ diagQ n, ∃ i, i < n ∧ e = ((i, i), 0) := fun e he => by
  obtain ⟨i, hi, rfl⟩ := List.mem_map.1 he
  exact ⟨i, List.mem_range.1 hi, rfl⟩
 have zero : ∀ (j : Nat) (a : Ent2), (diagQ n)[j]? = some a → a.2 = 0 := fun j a h => by
  obtain ⟨i, _, rfl⟩ := form a (List.mem_of_getElem? h); rfl
 refine ⟨?_, ?_, fun p hp => List.mem_map.2 ⟨p, List.mem_range.2 hp, rfl⟩, ?_, ?_, fun j e _ hj => by omega⟩
 ·unfold diagQ
  rw [List.map_map, List.nodup_iff_pairwise_ne, List.pairwise_map]
  refine List.Pairwise.imp ?_ (List.nodup_iff_pairwise_ne.1 List.nodup_range)
  intro a b hab e
  simp only [Function.comp, Prod.mk.injEq] at e
  exact hab e.1
 ·intro e he
  obtain ⟨i, hi, rfl⟩ := form e he
  exact ⟨Nat.le_refl _, hi, MDist.zero _ _ _⟩
 ·intro j k a b _ ha hb; rw [zero j a ha]; exact Nat.zero_le _
 ·intro e he a ha
  obtain ⟨i, _, rfl⟩ := form a ha
  exact Nat.zero_le _
end
section
variable {rows : List (List Int)} {n m : Nat} (V : VA rows n m)
include V
omit V in
end
end Go.Proofs.Ytogoppejcmaocaa.Q
end
