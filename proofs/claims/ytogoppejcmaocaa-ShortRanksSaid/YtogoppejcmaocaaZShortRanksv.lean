/- The law ShortRanks holds: Rank returns the least number of states to which a word leads, and the first shortest word that leads to no more, or the documented error, for any automaton; no bound on the argument beyond its type's. (text 22 of 30) -/
import Derived.Test.YtogoppejcmaocaaZShortRankso
import Derived.Test.YtogoppejcmaocaaZShortRanksn
import Derived.Test.YtogoppejcmaocaaZShortRanksu
import Derived.Test.YtogoppejcmaocaaZShortRanksh
import Derived.Test.YtogoppejcmaocaaZShortRanksr
import Derived.Test.YtogoppejcmaocaaZShortRanksj
/-! Part MWord -/
section
namespace Go.Proofs.Ytogoppejcmaocaa.Q
open Go.RowKit Go.Proofs.YtogoppejcmaocaaW.PrintWords Go.Proofs.YtogoppejcmaocaaW.PrintLast Go.Proofs.YtogoppejcmaocaaW.PrintMore
set_option linter.unusedVariables false
set_option linter.unusedSectionVars false
set_option linter.unusedSimpArgs false
/-! ### the first shortest word that merges two states: by the table, and by the merger's map -/
section
variable {rows : List (List Int)} {n m : Nat} (V : VA rows n m)
include V
theorem ref_word_loop {tab : List (List Int)} (T : TabOk (nx rows) m n tab) : ∀ (d p q : Nat) (out : List Int), p < n → q < n → out.length + d ≤ 1000000 → MDist (nx rows) m p q d → ∃ w, LM (nx rows) m p q w ∧ Ev (fun k => mizmazeref03_Word.l0 k tab (p : Int) (q : Int) out rows) (out ++ toI w, true) := by
  have hn60 := V.n60
  have hm6 := V.m6
  have hm0 := V.m0
  have val : ∀ {p q d : Nat}, p < n → q < n → MDist (nx rows) m p q d → rd (rd_L1 tab (p : Int)) (q : Int) = (d : Int) := fun {p q d} hp hq hd => by
    rcases T.ent p q hp hq with ⟨e, h1, h2⟩ | ⟨_, h2⟩
    · rw [← hd.uniq h2] at h1; exact h1
    · exact absurd hd.mg h2
  intro d
  induction d with
  | zero =>
    intro p q out hp hq ho hd
    have hv := val hp hq hd
    obtain rfl := hd.eq0
    refine ⟨[], LM.refl _ _ _, Ev.step (f := fun _ => some (out, true)) (fun k => ?_) (Ev.ret (by simp [toI]))⟩
    rw [mizmazeref03_Word.l0, if_pos (by omega), if_pos (by rw [T.shape.len]; omega), if_pos (by omega), if_pos (by rw [T.shape.row p hp]; omega), hv, if_neg (by omega)]
  | succ d ih =>
    intro p q out hp hq ho hd
    have hv := val hp hq hd
    obtain ⟨hne, ⟨x0, hx0, hd0⟩, hlow⟩ := hd.pred
    have loop : ∀ (e x : Nat), x + e = m → (∀ y, y < x → ¬ MDist (nx rows) m (nx rows p y) (nx rows q y) d) → ∃ w, LM (nx rows) m p q w ∧ Ev (fun k => mizmazeref03_Word.l1 k tab (p : Int) (q : Int) out (x : Int) rows) (out ++ toI w, true) := by
      intro e
      induction e with
      | zero =>
        intro x hx hy
        exact absurd hd0 (hy x0 (by omega))
      | succ e ihe =>
        intro x hx hy
        have hxm : x < m := by omega
        have ha := V.nxLt hp hxm
        have hb := V.nxLt hq hxm
        have hj : ∀ k, mizmazeref03_Word.l1 (k + 1) tab (p : Int) (q : Int) out (x : Int) rows = if rd (rd_L1 tab (nx rows p x : Nat)) (nx rows q x : Nat) = (d : Int) then mizmazeref03_Word.l0 k tab ((nx rows p x : Nat) : Int) ((nx rows q x : Nat) : Int) (out ++ [(x : Int)]) rows else mizmazeref03_Word.l1 k tab (p : Int) (q : Int) out ((x + 1 : Nat) : Int) rows := by
          intro k
          rw [mizmazeref03_Word.l1, if_pos (by omega), if_pos (by rw [V.len]; omega), if_pos (by omega), if_pos (by rw [V.row p hp]; omega), V.nxE hp hxm, if_pos (by omega), if_pos (by rw [T.shape.len]; omega), if_pos (by omega), if_pos (by rw [V.len]; omega), if_pos (by rw [V.row q hq]; omega), V.nxE hq hxm, if_pos (by omega), if_pos (by rw [T.shape.row _ ha]; omega),
            if_pos (by rw [T.shape.len]; omega), if_pos (by rw [T.shape.row p hp]; omega), hv, wrapI (by omega) (by omega), show (((d + 1 : Nat) : Int) - 1) = (d : Int) by omega]
          by_cases ht : rd (rd_L1 tab (nx rows p x : Nat)) (nx rows q x : Nat) = (d : Int)
          · rw [if_pos ht, if_pos ht, if_pos (by omega)]
          · rw [if_neg ht, if_neg ht, wrapS (by omega)]
        by_cases ht : rd (rd_L1 tab (nx rows p x : Nat)) (nx rows q x : Nat) = (d : Int)
        · have hdx : MDist (nx rows) m (nx rows p x) (nx rows q x) d := by
            rcases T.ent _ _ ha hb with ⟨e', h1, h2⟩ | ⟨h1, _⟩
            · have h1' : rd (rd_L1 tab (nx rows p x : Nat)) (nx rows q x : Nat) = (e' : Int) := h1
              have e2 : e' = d := by omega
              exact e2 ▸ h2
            · have h1' : rd (rd_L1 tab (nx rows p x : Nat)) (nx rows q x : Nat) = -1 := h1
              omega
          obtain ⟨w, hw, hev⟩ := ih _ _ (out ++ [(x : Int)]) ha hb (by simp; omega) hdx
          refine ⟨x :: w, LM.cons hm0 hd hxm hy hw ((hw.dist hm0).uniq hdx), Ev.step (fun k => by rw [hj, if_pos ht]) (Ev.eq hev ?_)⟩
          simp [toI]
        · obtain ⟨w, hw, hev⟩ := ihe (x + 1) (by omega) fun y hy2 hyd => by
            rcases Nat.lt_or_ge y x with h3 | h3
            · exact hy y h3 hyd
            · obtain rfl : y = x := by omega
              exact ht (val ha hb hyd)
          exact ⟨w, hw, Ev.step (fun k => by rw [hj, if_neg ht]) hev⟩
    obtain ⟨w, hw, hev⟩ := loop m 0 (by omega) fun y hy => by omega
    refine ⟨w, hw, Ev.step (fun k => ?_) hev⟩
    rw [mizmazeref03_Word.l0, if_pos (by omega), if_pos (by rw [T.shape.len]; omega), if_pos (by omega), if_pos (by rw [T.shape.row p hp]; omega), hv, if_pos (by omega)]; rfl
theorem MDist.small {p q d : Nat} (hp : p < n) (hq : q < n) (h : MDist (nx rows) m p q d) : d < 3600 := by
  have := h.lt (fun s x => V.nxLt) hp hq
  have := Nat.mul_le_mul V.n60 V.n60
  omega
theorem ref_word {tab : List (List Int)} (T : TabOk (nx rows) m n tab) {p q : Nat} (hp : p < n) (hq : q < n) : (∃ w, LM (nx rows) m p q w ∧ Ev (fun k => mizmazeref03_Word.f k rows tab (p : Int) (q : Int)) (toI w, true)) ∨ (¬ Mg (nx rows) m p q ∧ Ev (fun k => mizmazeref03_Word.f k rows tab (p : Int) (q : Int)) ([], false)) := by
  have open_ : ∀ k, mizmazeref03_Word.f k rows tab (p : Int) (q : Int) = if rd (rd_L1 tab (p : Int)) (q : Int) < 0 then some (([] : List Int), false) else mizmazeref03_Word.l0 k tab (p : Int) (q : Int) [] rows := fun k => by
    rw [mizmazeref03_Word.f, if_pos (by omega), if_pos (by rw [T.shape.len]; omega), if_pos (by omega), if_pos (by rw [T.shape.row p hp]; omega)]
  rcases T.ent p q hp hq with ⟨d, h1, h2⟩ | ⟨h1, h2⟩
  · have h1' : rd (rd_L1 tab (p : Int)) (q : Int) = (d : Int) := h1
    have := MDist.small V hp hq h2
    obtain ⟨w, hw, hev⟩ := ref_word_loop V T d p q [] hp hq (by simp; omega) h2
    exact Or.inl ⟨w, hw, Ev.congr (fun k => by rw [open_, h1', if_neg (by omega)]) hev⟩
  · have h1' : rd (rd_L1 tab (p : Int)) (q : Int) = -1 := h1
    exact Or.inr ⟨h2, Ev.congr (fun k => by rw [open_, h1', if_pos (by omega)]) (Ev.now _)⟩
omit V in
omit V in
theorem MDist.srt {f : Nat → Nat → Nat} {m a b d : Nat} : MDist f m (min a b) (max a b) d ↔ MDist f m a b d := by
  rcases Nat.lt_or_ge a b with h | h
  · rw [Nat.min_eq_left (by omega), Nat.max_eq_right (by omega)]
  · rw [Nat.min_eq_right (by omega), Nat.max_eq_left (by omega)]; exact ⟨MDist.symm, MDist.symm⟩
omit V in
theorem Mg.srt {f : Nat → Nat → Nat} {m a b : Nat} : Mg f m (min a b) (max a b) ↔ Mg f m a b := by
  rcases Nat.lt_or_ge a b with h | h
  · rw [Nat.min_eq_left (by omega), Nat.max_eq_right (by omega)]
  · rw [Nat.min_eq_right (by omega), Nat.max_eq_left (by omega)]; exact ⟨Mg.symm, Mg.symm⟩
omit V in
theorem LM.srt {f : Nat → Nat → Nat} {m a b : Nat} {w : List Nat} : LM f m (min a b) (max a b) w ↔ LM f m a b w := by
  rcases Nat.lt_or_ge a b with h | h
  · rw [Nat.min_eq_left (by omega), Nat.max_eq_right (by omega)]
  · rw [Nat.min_eq_right (by omega), Nat.max_eq_left (by omega)]; exact ⟨LM.symm, LM.symm⟩
omit V in
end
end Go.Proofs.Ytogoppejcmaocaa.Q
end
/-! Part MMerger -/
section
namespace Go.Proofs.Ytogoppejcmaocaa.Q
open Go.RowKit Go.Proofs.YtogoppejcmaocaaW.PrintWords Go.Proofs.YtogoppejcmaocaaW.PrintLast Go.Proofs.YtogoppejcmaocaaW.PrintMore
set_option linter.unusedVariables false
set_option linter.unusedSectionVars false
set_option linter.unusedSimpArgs false
/-! ### newMerger: breadth first, backwards -/
abbrev Ent2 := (Nat × Nat) × Nat
def pI (c : Nat × Nat) : Int × Int := ((c.1 : Int), (c.2 : Int))
/-! the pairs behind a pair -/
theorem lkB_cons (c k : Int × Int) (l : List (Int × Int)) (B : List ((Int × Int) × List (Int × Int))) : lkB c ((k, l) :: B) = if c = k then some l else lkB c B := by
  unfold lkB
  by_cases h : c = k
  · subst h; simp [List.lookup_cons]
  · rw [if_neg h]
    have hb : @BEq.beq (Int × Int) instBEqOfDecidableEq c k = false := decide_eq_false h
    show (match @BEq.beq (Int × Int) instBEqOfDecidableEq c k with | true => some l | false => _) = _
    rw [hb]
theorem lkB_map (c x : Int × Int) (c' : Int × Int) : ∀ B : List ((Int × Int) × List (Int × Int)), lkB c' (B.map fun e => if e.1 = c then (c, e.2 ++ [x]) else e) = if c' = c then (lkB c' B).map (· ++ [x]) else lkB c' B
  | [] => by simp [lkB]
  | (k, l) :: B => by
    have ih := lkB_map c x c' B
    rw [List.map_cons]
    by_cases hk : k = c
    · subst hk
      rw [if_pos rfl, lkB_cons, lkB_cons, ih]
      by_cases h : c' = k
      · simp [h]
      · simp [h]
    · rw [if_neg hk, lkB_cons, lkB_cons, ih]
      by_cases h : c' = k
      · subst h; simp [hk]
      · simp [h]
theorem lkB_snoc (c c' : Int × Int) (l : List (Int × Int)) : ∀ B : List ((Int × Int) × List (Int × Int)), lkB c' (B ++ [(c, l)]) = (lkB c' B).or (if c' = c then some l else none)
  | [] => by
    rw [List.nil_append, lkB_cons]
    rfl
  | (k, l') :: B => by
    rw [List.cons_append, lkB_cons, lkB_cons, lkB_snoc c c' l B]
    by_cases h : c' = k
    · simp [h]
    · simp [h]
theorem addB_get (c x c' : Int × Int) (B : List ((Int × Int) × List (Int × Int))) : (lkB c' (addB c x B)).getD [] = if c' = c then (lkB c B).getD [] ++ [x] else (lkB c' B).getD [] := by
  unfold addB
  cases hc : lkB c B with
  | none =>
    simp only [Option.isSome_none, Bool.false_eq_true, if_false]
    rw [lkB_snoc]
    by_cases h : c' = c
    · subst h; simp [hc]
    · simp [h]
  | some l =>
    simp only [Option.isSome_some, if_true]
    rw [lkB_map]
    by_cases h : c' = c
    · subst h; simp [hc]
    · simp [h]
def srt (a b : Nat) : Nat × Nat := (min a b, max a b)
/-- The lists behind the pairs hold just what P says; none is longer than N. -/
structure BefOk (f : Nat → Nat → Nat) (P : Nat → Nat → Nat → Prop) (bf : List ((Int × Int) × List (Int × Int))) (N : Nat) : Prop where
  mem : ∀ c z, z ∈ (lkB c bf).getD [] ↔ ∃ p q x : Nat, P p q x ∧ z = pI (p, q) ∧ c = pI (srt (f p x) (f q x))
  len : ∀ c, ((lkB c bf).getD []).length ≤ N
theorem BefOk.imp {f : Nat → Nat → Nat} {P P' : Nat → Nat → Nat → Prop} {bf : List ((Int × Int) × List (Int × Int))} {N N' : Nat} (h : BefOk f P bf N) (e : ∀ p q x, P p q x ↔ P' p q x) (hN : N ≤ N') : BefOk f P' bf N' :=
  ⟨fun c z => (h.mem c z).trans ⟨fun ⟨p, q, x, h1, h2⟩ => ⟨p, q, x, (e p q x).1 h1, h2⟩, fun ⟨p, q, x, h1, h2⟩ => ⟨p, q, x, (e p q x).2 h1, h2⟩⟩, fun c => Nat.le_trans (h.len c) hN⟩
theorem BefOk.add {f : Nat → Nat → Nat} {P : Nat → Nat → Nat → Prop} {bf : List ((Int × Int) × List (Int × Int))} {N : Nat} (h : BefOk f P bf N) (p q x : Nat) : BefOk f (fun a b y => P a b y ∨ a = p ∧ b = q ∧ y = x) (addB (pI (srt (f p x) (f q x))) (pI (p, q)) bf) (N + 1) := by
  refine ⟨fun c z => ?_, fun c => ?_⟩
  · rw [addB_get]
    by_cases hc : c = pI (srt (f p x) (f q x))
    · rw [if_pos hc, List.mem_append, List.mem_singleton, h.mem]
      constructor
      · rintro (⟨a, b, y, h1, h2, h3⟩ | h1)
        · exact ⟨a, b, y, Or.inl h1, h2, hc.trans h3⟩
        · exact ⟨p, q, x, Or.inr ⟨rfl, rfl, rfl⟩, h1, hc⟩
      · rintro ⟨a, b, y, h1 | ⟨rfl, rfl, rfl⟩, h2, h3⟩
        · exact Or.inl ⟨a, b, y, h1, h2, hc.symm.trans h3⟩
        · exact Or.inr h2
    · rw [if_neg hc, h.mem]
      constructor
      · rintro ⟨a, b, y, h1, h2, h3⟩; exact ⟨a, b, y, Or.inl h1, h2, h3⟩
      · rintro ⟨a, b, y, h1 | ⟨rfl, rfl, rfl⟩, h2, h3⟩
        · exact ⟨a, b, y, h1, h2, h3⟩
        · exact absurd h3 hc
  · rw [addB_get]
    split
    · have := h.len (pI (srt (f p x) (f q x)))
      simp; omega
    · have := h.len c; omega
def diagQ (p : Nat) : List Ent2 := (List.range p).map fun i => ((i, i), 0)
section
variable {rows : List (List Int)} {n m : Nat} (V : VA rows n m)
include V
end
/-- The queue. -/
structure BQ (f : Nat → Nat → Nat) (m n : Nat) (Q : List Ent2) (i : Nat) : Prop where
  nd : (Q.map (·.1)).Nodup
  ok : ∀ e ∈ Q, e.1.1 ≤ e.1.2 ∧ e.1.2 < n ∧ MDist f m e.1.1 e.1.2 e.2
  diag : ∀ p, p < n → ((p, p), 0) ∈ Q
  mono : ∀ (j k : Nat) (a b : Ent2), j < k → Q[j]? = some a → Q[k]? = some b → a.2 ≤ b.2
  top : ∀ e : Ent2, Q[i]? = some e → ∀ a ∈ Q, a.2 ≤ e.2 + 1
  cl : ∀ (j : Nat) (e : Ent2), Q[j]? = some e → j < i → ∀ p q x, p < q → q < n → x < m → srt (f p x) (f q x) = e.1 → ∃ a ∈ Q, a.1 = (p, q)
section
variable {f : Nat → Nat → Nat} {m n i : Nat} {Q : List Ent2}
theorem BQ.len (B : BQ f m n Q i) : Q.length ≤ n * n := by
  have h1 : ((Q.map (·.1)).map fun c => c.1 * n + c.2).Nodup := by
    rw [List.nodup_iff_pairwise_ne] at *
    rw [List.pairwise_map]
    refine List.Pairwise.imp_of_mem ?_ (List.nodup_iff_pairwise_ne.1 B.nd)
    intro a b ha hb hne e
    obtain ⟨ea, hea, rfl⟩ := List.mem_map.1 ha
    obtain ⟨eb, heb, rfl⟩ := List.mem_map.1 hb
    obtain ⟨e1, e2⟩ := pair_eq (B.ok ea hea).2.1 (B.ok eb heb).2.1 e
    exact hne (Prod.ext e1 e2)
  have := nodup_le (n * n) _ h1 (by
    intro u hu
    obtain ⟨c, hc, rfl⟩ := List.mem_map.1 hu
    obtain ⟨e, he, rfl⟩ := List.mem_map.1 hc
    have := B.ok e he
    exact pair_lt (by omega) (by omega))
  simpa using this
theorem srt_mdist {a b d : Nat} {c : Nat × Nat} (h : srt a b = c) : MDist f m c.1 c.2 d ↔ MDist f m a b d := by
  rw [← h]; exact MDist.srt
theorem srt_lt {a b : Nat} (ha : a < n) (hb : b < n) : (srt a b).1 ≤ (srt a b).2 ∧ (srt a b).2 < n := by unfold srt; simp only; omega
theorem BQ.front (B : BQ f m n Q i) (hf : ∀ s x, s < n → x < m → f s x < n) {e : Ent2} (he : Q[i]? = some e) : ∀ (d p q : Nat), p ≤ q → q < n → MDist f m p q d → d < e.2 → ∃ (j : Nat) (a : Ent2), Q[j]? = some a ∧ j < i ∧ a.1 = (p, q) ∧ a.2 = d := by
  have back : ∀ a ∈ Q, a.2 < e.2 → ∃ j, Q[j]? = some a ∧ j < i := by
    intro a ha h
    obtain ⟨j, hj⟩ := List.mem_iff_getElem?.1 ha
    refine ⟨j, hj, ?_⟩
    rcases Nat.lt_trichotomy j i with h1 | h1 | h1
    · exact h1
    · subst h1; rw [he] at hj; obtain rfl := Option.some.inj hj; omega
    · have := B.mono i j e a h1 he hj; omega
  intro d
  induction d with
  | zero =>
    intro p q hpq hq hd h0
    obtain rfl := hd.eq0
    obtain ⟨j, hj, hji⟩ := back _ (B.diag p hq) h0
    exact ⟨j, _, hj, hji, rfl, rfl⟩
  | succ d ih =>
    intro p q hpq hq hd h0
    obtain ⟨hne, ⟨x, hx, hdx⟩, _⟩ := hd.pred
    have hs := srt_lt (hf p x (by omega) hx) (hf q x hq hx)
    obtain ⟨j, a, hj, hji, ha1, ha2⟩ := ih _ _ hs.1 hs.2 ((srt_mdist rfl).2 hdx) (by omega)
    obtain ⟨b, hb, hb1⟩ := B.cl j a hj hji p q x (by omega) hq hx ha1.symm
    have hbd : b.2 = d + 1 := by
      have := (B.ok b hb).2.2
      rw [hb1] at this
      exact this.uniq hd
    obtain ⟨j', hj', hji'⟩ := back b hb (by omega)
    exact ⟨j', b, hj', hji', hb1, hbd⟩
theorem BQ.all (B : BQ f m n Q i) (hf : ∀ s x, s < n → x < m → f s x < n) (hi : Q.length ≤ i) : ∀ (d p q : Nat), p ≤ q → q < n → MDist f m p q d → ((p, q), d) ∈ Q := by
  intro d
  induction d with
  | zero =>
    intro p q hpq hq hd
    obtain rfl := hd.eq0
    exact B.diag p hq
  | succ d ih =>
    intro p q hpq hq hd
    obtain ⟨hne, ⟨x, hx, hdx⟩, _⟩ := hd.pred
    have hs := srt_lt (hf p x (by omega) hx) (hf q x hq hx)
    have hm := ih _ _ hs.1 hs.2 ((srt_mdist rfl).2 hdx)
    obtain ⟨j, hj⟩ := List.mem_iff_getElem?.1 hm
    have hjl := (List.getElem?_eq_some_iff.1 hj).1
    obtain ⟨b, hb, hb1⟩ := B.cl j _ hj (by omega) p q x (by omega) hq hx rfl
    have hbd : b.2 = d + 1 := by
      have := (B.ok b hb).2.2
      rw [hb1] at this
      exact this.uniq hd
    have : b = ((p, q), d + 1) := Prod.ext hb1 hbd
    exact this ▸ hb
theorem BQ.new (B : BQ f m n Q i) (hf : ∀ s x, s < n → x < m → f s x < n) {e : Ent2} (he : Q[i]? = some e) {p q x : Nat} (hpq : p < q) (hq : q < n) (hx : x < m) (hs : srt (f p x) (f q x) = e.1) (hn : ∀ a ∈ Q, a.1 ≠ (p, q)) : BQ f m n (Q ++ [((p, q), e.2 + 1)]) i := by
  have hi := (List.getElem?_eq_some_iff.1 he).1
  have hem := List.mem_of_getElem? he
  have hD : MDist f m p q (e.2 + 1) := by
    refine MDist.succ (by omega) hx ((srt_mdist hs).1 (B.ok e hem).2.2) fun y e' hy hd => ?_
    rcases Nat.lt_or_ge e' e.2 with h1 | h1
    · have hsy := srt_lt (hf p y (by omega) hy) (hf q y hq hy)
      obtain ⟨j, a, hj, hji, ha1, ha2⟩ := B.front hf he e' _ _ hsy.1 hsy.2 ((srt_mdist rfl).2 hd) h1
      obtain ⟨b, hb, hb1⟩ := B.cl j a hj hji p q y hpq hq hy ha1.symm
      exact absurd hb1 (hn b hb)
    · exact h1
  have ap : ∀ (j : Nat) (a : Ent2), (Q ++ [((p, q), e.2 + 1)])[j]? = some a → (Q[j]? = some a ∧ j < Q.length) ∨ (j = Q.length ∧ a = ((p, q), e.2 + 1)) := by
    intro j a h
    rcases Nat.lt_trichotomy j Q.length with h1 | h1 | h1
    · rw [List.getElem?_append_left h1] at h; exact Or.inl ⟨h, h1⟩
    · subst h1; rw [List.getElem?_append_right (Nat.le_refl _)] at h; simp at h; exact Or.inr ⟨rfl, h.symm⟩
    · rw [List.getElem?_eq_none (by rw [List.length_append]; simp; omega)] at h; exact absurd h (by simp)
  refine ⟨?_, ?_, fun p hp => List.mem_append_left _ (B.diag p hp), ?_, ?_, ?_⟩
  · rw [List.map_append, List.nodup_append]
    refine ⟨B.nd, by simp, ?_⟩
    intro u hu v hv h
    obtain ⟨a, ha, rfl⟩ := List.mem_map.1 hu
    simp only [List.map_cons, List.map_nil, List.mem_singleton] at hv
    exact hn a ha (h.trans hv)
  · intro a ha
    rcases List.mem_append.1 ha with h | h
    · exact B.ok a h
    · obtain rfl := List.mem_singleton.1 h
      exact ⟨Nat.le_of_lt hpq, hq, hD⟩
  · intro j k a b hjk ha hb
    rcases ap k b hb with ⟨h1, h2⟩ | ⟨rfl, rfl⟩
    · rcases ap j a ha with ⟨h3, _⟩ | ⟨rfl, _⟩
      · exact B.mono j k a b hjk h3 h1
      · omega
    · rcases ap j a ha with ⟨h3, _⟩ | ⟨rfl, _⟩
      · exact B.top e he a (List.mem_of_getElem? h3)
      · omega
  · intro e' he' a ha
    rw [List.getElem?_append_left hi, he] at he'
    obtain rfl := Option.some.inj he'
    rcases List.mem_append.1 ha with h | h
    · exact B.top e he a h
    · obtain rfl := List.mem_singleton.1 h; exact Nat.le_refl _
  · intro j e' hj hji p' q' x' h1 h2 h3 h4
    rcases ap j e' hj with ⟨h5, _⟩ | ⟨rfl, _⟩
    · obtain ⟨a, ha, ha1⟩ := B.cl j e' h5 hji p' q' x' h1 h2 h3 h4
      exact ⟨a, List.mem_append_left _ ha, ha1⟩
    · omega
theorem BQ.row (B : BQ f m n Q i) {e : Ent2} (he : Q[i]? = some e) (hd : ∀ p q x, p < q → q < n → x < m → srt (f p x) (f q x) = e.1 → ∃ a ∈ Q, a.1 = (p, q)) : BQ f m n Q (i + 1) := by
  refine ⟨B.nd, B.ok, B.diag, B.mono, fun e' he' a ha => ?_, fun j e' hj hji p q x h1 h2 h3 h4 => ?_⟩
  · have h1 := B.top e he a ha
    have h2 := B.mono i (i + 1) e e' (by omega) he he'
    omega
  · rcases Nat.lt_or_ge j i with h5 | h5
    · exact B.cl j e' hj h5 p q x h1 h2 h3 h4
    · obtain rfl : j = i := by omega
      rw [he] at hj; obtain rfl := Option.some.inj hj
      exact hd p q x h1 h2 h3 h4
theorem BQ.start (f : Nat → Nat → Nat) (m n : Nat) : BQ f m n (diagQ n) 0 := by
  have form : ∀ e ∈ diagQ n, ∃ i, i < n ∧ e = ((i, i), 0) := fun e he => by
    obtain ⟨i, hi, rfl⟩ := List.mem_map.1 he
    exact ⟨i, List.mem_range.1 hi, rfl⟩
  have zero : ∀ (j : Nat) (a : Ent2), (diagQ n)[j]? = some a → a.2 = 0 := fun j a h => by
    obtain ⟨i, _, rfl⟩ := form a (List.mem_of_getElem? h); rfl
  refine ⟨?_, ?_, fun p hp => List.mem_map.2 ⟨p, List.mem_range.2 hp, rfl⟩, ?_, ?_, fun j e _ hj => by omega⟩
  · unfold diagQ
    rw [List.map_map, List.nodup_iff_pairwise_ne, List.pairwise_map]
    refine List.Pairwise.imp ?_ (List.nodup_iff_pairwise_ne.1 List.nodup_range)
    intro a b hab e
    simp only [Function.comp, Prod.mk.injEq] at e
    exact hab e.1
  · intro e he
    obtain ⟨i, hi, rfl⟩ := form e he
    exact ⟨Nat.le_refl _, hi, MDist.zero _ _ _⟩
  · intro j k a b _ ha hb; rw [zero j a ha]; exact Nat.zero_le _
  · intro e he a ha
    obtain ⟨i, _, rfl⟩ := form a ha
    exact Nat.zero_le _
end
section
variable {rows : List (List Int)} {n m : Nat} (V : VA rows n m)
include V
omit V in
end
end Go.Proofs.Ytogoppejcmaocaa.Q
end
/-! Part MReset -/
section
namespace Go.Proofs.Ytogoppejcmaocaa.Q
open Go.RowKit Go.Proofs.YtogoppejcmaocaaW.PrintWords Go.Proofs.YtogoppejcmaocaaW.PrintLast Go.Proofs.YtogoppejcmaocaaW.PrintMore
set_option linter.unusedVariables false
set_option linter.unusedSectionVars false
set_option linter.unusedSimpArgs false
/-! ### the nearest pair of a set -/
def seen (i j a b : Nat) : Prop := a < b ∧ (a < i ∨ a = i ∧ b < i + 1 + j)
structure Best (f : Nat → Nat → Nat) (m : Nat) (Q : List Nat) (i j : Nat) (b1 b2 : Nat) (fd : Bool) : Prop where
  none : fd = false → ∀ a b (hb : b < Q.length), ¬ seen i j a b
  some : fd = true → ∃ d, b1 ∈ Q ∧ b2 ∈ Q ∧ b1 < b2 ∧ MDist f m b1 b2 d ∧ ∀ a b (ha : a < Q.length) (hb : b < Q.length), seen i j a b → ∃ e, MDist f m Q[a] Q[b] e ∧ d ≤ e
theorem Best.ext {f : Nat → Nat → Nat} {m : Nat} {Q : List Nat} {i j i' j' b1 b2 : Nat} {fd : Bool} (h : Best f m Q i j b1 b2 fd) (e : ∀ a b, b < Q.length → (seen i' j' a b ↔ seen i j a b)) : Best f m Q i' j' b1 b2 fd :=
  ⟨fun hf a b hb hs => h.none hf a b hb ((e a b hb).1 hs), fun hf => by
    obtain ⟨d, h1, h2, h3, h4, h5⟩ := h.some hf
    exact ⟨d, h1, h2, h3, h4, fun a b ha hb hs => h5 a b ha hb ((e a b hb).1 hs)⟩⟩
section
variable {rows : List (List Int)} {n m : Nat} (V : VA rows n m)
include V
/-! ### Reset -/
/-- The way from all states to a set. -/
structure Way (f : Nat → Nat → Nat) (m n : Nat) (w Q : List Nat) : Prop where
  wd : Wd m w
  srt : Q.Pairwise (· < ·)
  into : ∀ s, s < n → run f s w ∈ Q
  onto : ∀ t ∈ Q, ∃ s, s < n ∧ run f s w = t
omit V in
theorem nodup_of_lt {Q : List Nat} (h : Q.Pairwise (· < ·)) : Q.Nodup := by
  rw [List.nodup_iff_pairwise_ne]
  exact h.imp fun h => by omega
omit V in
theorem Way.lt {f : Nat → Nat → Nat} {m n : Nat} {w Q : List Nat} (h : Way f m n w Q) (hf : ∀ s x, s < n → x < m → f s x < n) : ∀ t ∈ Q, t < n := fun t ht => by
  obtain ⟨s, hs, rfl⟩ := h.onto t ht
  exact runLt hf w s hs h.wd
omit V in
theorem Way.len {f : Nat → Nat → Nat} {m n : Nat} {w Q : List Nat} (h : Way f m n w Q) (hf : ∀ s x, s < n → x < m → f s x < n) : Q.length ≤ n := nodup_le n Q (nodup_of_lt h.srt) (h.lt hf)
omit V in
omit V in
omit V in
end
end Go.Proofs.Ytogoppejcmaocaa.Q
end
/-! Part MApart -/
section
namespace Go.Proofs.Ytogoppejcmaocaa.Q
open Go.RowKit Go.Proofs.YtogoppejcmaocaaW.PrintWords Go.Proofs.YtogoppejcmaocaaW.PrintLast Go.Proofs.YtogoppejcmaocaaW.PrintMore
set_option linter.unusedVariables false
set_option linter.unusedSectionVars false
set_option linter.unusedSimpArgs false
theorem VA.of' {rows : List (List Int)} (h : validB rows = true) : VA rows rows.length (rd_L1 rows 0).length := validB_iff.1 h
/-! ### the pairs that no word merges -/
section
variable {rows : List (List Int)} {n m : Nat} (V : VA rows n m)
include V
end
section
variable {rows : List (List Int)} {n m : Nat} (V : VA rows n m)
include V
end
end Go.Proofs.Ytogoppejcmaocaa.Q
end
