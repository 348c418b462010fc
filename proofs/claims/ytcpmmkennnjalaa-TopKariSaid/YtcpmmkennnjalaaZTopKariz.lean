/- In any Eulerian automaton that has a reset word, whatever set of states, neither empty nor all, is led into by more states with a word of at most n - 1 letters, and its shortest reset word has at most n^2 - 3n + 3 letters; in any circular one at most (n - 1)^2. (At most 9 states) (text 26 of 42) -/
import Derived.Test.YtcpmmkennnjalaaZTopKarik
import Derived.Test.YtcpmmkennnjalaaZTopKariy
import Derived.Test.YtcpmmkennnjalaaZTopKariw
import Derived.Test.YtcpmmkennnjalaaZTopKarij
import Derived.Test.YtcpmmkennnjalaaZTopKaril
section
namespace Go.Proofs.Ytcpmmkennnjalaa.Q
open Go.RowKit Go.Proofs.YtcpmmkennnjalaaW.PrintWords Go.Proofs.YtcpmmkennnjalaaW.PrintLast Go.Proofs.YtcpmmkennnjalaaW.PrintMore
set_option linter.unusedVariables false
set_option linter.unusedSectionVars false
set_option linter.unusedSimpArgs false
/-! ### the first shortest word that merges two states: by the table, and by the merger's map -/
section
variable {rows : List (List Int)} {n m : Nat} (V : VA rows n m)
include V
theorem MDist.small {p q d : Nat} (hp : p < n) (hq : q < n) (h : MDist (nx rows) m p q d) : d < 3600 := by
  have := h.lt (fun s x => V.nxLt) hp hq
  have := Nat.mul_le_mul V.n60 V.n60
  omega
/-- What the merger's map says in the end. -/
def LeftOk (f : Nat → Nat → Nat) (m n : Nat) (left : List ((Int × Int) × Int)) : Prop := ∀ p q : Nat, p ≤ q → q < n → (∃ d : Nat, lkP ((p : Int), (q : Int)) left = some (d : Int) ∧ MDist f m p q d) ∨ (lkP ((p : Int), (q : Int)) left = none ∧ ¬ Mg f m p q)
omit V in
theorem of_nat (a b : Nat) : reset_of.f (a : Int) (b : Int) = some (((min a b : Nat) : Int), ((max a b : Nat) : Int)) := by
  unfold reset_of.f mn mx
  rcases Nat.lt_or_ge a b with h | h
  · rw [Nat.min_eq_left (by omega), Nat.max_eq_right (by omega)]
    congr 2 <;> (split <;> omega)
  · rw [Nat.min_eq_right (by omega), Nat.max_eq_left (by omega)]
    congr 2 <;> (split <;> omega)
omit V in
theorem MDist.srt {f : Nat → Nat → Nat} {m a b d : Nat} : MDist f m (min a b) (max a b) d ↔ MDist f m a b d := by
  rcases Nat.lt_or_ge a b with h | h
  · rw [Nat.min_eq_left (by omega), Nat.max_eq_right (by omega)]
  · rw [Nat.min_eq_right (by omega), Nat.max_eq_left (by omega)]; exact ⟨MDist.symm, MDist.symm⟩
omit V in
theorem Mg.srt {f : Nat → Nat → Nat} {m a b : Nat} : Mg f m (min a b) (max a b) ↔ Mg f m a b := by
  rcases Nat.lt_or_ge a b with h | h
  · rw [Nat.min_eq_left (by omega), Nat.max_eq_right (by omega)]
  · rw [Nat.min_eq_right (by omega), Nat.max_eq_left (by omega)]; exact ⟨Mg.symm, Mg.symm⟩
omit V in
theorem LM.srt {f : Nat → Nat → Nat} {m a b : Nat} {w : List Nat} : LM f m (min a b) (max a b) w ↔ LM f m a b w := by
  rcases Nat.lt_or_ge a b with h | h
  · rw [Nat.min_eq_left (by omega), Nat.max_eq_right (by omega)]
  · rw [Nat.min_eq_right (by omega), Nat.max_eq_left (by omega)]; exact ⟨LM.symm, LM.symm⟩
omit V in
theorem LeftOk.val {f : Nat → Nat → Nat} {m n p q d : Nat} {left : List ((Int × Int) × Int)} (L : LeftOk f m n left) (hpq : p ≤ q) (hq : q < n) (hd : MDist f m p q d) : lkP ((p : Int), (q : Int)) left = some (d : Int) := by
  rcases L p q hpq hq with ⟨e, h1, h2⟩ | ⟨_, h2⟩
  · rw [hd.uniq h2]; exact h1
  · exact absurd hd.mg h2
theorem merger_word_loop {left : List ((Int × Int) × Int)} (L : LeftOk (nx rows) m n left) : ∀ (d p q : Nat) (out : List Int), p ≤ q → q < n → out.length + d ≤ 1000000 → MDist (nx rows) m p q d → ∃ w, LM (nx rows) m p q w ∧ Ev (fun k => merger_word.l0 k rows left (p : Int) (q : Int) out) (out ++ toI w, true) := by
  have hn60 := V.n60
  have hm6 := V.m6
  have hm0 := V.m0
  have hlet : ((rd_L1 rows 0).length : Int) = (m : Int) := by
    have := V.row 0 V.n0
    rw [← this]; rfl
  intro d
  induction d with
  | zero =>
    intro p q out hpq hq ho hd
    have hv := L.val hpq hq hd
    obtain rfl := hd.eq0
    refine ⟨[], LM.refl _ _ _, Ev.step (f := fun _ => some (out, true)) (fun k => ?_) (Ev.ret (by simp [toI]))⟩
    rw [merger_word.l0, if_pos (by rw [V.len]; exact decide_eq_true (by omega)), hv, if_neg (by simp)]
  | succ d ih =>
    intro p q out hpq hq ho hd
    have hp : p < n := by omega
    have hv := L.val hpq hq hd
    obtain ⟨hne, ⟨x0, hx0, hd0⟩, hlow⟩ := hd.pred
    have loop : ∀ (e x : Nat), x + e = m → (∀ y, y < x → ¬ MDist (nx rows) m (nx rows p y) (nx rows q y) d) → ∃ w, LM (nx rows) m p q w ∧ Ev (fun k => merger_word.l1 k rows left (p : Int) (q : Int) out (x : Int)) (out ++ toI w, true) := by
      intro e
      induction e with
      | zero =>
        intro x hx hy
        exact absurd hd0 (hy x0 (by omega))
      | succ e ihe =>
        intro x hx hy
        have hxm : x < m := by omega
        have ha := V.nxLt hp hxm
        have hb := V.nxLt hq hxm
        have hmm : min (nx rows p x) (nx rows q x) ≤ max (nx rows p x) (nx rows q x) := by omega
        have hmx : max (nx rows p x) (nx rows q x) < n := by omega
        have hmn : min (nx rows p x) (nx rows q x) < n := by omega
        have hj : ∀ k, merger_word.l1 (k + 1) rows left (p : Int) (q : Int) out (x : Int) = if lkP (((min (nx rows p x) (nx rows q x) : Nat) : Int), ((max (nx rows p x) (nx rows q x) : Nat) : Int)) left = some (d : Int) then merger_word.l0 k rows left ((min (nx rows p x) (nx rows q x) : Nat) : Int) ((max (nx rows p x) (nx rows q x) : Nat) : Int) (out ++ [(x : Int)]) else merger_word.l1 k rows left (p : Int) (q : Int) out ((x + 1 : Nat) : Int) := by
          intro k
          rw [merger_word.l1, hlet, if_pos (by omega), if_pos (by omega), if_pos (by rw [V.row p hp]; omega), if_pos (by rw [V.row q hq]; omega), V.nxE hp hxm, V.nxE hq hxm, of_nat, Option.bind_some]
          simp only
          rw [if_pos (by rw [V.len]; exact decide_eq_true (by omega)), hv, Option.getD_some, wrapI (by omega) (by omega), show (((d + 1 : Nat) : Int) - 1) = (d : Int) by omega, wrapS (by omega)]
          cases hlk : lkP (((min (nx rows p x) (nx rows q x) : Nat) : Int), ((max (nx rows p x) (nx rows q x) : Nat) : Int)) left with
          | none => simp
          | some z =>
            simp only [Option.isSome_some, if_true, Option.getD_some, Option.some.injEq]
            by_cases hz : z = (d : Int)
            · rw [if_pos hz, if_pos hz, if_pos (by omega)]
            · rw [if_neg hz, if_neg hz]
        by_cases ht : lkP (((min (nx rows p x) (nx rows q x) : Nat) : Int), ((max (nx rows p x) (nx rows q x) : Nat) : Int)) left = some (d : Int)
        · have hdx : MDist (nx rows) m (min (nx rows p x) (nx rows q x)) (max (nx rows p x) (nx rows q x)) d := by
            rcases L _ _ hmm hmx with ⟨e', h1, h2⟩ | ⟨h1, _⟩
            · rw [h1] at ht
              have e2 : e' = d := by have := Option.some.inj ht; omega
              exact e2 ▸ h2
            · rw [h1] at ht; cases ht
          obtain ⟨w, hw, hev⟩ := ih _ _ (out ++ [(x : Int)]) hmm hmx (by simp; omega) hdx
          refine ⟨x :: w, LM.cons hm0 hd hxm hy (LM.srt.1 hw) ((hw.dist hm0).uniq hdx), Ev.step (fun k => by rw [hj, if_pos ht]) (Ev.eq hev ?_)⟩
          simp [toI]
        · obtain ⟨w, hw, hev⟩ := ihe (x + 1) (by omega) fun y hy2 hyd => by
            rcases Nat.lt_or_ge y x with h3 | h3
            · exact hy y h3 hyd
            · obtain rfl : y = x := by omega
              exact ht (L.val hmm hmx (MDist.srt.2 hyd))
          exact ⟨w, hw, Ev.step (fun k => by rw [hj, if_neg ht]) hev⟩
    obtain ⟨w, hw, hev⟩ := loop m 0 (by omega) fun y hy => by omega
    refine ⟨w, hw, Ev.step (fun k => ?_) hev⟩
    rw [merger_word.l0, if_pos (by rw [V.len]; exact decide_eq_true (by omega)), hv, Option.getD_some, if_pos (by omega)]; rfl
theorem merger_word_ev {left : List ((Int × Int) × Int)} (L : LeftOk (nx rows) m n left) {p q : Nat} (hpq : p ≤ q) (hq : q < n) : (∃ w, LM (nx rows) m p q w ∧ Ev (fun k => merger_word.f k rows left (p : Int) (q : Int)) (toI w, true)) ∨ (¬ Mg (nx rows) m p q ∧ Ev (fun k => merger_word.f k rows left (p : Int) (q : Int)) ([], false)) := by
  have hn60 := V.n60
  have open_ : ∀ k, merger_word.f k rows left (p : Int) (q : Int) = if (lkP ((p : Int), (q : Int)) left).isSome = true then merger_word.l0 k rows left (p : Int) (q : Int) [] else some ([], false) := fun k => by
    rw [merger_word.f, if_pos (by rw [V.len]; exact decide_eq_true (by omega))]
  rcases L p q hpq hq with ⟨d, h1, h2⟩ | ⟨h1, h2⟩
  · have := MDist.small V (by omega) hq h2
    obtain ⟨w, hw, hev⟩ := merger_word_loop V L d p q [] hpq hq (by simp; omega) h2
    exact Or.inl ⟨w, hw, Ev.congr (fun k => by rw [open_, h1, if_pos (by rfl)]) hev⟩
  · exact Or.inr ⟨h2, Ev.congr (fun k => by rw [open_, h1, if_neg (by simp)]) (Ev.now _)⟩
end
end Go.Proofs.Ytcpmmkennnjalaa.Q
end
section
namespace Go.Proofs.Ytcpmmkennnjalaa.Q
open Go.RowKit Go.Proofs.YtcpmmkennnjalaaW.PrintWords Go.Proofs.YtcpmmkennnjalaaW.PrintLast Go.Proofs.YtcpmmkennnjalaaW.PrintMore
set_option linter.unusedVariables false
set_option linter.unusedSectionVars false
set_option linter.unusedSimpArgs false
/-! ### newMerger: breadth first, backwards -/
abbrev Ent2 := (Nat × Nat) × Nat
def pI (c : Nat × Nat) : Int × Int := ((c.1 : Int), (c.2 : Int))
theorem pI_inj {a b : Nat × Nat} (h : pI a = pI b) : a = b := by
  obtain ⟨a1, a2⟩ := a; obtain ⟨b1, b2⟩ := b
  simp only [pI, Prod.mk.injEq] at h ⊢; omega
def lq (Q : List Ent2) : List ((Int × Int) × Int) := Q.map fun e => (pI e.1, (e.2 : Int))
def ql (Q : List Ent2) : List (Int × Int) := Q.map fun e => pI e.1
theorem lkP_cons (c k : Int × Int) (d : Int) (l : List ((Int × Int) × Int)) : lkP c ((k, d) :: l) = if c = k then some d else lkP c l := by
  unfold lkP
  by_cases h : c = k
  · subst h; simp [List.lookup_cons]
  · rw [if_neg h]
    have hb : @BEq.beq (Int × Int) instBEqOfDecidableEq c k = false := decide_eq_false h
    show (match @BEq.beq (Int × Int) instBEqOfDecidableEq c k with | true => some d | false => _) = _
    rw [hb]
theorem lkP_none {c : Nat × Nat} : ∀ {Q : List Ent2}, (∀ e ∈ Q, e.1 ≠ c) → lkP (pI c) (lq Q) = none
  | [], _ => rfl
  | e :: Q, h => by
    show lkP (pI c) ((pI e.1, (e.2 : Int)) :: lq Q) = none
    rw [lkP_cons, if_neg fun he => h e List.mem_cons_self (pI_inj he).symm]
    exact lkP_none fun a ha => h a (List.mem_cons_of_mem _ ha)
theorem lkP_some : ∀ {Q : List Ent2}, (Q.map (·.1)).Nodup → ∀ e ∈ Q, lkP (pI e.1) (lq Q) = some (e.2 : Int)
  | [], _, e, h => nomatch h
  | a :: Q, hn, e, h => by
    show lkP (pI e.1) ((pI a.1, (a.2 : Int)) :: lq Q) = _
    rw [lkP_cons]
    rw [List.map_cons, List.nodup_cons] at hn
    rcases List.mem_cons.1 h with rfl | h
    · rw [if_pos rfl]
    · rw [if_neg fun he => hn.1 (by rw [← pI_inj he]; exact List.mem_map.2 ⟨e, h, rfl⟩)]
      exact lkP_some hn.2 e h
theorem putL_new {c : Nat × Nat} {d : Nat} {Q : List Ent2} (h : ∀ e ∈ Q, e.1 ≠ c) : putL (pI c) (d : Int) (lq Q) = lq (Q ++ [(c, d)]) := by
  unfold putL
  rw [lkP_none h]; simp [lq]
theorem ql_len (Q : List Ent2) : (ql Q).length = Q.length := by simp [ql]
theorem ql_at {Q : List Ent2} {i : Nat} {e : Ent2} (h : Q[i]? = some e) : rdP (ql Q) (i : Int) = pI e.1 := by
  unfold rdP ql
  rw [List.getD_eq_getElem?_getD, Int.toNat_natCast, List.getElem?_map, h]; rfl
/-! the pairs behind a pair -/
theorem lkB_cons (c k : Int × Int) (l : List (Int × Int)) (B : List ((Int × Int) × List (Int × Int))) : lkB c ((k, l) :: B) = if c = k then some l else lkB c B := by
  unfold lkB
  by_cases h : c = k
  · subst h; simp [List.lookup_cons]
  · rw [if_neg h]
    have hb : @BEq.beq (Int × Int) instBEqOfDecidableEq c k = false := decide_eq_false h
    show (match @BEq.beq (Int × Int) instBEqOfDecidableEq c k with | true => some l | false => _) = _
    rw [hb]
theorem lkB_map (c x : Int × Int) (c' : Int × Int) : ∀ B : List ((Int × Int) × List (Int × Int)), lkB c' (B.map fun e => if e.1 = c then (c, e.2 ++ [x]) else e) = if c' = c then (lkB c' B).map (· ++ [x]) else lkB c' B
  | [] => by simp [lkB]
  | (k, l) :: B => by
    have ih := lkB_map c x c' B
    rw [List.map_cons]
    by_cases hk : k = c
    · subst hk
      rw [if_pos rfl, lkB_cons, lkB_cons, ih]
      by_cases h : c' = k
      · simp [h]
      · simp [h]
    · rw [if_neg hk, lkB_cons, lkB_cons, ih]
      by_cases h : c' = k
      · subst h; simp [hk]
      · simp [h]
theorem lkB_snoc (c c' : Int × Int) (l : List (Int × Int)) : ∀ B : List ((Int × Int) × List (Int × Int)), lkB c' (B ++ [(c, l)]) = (lkB c' B).or (if c' = c then some l else none)
  | [] => by
    rw [List.nil_append, lkB_cons]
    rfl
  | (k, l') :: B => by
    rw [List.cons_append, lkB_cons, lkB_cons, lkB_snoc c c' l B]
    by_cases h : c' = k
    · simp [h]
    · simp [h]
theorem addB_get (c x c' : Int × Int) (B : List ((Int × Int) × List (Int × Int))) : (lkB c' (addB c x B)).getD [] = if c' = c then (lkB c B).getD [] ++ [x] else (lkB c' B).getD [] := by
  unfold addB
  cases hc : lkB c B with
  | none =>
    simp only [Option.isSome_none, Bool.false_eq_true, if_false]
    rw [lkB_snoc]
    by_cases h : c' = c
    · subst h; simp [hc]
    · simp [h]
  | some l =>
    simp only [Option.isSome_some, if_true]
    rw [lkB_map]
    by_cases h : c' = c
    · subst h; simp [hc]
    · simp [h]
def srt (a b : Nat) : Nat × Nat := (min a b, max a b)
theorem of_srt (a b : Nat) : reset_of.f (a : Int) (b : Int) = some (pI (srt a b)) := of_nat a b
/-- The lists behind the pairs hold just what P says; none is longer than N. -/
structure BefOk (f : Nat → Nat → Nat) (P : Nat → Nat → Nat → Prop) (bf : List ((Int × Int) × List (Int × Int))) (N : Nat) : Prop where
  mem : ∀ c z, z ∈ (lkB c bf).getD [] ↔ ∃ p q x : Nat, P p q x ∧ z = pI (p, q) ∧ c = pI (srt (f p x) (f q x))
  len : ∀ c, ((lkB c bf).getD []).length ≤ N
theorem BefOk.imp {f : Nat → Nat → Nat} {P P' : Nat → Nat → Nat → Prop} {bf : List ((Int × Int) × List (Int × Int))} {N N' : Nat} (h : BefOk f P bf N) (e : ∀ p q x, P p q x ↔ P' p q x) (hN : N ≤ N') : BefOk f P' bf N' :=
  ⟨fun c z => (h.mem c z).trans ⟨fun ⟨p, q, x, h1, h2⟩ => ⟨p, q, x, (e p q x).1 h1, h2⟩, fun ⟨p, q, x, h1, h2⟩ => ⟨p, q, x, (e p q x).2 h1, h2⟩⟩, fun c => Nat.le_trans (h.len c) hN⟩
theorem BefOk.add {f : Nat → Nat → Nat} {P : Nat → Nat → Nat → Prop} {bf : List ((Int × Int) × List (Int × Int))} {N : Nat} (h : BefOk f P bf N) (p q x : Nat) : BefOk f (fun a b y => P a b y ∨ a = p ∧ b = q ∧ y = x) (addB (pI (srt (f p x) (f q x))) (pI (p, q)) bf) (N + 1) := by
  refine ⟨fun c z => ?_, fun c => ?_⟩
  · rw [addB_get]
    by_cases hc : c = pI (srt (f p x) (f q x))
    · rw [if_pos hc, List.mem_append, List.mem_singleton, h.mem]
      constructor
      · rintro (⟨a, b, y, h1, h2, h3⟩ | h1)
        · exact ⟨a, b, y, Or.inl h1, h2, hc.trans h3⟩
        · exact ⟨p, q, x, Or.inr ⟨rfl, rfl, rfl⟩, h1, hc⟩
      · rintro ⟨a, b, y, h1 | ⟨rfl, rfl, rfl⟩, h2, h3⟩
        · exact Or.inl ⟨a, b, y, h1, h2, hc.symm.trans h3⟩
        · exact Or.inr h2
    · rw [if_neg hc, h.mem]
      constructor
      · rintro ⟨a, b, y, h1, h2, h3⟩; exact ⟨a, b, y, Or.inl h1, h2, h3⟩
      · rintro ⟨a, b, y, h1 | ⟨rfl, rfl, rfl⟩, h2, h3⟩
        · exact ⟨a, b, y, h1, h2, h3⟩
        · exact absurd h3 hc
  · rw [addB_get]
    split
    · have := h.len (pI (srt (f p x) (f q x)))
      simp; omega
    · have := h.len c; omega
def diagQ (p : Nat) : List Ent2 := (List.range p).map fun i => ((i, i), 0)
theorem diagQ_succ (p : Nat) : diagQ (p + 1) = diagQ p ++ [((p, p), 0)] := by simp [diagQ, List.range_succ]
theorem diagQ_new (p : Nat) : ∀ e ∈ diagQ p, e.1 ≠ (p, p) := by
  intro e he
  obtain ⟨i, hi, rfl⟩ := List.mem_map.1 he
  have := List.mem_range.1 hi
  simp only [ne_eq, Prod.mk.injEq]; omega
theorem ql_snoc (Q : List Ent2) (c : Nat × Nat) (d : Nat) : ql (Q ++ [(c, d)]) = ql Q ++ [pI c] := by simp [ql]
def doneP (n m p q x : Nat) (a b y : Nat) : Prop := a < b ∧ b < n ∧ y < m ∧ (a < p ∨ a = p ∧ (b < q ∨ b = q ∧ y < x))
section
variable {rows : List (List Int)} {n m : Nat} (V : VA rows n m)
include V
theorem let0 : ((rd_L1 rows 0).length : Int) = (m : Int) := by
  have := V.row 0 V.n0
  rw [← this]; rfl
theorem nm_l2 {p q : Nat} (hpq : p < q) (hq : q < n) : ∀ (e x : Nat) (bf : List ((Int × Int) × List (Int × Int))) (N : Nat), x + e = m → N + e ≤ 1000000 → BefOk (nx rows) (doneP n m p q x) bf N →
    ∃ bf', BefOk (nx rows) (doneP n m p (q + 1) 0) bf' (N + e) ∧ ∀ res, Ev (fun k => newMerger.l1 k rows (lq (diagQ (p + 1))) bf' (ql (diagQ (p + 1))) (p : Int) ((q + 1 : Nat) : Int)) res → Ev (fun k => newMerger.l2 k rows (lq (diagQ (p + 1))) bf (ql (diagQ (p + 1))) (p : Int) (q : Int) (x : Int)) res := by
  have hn60 := V.n60
  have hm6 := V.m6
  intro e
  induction e with
  | zero =>
    intro x bf N hx hN h
    obtain rfl : x = m := by omega
    refine ⟨bf, h.imp (fun a b y => by unfold doneP; omega) (by omega), fun res hres => Ev.step (fun k => ?_) hres⟩
    rw [newMerger.l2, let0 V, if_neg (by omega), wrapS (by omega)]
  | succ e ih =>
    intro x bf N hx hN h
    have hxm : x < m := by omega
    have hp : p < n := by omega
    have ha := V.nxLt hp hxm
    have hb := V.nxLt hq hxm
    obtain ⟨bf', h1, h2⟩ := ih (x + 1) _ (N + 1) (by omega) (by omega) ((h.add p q x).imp (fun a b y => by unfold doneP; omega) (Nat.le_refl _))
    refine ⟨bf', h1.imp (fun _ _ _ => Iff.rfl) (by omega), fun res hres => Ev.step (fun k => ?_) (h2 res hres)⟩
    have hl := h.len (pI (srt (nx rows p x) (nx rows q x)))
    rw [newMerger.l2, let0 V, if_pos (by omega), if_pos (by omega), if_pos (by rw [V.len]; exact decide_eq_true (by omega)), if_pos (by rw [V.row p hp]; omega), if_pos (by rw [V.row q hq]; omega), V.nxE hp hxm, V.nxE hq hxm, of_srt, Option.bind_some,
      if_pos (by rw [V.len]; unfold pI srt; exact decide_eq_true (by simp only; omega)), if_pos (by omega), wrapS (by omega)]
    rfl
theorem nm_l1 {p : Nat} (hp : p < n) : ∀ (e q : Nat) (bf : List ((Int × Int) × List (Int × Int))) (N : Nat), q + e = n → p < q → N + 6 * e ≤ 900000 → BefOk (nx rows) (doneP n m p q 0) bf N →
    ∃ bf', BefOk (nx rows) (doneP n m (p + 1) 0 0) bf' (N + 6 * e) ∧ ∀ res, Ev (fun k => newMerger.l0 k rows (lq (diagQ (p + 1))) bf' (ql (diagQ (p + 1))) ((p + 1 : Nat) : Int)) res → Ev (fun k => newMerger.l1 k rows (lq (diagQ (p + 1))) bf (ql (diagQ (p + 1))) (p : Int) (q : Int)) res := by
  have hn60 := V.n60
  have hm6 := V.m6
  intro e
  induction e with
  | zero =>
    intro q bf N hq hpq hN h
    obtain rfl : q = n := by omega
    refine ⟨bf, h.imp (fun a b y => by unfold doneP; omega) (by omega), fun res hres => Ev.step (fun k => ?_) hres⟩
    rw [newMerger.l1, V.len, if_neg (by omega), wrapS (by omega)]
  | succ e ih =>
    intro q bf N hq hpq hN h
    obtain ⟨bf1, h1, h2⟩ := nm_l2 V hpq (by omega) m 0 bf N (by omega) (by omega) h
    obtain ⟨bf2, h3, h4⟩ := ih (q + 1) bf1 (N + 6) (by omega) (by omega) (by omega) (h1.imp (fun _ _ _ => Iff.rfl) (by omega))
    refine ⟨bf2, h3.imp (fun _ _ _ => Iff.rfl) (by omega), fun res hres => Ev.step (fun k => ?_) (h2 res (h4 res hres))⟩
    rw [newMerger.l1, V.len, if_pos (by omega)]; rfl
theorem nm_l0 : ∀ (e p : Nat) (bf : List ((Int × Int) × List (Int × Int))) (N : Nat), p + e = n → N + 360 * e ≤ 800000 → BefOk (nx rows) (doneP n m p 0 0) bf N →
    ∃ bf' N', N' ≤ 1000000 ∧ BefOk (nx rows) (doneP n m n 0 0) bf' N' ∧ ∀ res, Ev (fun k => newMerger.b0 k (lq (diagQ n)) bf' (ql (diagQ n)) ((0 : Nat) : Int)) res → Ev (fun k => newMerger.l0 k rows (lq (diagQ p)) bf (ql (diagQ p)) (p : Int)) res := by
  have hn60 := V.n60
  have hm6 := V.m6
  intro e
  induction e with
  | zero =>
    intro p bf N hp hN h
    obtain rfl : p = n := by omega
    refine ⟨bf, N, by omega, h, fun res hres => Ev.step (fun k => ?_) hres⟩
    rw [newMerger.l0, V.len, if_neg (by omega)]; rfl
  | succ e ih =>
    intro p bf N hp hN h
    obtain ⟨bf1, h1, h2⟩ := nm_l1 V (p := p) (by omega) (n - (p + 1)) (p + 1) bf N (by omega) (by omega) (by omega) (h.imp (fun a b y => by unfold doneP; omega) (Nat.le_refl _))
    obtain ⟨bf2, N2, h0, h3, h4⟩ := ih (p + 1) bf1 (N + 360) (by omega) (by omega) (h1.imp (fun _ _ _ => Iff.rfl) (by omega))
    refine ⟨bf2, N2, h0, h3, fun res hres => Ev.step (fun k => ?_) (h2 res (h4 res hres))⟩
    rw [newMerger.l0, V.len, if_pos (by omega), if_pos (show inP n (p : Int) (p : Int) = true from decide_eq_true (by omega)), if_pos (by rw [ql_len]; simp [diagQ]; omega), wrapS (by omega)]
    have e1 : putL ((p : Int), (p : Int)) 0 (lq (diagQ p)) = lq (diagQ (p + 1)) := by
      rw [diagQ_succ]; exact putL_new (c := (p, p)) (d := 0) (diagQ_new p)
    have e2 : ql (diagQ p) ++ [((p : Int), (p : Int))] = ql (diagQ (p + 1)) := by
      rw [diagQ_succ, ql_snoc]; rfl
    rw [e1, e2]
end
/-- The queue. -/
structure BQ (f : Nat → Nat → Nat) (m n : Nat) (Q : List Ent2) (i : Nat) : Prop where
  nd : (Q.map (·.1)).Nodup
  ok : ∀ e ∈ Q, e.1.1 ≤ e.1.2 ∧ e.1.2 < n ∧ MDist f m e.1.1 e.1.2 e.2
  diag : ∀ p, p < n → ((p, p), 0) ∈ Q
  mono : ∀ (j k : Nat) (a b : Ent2), j < k → Q[j]? = some a → Q[k]? = some b → a.2 ≤ b.2
  top : ∀ e : Ent2, Q[i]? = some e → ∀ a ∈ Q, a.2 ≤ e.2 + 1
  cl : ∀ (j : Nat) (e : Ent2), Q[j]? = some e → j < i → ∀ p q x, p < q → q < n → x < m → srt (f p x) (f q x) = e.1 → ∃ a ∈ Q, a.1 = (p, q)
section
variable {f : Nat → Nat → Nat} {m n i : Nat} {Q : List Ent2}
theorem BQ.len (B : BQ f m n Q i) : Q.length ≤ n * n := by
  have h1 : ((Q.map (·.1)).map fun c => c.1 * n + c.2).Nodup := by
    rw [List.nodup_iff_pairwise_ne] at *
    rw [List.pairwise_map]
    refine List.Pairwise.imp_of_mem ?_ (List.nodup_iff_pairwise_ne.1 B.nd)
    intro a b ha hb hne e
    obtain ⟨ea, hea, rfl⟩ := List.mem_map.1 ha
    obtain ⟨eb, heb, rfl⟩ := List.mem_map.1 hb
    obtain ⟨e1, e2⟩ := pair_eq (B.ok ea hea).2.1 (B.ok eb heb).2.1 e
    exact hne (Prod.ext e1 e2)
  have := nodup_le (n * n) _ h1 (by
    intro u hu
    obtain ⟨c, hc, rfl⟩ := List.mem_map.1 hu
    obtain ⟨e, he, rfl⟩ := List.mem_map.1 hc
    have := B.ok e he
    exact pair_lt (by omega) (by omega))
  simpa using this
theorem srt_mdist {a b d : Nat} {c : Nat × Nat} (h : srt a b = c) : MDist f m c.1 c.2 d ↔ MDist f m a b d := by
  rw [← h]; exact MDist.srt
theorem srt_lt {a b : Nat} (ha : a < n) (hb : b < n) : (srt a b).1 ≤ (srt a b).2 ∧ (srt a b).2 < n := by unfold srt; simp only; omega
theorem BQ.front (B : BQ f m n Q i) (hf : ∀ s x, s < n → x < m → f s x < n) {e : Ent2} (he : Q[i]? = some e) : ∀ (d p q : Nat), p ≤ q → q < n → MDist f m p q d → d < e.2 → ∃ (j : Nat) (a : Ent2), Q[j]? = some a ∧ j < i ∧ a.1 = (p, q) ∧ a.2 = d := by
  have back : ∀ a ∈ Q, a.2 < e.2 → ∃ j, Q[j]? = some a ∧ j < i := by
    intro a ha h
    obtain ⟨j, hj⟩ := List.mem_iff_getElem?.1 ha
    refine ⟨j, hj, ?_⟩
    rcases Nat.lt_trichotomy j i with h1 | h1 | h1
    · exact h1
    · subst h1; rw [he] at hj; obtain rfl := Option.some.inj hj; omega
    · have := B.mono i j e a h1 he hj; omega
  intro d
  induction d with
  | zero =>
    intro p q hpq hq hd h0
    obtain rfl := hd.eq0
    obtain ⟨j, hj, hji⟩ := back _ (B.diag p hq) h0
    exact ⟨j, _, hj, hji, rfl, rfl⟩
  | succ d ih =>
    intro p q hpq hq hd h0
    obtain ⟨hne, ⟨x, hx, hdx⟩, _⟩ := hd.pred
    have hs := srt_lt (hf p x (by omega) hx) (hf q x hq hx)
    obtain ⟨j, a, hj, hji, ha1, ha2⟩ := ih _ _ hs.1 hs.2 ((srt_mdist rfl).2 hdx) (by omega)
    obtain ⟨b, hb, hb1⟩ := B.cl j a hj hji p q x (by omega) hq hx ha1.symm
    have hbd : b.2 = d + 1 := by
      have := (B.ok b hb).2.2
      rw [hb1] at this
      exact this.uniq hd
    obtain ⟨j', hj', hji'⟩ := back b hb (by omega)
    exact ⟨j', b, hj', hji', hb1, hbd⟩
theorem BQ.all (B : BQ f m n Q i) (hf : ∀ s x, s < n → x < m → f s x < n) (hi : Q.length ≤ i) : ∀ (d p q : Nat), p ≤ q → q < n → MDist f m p q d → ((p, q), d) ∈ Q := by
  intro d
  induction d with
  | zero =>
    intro p q hpq hq hd
    obtain rfl := hd.eq0
    exact B.diag p hq
  | succ d ih =>
    intro p q hpq hq hd
    obtain ⟨hne, ⟨x, hx, hdx⟩, _⟩ := hd.pred
    have hs := srt_lt (hf p x (by omega) hx) (hf q x hq hx)
    have hm := ih _ _ hs.1 hs.2 ((srt_mdist rfl).2 hdx)
    obtain ⟨j, hj⟩ := List.mem_iff_getElem?.1 hm
    have hjl := (List.getElem?_eq_some_iff.1 hj).1
    obtain ⟨b, hb, hb1⟩ := B.cl j _ hj (by omega) p q x (by omega) hq hx rfl
    have hbd : b.2 = d + 1 := by
      have := (B.ok b hb).2.2
      rw [hb1] at this
      exact this.uniq hd
    have : b = ((p, q), d + 1) := Prod.ext hb1 hbd
    exact this ▸ hb
theorem BQ.new (B : BQ f m n Q i) (hf : ∀ s x, s < n → x < m → f s x < n) {e : Ent2} (he : Q[i]? = some e) {p q x : Nat} (hpq : p < q) (hq : q < n) (hx : x < m) (hs : srt (f p x) (f q x) = e.1) (hn : ∀ a ∈ Q, a.1 ≠ (p, q)) : BQ f m n (Q ++ [((p, q), e.2 + 1)]) i := by
  have hi := (List.getElem?_eq_some_iff.1 he).1
  have hem := List.mem_of_getElem? he
  have hD : MDist f m p q (e.2 + 1) := by
    refine MDist.succ (by omega) hx ((srt_mdist hs).1 (B.ok e hem).2.2) fun y e' hy hd => ?_
    rcases Nat.lt_or_ge e' e.2 with h1 | h1
    · have hsy := srt_lt (hf p y (by omega) hy) (hf q y hq hy)
      obtain ⟨j, a, hj, hji, ha1, ha2⟩ := B.front hf he e' _ _ hsy.1 hsy.2 ((srt_mdist rfl).2 hd) h1
      obtain ⟨b, hb, hb1⟩ := B.cl j a hj hji p q y hpq hq hy ha1.symm
      exact absurd hb1 (hn b hb)
    · exact h1
  have ap : ∀ (j : Nat) (a : Ent2), (Q ++ [((p, q), e.2 + 1)])[j]? = some a → (Q[j]? = some a ∧ j < Q.length) ∨ (j = Q.length ∧ a = ((p, q), e.2 + 1)) := by
    intro j a h
    rcases Nat.lt_trichotomy j Q.length with h1 | h1 | h1
    · rw [List.getElem?_append_left h1] at h; exact Or.inl ⟨h, h1⟩
    · subst h1; rw [List.getElem?_append_right (Nat.le_refl _)] at h; simp at h; exact Or.inr ⟨rfl, h.symm⟩
    · rw [List.getElem?_eq_none (by rw [List.length_append]; simp; omega)] at h; exact absurd h (by simp)
  refine ⟨?_, ?_, fun p hp => List.mem_append_left _ (B.diag p hp), ?_, ?_, ?_⟩
  · rw [List.map_append, List.nodup_append]
    refine ⟨B.nd, by simp, ?_⟩
    intro u hu v hv h
    obtain ⟨a, ha, rfl⟩ := List.mem_map.1 hu
    simp only [List.map_cons, List.map_nil, List.mem_singleton] at hv
    exact hn a ha (h.trans hv)
  · intro a ha
    rcases List.mem_append.1 ha with h | h
    · exact B.ok a h
    · obtain rfl := List.mem_singleton.1 h
      exact ⟨Nat.le_of_lt hpq, hq, hD⟩
  · intro j k a b hjk ha hb
    rcases ap k b hb with ⟨h1, h2⟩ | ⟨rfl, rfl⟩
    · rcases ap j a ha with ⟨h3, _⟩ | ⟨rfl, _⟩
      · exact B.mono j k a b hjk h3 h1
      · omega
    · rcases ap j a ha with ⟨h3, _⟩ | ⟨rfl, _⟩
      · exact B.top e he a (List.mem_of_getElem? h3)
      · omega
  · intro e' he' a ha
    rw [List.getElem?_append_left hi, he] at he'
    obtain rfl := Option.some.inj he'
    rcases List.mem_append.1 ha with h | h
    · exact B.top e he a h
    · obtain rfl := List.mem_singleton.1 h; exact Nat.le_refl _
  · intro j e' hj hji p' q' x' h1 h2 h3 h4
    rcases ap j e' hj with ⟨h5, _⟩ | ⟨rfl, _⟩
    · obtain ⟨a, ha, ha1⟩ := B.cl j e' h5 hji p' q' x' h1 h2 h3 h4
      exact ⟨a, List.mem_append_left _ ha, ha1⟩
    · omega
theorem BQ.row (B : BQ f m n Q i) {e : Ent2} (he : Q[i]? = some e) (hd : ∀ p q x, p < q → q < n → x < m → srt (f p x) (f q x) = e.1 → ∃ a ∈ Q, a.1 = (p, q)) : BQ f m n Q (i + 1) := by
  refine ⟨B.nd, B.ok, B.diag, B.mono, fun e' he' a ha => ?_, fun j e' hj hji p q x h1 h2 h3 h4 => ?_⟩
  · have h1 := B.top e he a ha
    have h2 := B.mono i (i + 1) e e' (by omega) he he'
    omega
  · rcases Nat.lt_or_ge j i with h5 | h5
    · exact B.cl j e' hj h5 p q x h1 h2 h3 h4
    · obtain rfl : j = i := by omega
      rw [he] at hj; obtain rfl := Option.some.inj hj
      exact hd p q x h1 h2 h3 h4
theorem BQ.start (f : Nat → Nat → Nat) (m n : Nat) : BQ f m n (diagQ n) 0 := by
  have form : ∀ e ∈ diagQ n, ∃ i, i < n ∧ e = ((i, i), 0) := fun e he => by
    obtain ⟨i, hi, rfl⟩ := List.mem_map.1 he
    exact ⟨i, List.mem_range.1 hi, rfl⟩
  have zero : ∀ (j : Nat) (a : Ent2), (diagQ n)[j]? = some a → a.2 = 0 := fun j a h => by
    obtain ⟨i, _, rfl⟩ := form a (List.mem_of_getElem? h); rfl
  refine ⟨?_, ?_, fun p hp => List.mem_map.2 ⟨p, List.mem_range.2 hp, rfl⟩, ?_, ?_, fun j e _ hj => by omega⟩
  · unfold diagQ
    rw [List.map_map, List.nodup_iff_pairwise_ne, List.pairwise_map]
    refine List.Pairwise.imp ?_ (List.nodup_iff_pairwise_ne.1 List.nodup_range)
    intro a b hab e
    simp only [Function.comp, Prod.mk.injEq] at e
    exact hab e.1
  · intro e he
    obtain ⟨i, hi, rfl⟩ := form e he
    exact ⟨Nat.le_refl _, hi, MDist.zero _ _ _⟩
  · intro j k a b _ ha hb; rw [zero j a ha]; exact Nat.zero_le _
  · intro e he a ha
    obtain ⟨i, _, rfl⟩ := form a ha
    exact Nat.zero_le _
end
section
variable {rows : List (List Int)} {n m : Nat} (V : VA rows n m)
include V
omit V in
theorem rdP_mem' {l : List (Int × Int)} {j : Nat} (h : j < l.length) : rdP l (j : Int) ∈ l := by
  unfold rdP
  rw [List.getD_eq_getElem?_getD, Int.toNat_natCast, List.getElem?_eq_getElem h]
  exact List.getElem_mem _
theorem nm_b1 {bf : List ((Int × Int) × List (Int × Int))} {N : Nat} (hb : BefOk (nx rows) (doneP n m n 0 0) bf N) {i : Nat} {c : Nat × Nat} {dd : Nat} (hN : N ≤ 1000000) (hi : i ≤ 1000000) :
    ∀ (e j : Nat) (Q : List Ent2), j + e = ((lkB (pI c) bf).getD []).length → BQ (nx rows) m n Q i → Q[i]? = some (c, dd) → (∀ j', j' < j → ∃ a ∈ Q, pI a.1 = rdP ((lkB (pI c) bf).getD []) (j' : Int)) →
    ∃ Q', BQ (nx rows) m n Q' (i + 1) ∧ i < Q'.length ∧ ∀ res, Ev (fun k => newMerger.b0 k (lq Q') bf (ql Q') ((i + 1 : Nat) : Int)) res → Ev (fun k => newMerger.b1 k (lq Q) bf (ql Q) (i : Int) ((lkB (pI c) bf).getD []) (j : Int)) res := by
  have hn60 := V.n60
  have hnn : n * n ≤ 3600 := Nat.mul_le_mul hn60 hn60
  have hcs := hb.len (pI c)
  intro e
  induction e with
  | zero =>
    intro j Q hj B hQ hd
    refine ⟨Q, B.row hQ fun p q x h1 h2 h3 h4 => ?_, (List.getElem?_eq_some_iff.1 hQ).1, fun res hres => Ev.step (fun k => ?_) hres⟩
    · have hm : pI (p, q) ∈ (lkB (pI c) bf).getD [] := (hb.mem (pI c) (pI (p, q))).2 ⟨p, q, x, ⟨h1, h2, h3, Or.inl (by omega)⟩, rfl, by rw [h4]⟩
      obtain ⟨j', hj', he⟩ := List.getElem_of_mem hm
      obtain ⟨a, ha, hae⟩ := hd j' (by omega)
      refine ⟨a, ha, pI_inj (hae.trans ?_)⟩
      unfold rdP
      rw [List.getD_eq_getElem?_getD, Int.toNat_natCast, List.getElem?_eq_getElem hj', he]; rfl
    · rw [newMerger.b1, if_neg (by omega), wrapS (by omega)]
  | succ e ih =>
    intro j Q hj B hQ hd
    have hjl : j < ((lkB (pI c) bf).getD []).length := by omega
    have hmem : rdP ((lkB (pI c) bf).getD []) (j : Int) ∈ (lkB (pI c) bf).getD [] := rdP_mem' hjl
    obtain ⟨p, q, x, ⟨h1, h2, h3, _⟩, hz, hc⟩ := (hb.mem _ _).1 hmem
    have hcs' : srt (nx rows p x) (nx rows q x) = c := (pI_inj hc).symm
    have hil := (List.getElem?_eq_some_iff.1 hQ).1
    have hQl := B.len
    by_cases hin : ∃ a ∈ Q, a.1 = (p, q)
    · obtain ⟨a, ha, ha1⟩ := hin
      obtain ⟨Q', k1, k2, k3⟩ := ih (j + 1) Q (by omega) B hQ (fun j' hj' => by
        rcases Nat.lt_or_ge j' j with h5 | h5
        · exact hd j' h5
        · obtain rfl : j' = j := by omega
          exact ⟨a, ha, by rw [hz, ha1]⟩)
      refine ⟨Q', k1, k2, fun res hres => Ev.step (fun k => ?_) (k3 res hres)⟩
      have hlk := lkP_some B.nd a ha
      rw [newMerger.b1, if_pos (by omega), if_pos (by omega), hz, ← ha1, hlk, if_pos (by rfl), wrapS (by omega)]
    · have hno : ∀ a ∈ Q, a.1 ≠ (p, q) := fun a ha he => hin ⟨a, ha, he⟩
      have B' := B.new (fun s x => V.nxLt) hQ h1 h2 h3 hcs' hno
      obtain ⟨Q', k1, k2, k3⟩ := ih (j + 1) _ (by omega) B' (by rw [List.getElem?_append_left hil]; exact hQ) (fun j' hj' => by
        rcases Nat.lt_or_ge j' j with h5 | h5
        · obtain ⟨a, ha, hae⟩ := hd j' h5
          exact ⟨a, List.mem_append_left _ ha, hae⟩
        · obtain rfl : j' = j := by omega
          exact ⟨((p, q), dd + 1), List.mem_append_right _ (List.mem_singleton.2 rfl), hz.symm⟩)
      refine ⟨Q', k1, k2, fun res hres => Ev.step (fun k => ?_) (k3 res hres)⟩
      have hlk := lkP_some B.nd _ (List.mem_of_getElem? hQ)
      have hdd : dd < 3600 := MDist.small V (by have := B.ok _ (List.mem_of_getElem? hQ); omega) (B.ok _ (List.mem_of_getElem? hQ)).2.1 (B.ok _ (List.mem_of_getElem? hQ)).2.2
      rw [newMerger.b1, if_pos (by omega), if_pos (by omega), hz, lkP_none hno, if_neg (by simp), if_pos (by rw [ql_len]; omega), if_pos (by rw [ql_len]; omega), ql_at hQ, hlk, Option.getD_some, wrapS (by omega), wrapS (by omega), putL_new hno, ← ql_snoc _ (p, q) (dd + 1)]
theorem nm_b0 {bf : List ((Int × Int) × List (Int × Int))} {N : Nat} (hb : BefOk (nx rows) (doneP n m n 0 0) bf N) (hN : N ≤ 1000000) : ∀ (e i : Nat) (Q : List Ent2), i + e = n * n → i ≤ Q.length → BQ (nx rows) m n Q i →
    ∃ left, LeftOk (nx rows) m n left ∧ Ev (fun k => newMerger.b0 k (lq Q) bf (ql Q) (i : Int)) left := by
  have hn60 := V.n60
  have hnn : n * n ≤ 3600 := Nat.mul_le_mul hn60 hn60
  have fin : ∀ (i : Nat) (Q : List Ent2), Q.length ≤ i → BQ (nx rows) m n Q i → LeftOk (nx rows) m n (lq Q) := by
    intro i Q hi B p q hpq hq
    by_cases hm : Mg (nx rows) m p q
    · obtain ⟨d, hd⟩ := hm.dist
      have hmem := B.all (fun s x => V.nxLt) hi d p q hpq hq hd
      exact Or.inl ⟨d, lkP_some B.nd _ hmem, hd⟩
    · refine Or.inr ⟨lkP_none (c := (p, q)) fun e he h => hm ?_, hm⟩
      have := (B.ok e he).2.2.mg
      rw [h] at this; exact this
  intro e
  induction e with
  | zero =>
    intro i Q hi hil B
    have := B.len
    refine ⟨lq Q, fin i Q (by omega) B, Ev.step (fun k => ?_) (Ev.now _)⟩
    rw [newMerger.b0, if_neg (by rw [ql_len]; omega)]
  | succ e ih =>
    intro i Q hi hil B
    have hQl := B.len
    rcases Nat.lt_or_ge i Q.length with h1 | h1
    · obtain ⟨⟨c, dd⟩, hQ⟩ : ∃ e, Q[i]? = some e := ⟨_, List.getElem?_eq_getElem h1⟩
      obtain ⟨Q', k1, k2, k3⟩ := nm_b1 V hb (c := c) (dd := dd) hN (by omega) _ 0 Q (Nat.zero_add _) B hQ (fun j' hj' => by omega)
      obtain ⟨left, k4, k5⟩ := ih (i + 1) Q' (by omega) (by omega) k1
      refine ⟨left, k4, Ev.step (fun k => ?_) (k3 left k5)⟩
      rw [newMerger.b0, if_pos (by rw [ql_len]; omega), if_pos (by omega), ql_at hQ]; rfl
    · refine ⟨lq Q, fin i Q h1 B, Ev.step (fun k => ?_) (Ev.now _)⟩
      rw [newMerger.b0, if_neg (by rw [ql_len]; omega)]
theorem newMerger_ev : ∃ left, LeftOk (nx rows) m n left ∧ Ev (fun k => newMerger.f k rows) left := by
  have hn60 := V.n60
  obtain ⟨bf, N, h0, h1, h2⟩ := nm_l0 V n 0 [] 0 (by omega) (by omega) ⟨fun c z => ⟨fun h => by simp [lkB] at h, fun ⟨p, q, x, h3, _⟩ => by unfold doneP at h3; omega⟩, fun c => by simp [lkB]⟩
  obtain ⟨left, h3, h4⟩ := nm_b0 V h1 h0 (n * n) 0 (diagQ n) (by omega) (by omega) (BQ.start _ _ _)
  exact ⟨left, h3, h2 left h4⟩
end
end Go.Proofs.Ytcpmmkennnjalaa.Q
end
section
namespace Go.Proofs.Ytcpmmkennnjalaa.Q
open Go.RowKit Go.Proofs.YtcpmmkennnjalaaW.PrintWords Go.Proofs.YtcpmmkennnjalaaW.PrintLast Go.Proofs.YtcpmmkennnjalaaW.PrintMore
set_option linter.unusedVariables false
set_option linter.unusedSectionVars false
set_option linter.unusedSimpArgs false
/-! ### the nearest pair of a set -/
theorem inPy {n p q : Nat} (hp : p < n) (hq : q < n) : inP n (p : Int) (q : Int) = true := decide_eq_true (by omega)
def seen (i j a b : Nat) : Prop := a < b ∧ (a < i ∨ a = i ∧ b < i + 1 + j)
structure Best (f : Nat → Nat → Nat) (m : Nat) (Q : List Nat) (i j : Nat) (b1 b2 : Nat) (fd : Bool) : Prop where
  none : fd = false → ∀ a b (hb : b < Q.length), ¬ seen i j a b
  some : fd = true → ∃ d, b1 ∈ Q ∧ b2 ∈ Q ∧ b1 < b2 ∧ MDist f m b1 b2 d ∧ ∀ a b (ha : a < Q.length) (hb : b < Q.length), seen i j a b → ∃ e, MDist f m Q[a] Q[b] e ∧ d ≤ e
/-- What nearest says. -/
def NearSays (f : Nat → Nat → Nat) (m : Nat) (Q : List Nat) (r : Int × Int × Bool) : Prop :=
  (r = (0, 0, false) ∧ ∃ a ∈ Q, ∃ b ∈ Q, ¬ Mg f m a b) ∨ ∃ p q d : Nat, r = ((p : Int), (q : Int), true) ∧ p ∈ Q ∧ q ∈ Q ∧ p < q ∧ MDist f m p q d ∧ ∀ a ∈ Q, ∀ b ∈ Q, a ≠ b → ∃ e, MDist f m a b e ∧ d ≤ e
theorem Best.ext {f : Nat → Nat → Nat} {m : Nat} {Q : List Nat} {i j i' j' b1 b2 : Nat} {fd : Bool} (h : Best f m Q i j b1 b2 fd) (e : ∀ a b, b < Q.length → (seen i' j' a b ↔ seen i j a b)) : Best f m Q i' j' b1 b2 fd :=
  ⟨fun hf a b hb hs => h.none hf a b hb ((e a b hb).1 hs), fun hf => by
    obtain ⟨d, h1, h2, h3, h4, h5⟩ := h.some hf
    exact ⟨d, h1, h2, h3, h4, fun a b ha hb hs => h5 a b ha hb ((e a b hb).1 hs)⟩⟩
section
variable {rows : List (List Int)} {n m : Nat} (V : VA rows n m)
include V
theorem nearest_l1 {left : List ((Int × Int) × Int)} (L : LeftOk (nx rows) m n left) {Q : List Nat} (hQ : Q.Pairwise (· < ·)) (hlt : ∀ x ∈ Q, x < n) {i : Nat} (hi : i < Q.length) (hQl : Q.length ≤ 1000000) :
    ∀ (e j b1 b2 : Nat) (fd : Bool), i + 1 + j + e = Q.length → Best (nx rows) m Q i j b1 b2 fd →
    (∃ r, NearSays (nx rows) m Q r ∧ Ev (fun k => merger_nearest.l1 k n left (toI Q) (b1 : Int) (b2 : Int) fd (i : Int) (rd (toI Q) (i : Int)) ((toI Q).drop (i + 1)) (j : Int)) r) ∨
    ∃ b1' b2' fd', Best (nx rows) m Q (i + 1) 0 b1' b2' fd' ∧ ∀ r, Ev (fun k => merger_nearest.l0 k n left (toI Q) (b1' : Int) (b2' : Int) fd' ((i + 1 : Nat) : Int)) r → Ev (fun k => merger_nearest.l1 k n left (toI Q) (b1 : Int) (b2 : Int) fd (i : Int) (rd (toI Q) (i : Int)) ((toI Q).drop (i + 1)) (j : Int)) r := by
  have hn60 := V.n60
  have hdl : ((toI Q).drop (i + 1)).length = Q.length - (i + 1) := by rw [List.length_drop, toI_len]
  intro e
  induction e with
  | zero =>
    intro j b1 b2 fd hj B
    refine Or.inr ⟨b1, b2, fd, B.ext fun a b hb => by unfold seen; omega, fun r hr => Ev.step (fun k => ?_) hr⟩
    rw [merger_nearest.l1, if_neg (by rw [hdl]; omega), wrapS (by omega)]
  | succ e ih =>
    intro j b1 b2 fd hj B
    have hbl : i + 1 + j < Q.length := by omega
    have hp : Q[i] < n := hlt _ (List.getElem_mem hi)
    have hq : Q[i + 1 + j] < n := hlt _ (List.getElem_mem hbl)
    have hpq : Q[i] < Q[i + 1 + j] := List.pairwise_iff_getElem.1 hQ i (i + 1 + j) hi hbl (by omega)
    have hrp : rd (toI Q) (i : Int) = ((Q[i] : Nat) : Int) := toI_rd hi
    have hrq : rd ((toI Q).drop (i + 1)) (j : Int) = ((Q[i + 1 + j] : Nat) : Int) := by
      rw [← toI_rd hbl, rdN, rdN, List.getD_eq_getElem?_getD, List.getD_eq_getElem?_getD, List.getElem?_drop]
    have hseen : ∀ a b, b < Q.length → (seen i (j + 1) a b ↔ seen i j a b ∨ a = i ∧ b = i + 1 + j) := fun a b hb => by unfold seen; omega
    rcases L _ _ (Nat.le_of_lt hpq) hq with ⟨d, h1, h2⟩ | ⟨h1, h2⟩
    · have take : Best (nx rows) m Q i (j + 1) Q[i] Q[i + 1 + j] true → _ := fun B' => ih (j + 1) Q[i] Q[i + 1 + j] true (by omega) B'
      have keep : Best (nx rows) m Q i (j + 1) b1 b2 true → _ := fun B' => ih (j + 1) b1 b2 true (by omega) B'
      cases fd with
      | false =>
        have B' : Best (nx rows) m Q i (j + 1) Q[i] Q[i + 1 + j] true := ⟨fun h => by simp at h, fun _ => ⟨d, List.getElem_mem hi, List.getElem_mem hbl, hpq, h2, fun a b ha hb hs => by
          rcases (hseen a b hb).1 hs with h3 | ⟨rfl, rfl⟩
          · exact absurd h3 (B.none rfl a b hb)
          · exact ⟨d, h2, Nat.le_refl _⟩⟩⟩
        have open_ : ∀ k, merger_nearest.l1 (k + 1) n left (toI Q) (b1 : Int) (b2 : Int) false (i : Int) (rd (toI Q) (i : Int)) ((toI Q).drop (i + 1)) (j : Int) = merger_nearest.l1 k n left (toI Q) ((Q[i] : Nat) : Int) ((Q[i + 1 + j] : Nat) : Int) true (i : Int) (rd (toI Q) (i : Int)) ((toI Q).drop (i + 1)) ((j + 1 : Nat) : Int) := fun k => by
          rw [merger_nearest.l1, if_pos (by rw [hdl]; omega), if_pos (by omega), hrq, hrp, if_pos (inPy hp hq), h1, if_pos (by rfl), if_neg (by decide), wrapS (by omega)]
        rcases take B' with ⟨r, h3, h4⟩ | ⟨b1', b2', fd', h3, h4⟩
        · exact Or.inl ⟨r, h3, Ev.step open_ h4⟩
        · exact Or.inr ⟨b1', b2', fd', h3, fun r hr => Ev.step open_ (h4 r hr)⟩
      | true =>
        obtain ⟨db, g1, g2, g3, g4, g5⟩ := B.some rfl
        have hb1 : b1 < n := hlt _ g1
        have hb2 : b2 < n := hlt _ g2
        have hv := L.val (Nat.le_of_lt g3) hb2 g4
        by_cases hlt2 : d < db
        · have B' : Best (nx rows) m Q i (j + 1) Q[i] Q[i + 1 + j] true := ⟨fun h => by simp at h, fun _ => ⟨d, List.getElem_mem hi, List.getElem_mem hbl, hpq, h2, fun a b ha hb hs => by
            rcases (hseen a b hb).1 hs with h3 | ⟨rfl, rfl⟩
            · obtain ⟨e', k1, k2⟩ := g5 a b ha hb h3
              exact ⟨e', k1, by omega⟩
            · exact ⟨d, h2, Nat.le_refl _⟩⟩⟩
          have open_ : ∀ k, merger_nearest.l1 (k + 1) n left (toI Q) (b1 : Int) (b2 : Int) true (i : Int) (rd (toI Q) (i : Int)) ((toI Q).drop (i + 1)) (j : Int) = merger_nearest.l1 k n left (toI Q) ((Q[i] : Nat) : Int) ((Q[i + 1 + j] : Nat) : Int) true (i : Int) (rd (toI Q) (i : Int)) ((toI Q).drop (i + 1)) ((j + 1 : Nat) : Int) := fun k => by
            rw [merger_nearest.l1, if_pos (by rw [hdl]; omega), if_pos (by omega), hrq, hrp, if_pos (inPy hp hq), h1, if_pos (by rfl), if_pos rfl, if_pos (inPy hb1 hb2), hv, Option.getD_some, Option.getD_some, if_pos (by omega), wrapS (by omega)]
          rcases take B' with ⟨r, h3, h4⟩ | ⟨b1', b2', fd', h3, h4⟩
          · exact Or.inl ⟨r, h3, Ev.step open_ h4⟩
          · exact Or.inr ⟨b1', b2', fd', h3, fun r hr => Ev.step open_ (h4 r hr)⟩
        · have B' : Best (nx rows) m Q i (j + 1) b1 b2 true := ⟨fun h => by simp at h, fun _ => ⟨db, g1, g2, g3, g4, fun a b ha hb hs => by
            rcases (hseen a b hb).1 hs with h3 | ⟨rfl, rfl⟩
            · exact g5 a b ha hb h3
            · exact ⟨d, h2, by omega⟩⟩⟩
          have open_ : ∀ k, merger_nearest.l1 (k + 1) n left (toI Q) (b1 : Int) (b2 : Int) true (i : Int) (rd (toI Q) (i : Int)) ((toI Q).drop (i + 1)) (j : Int) = merger_nearest.l1 k n left (toI Q) (b1 : Int) (b2 : Int) true (i : Int) (rd (toI Q) (i : Int)) ((toI Q).drop (i + 1)) ((j + 1 : Nat) : Int) := fun k => by
            rw [merger_nearest.l1, if_pos (by rw [hdl]; omega), if_pos (by omega), hrq, hrp, if_pos (inPy hp hq), h1, if_pos (by rfl), if_pos rfl, if_pos (inPy hb1 hb2), hv, Option.getD_some, Option.getD_some, if_neg (by omega), wrapS (by omega)]
          rcases keep B' with ⟨r, h3, h4⟩ | ⟨b1', b2', fd', h3, h4⟩
          · exact Or.inl ⟨r, h3, Ev.step open_ h4⟩
          · exact Or.inr ⟨b1', b2', fd', h3, fun r hr => Ev.step open_ (h4 r hr)⟩
    · refine Or.inl ⟨(0, 0, false), Or.inl ⟨rfl, Q[i], List.getElem_mem hi, Q[i + 1 + j], List.getElem_mem hbl, h2⟩, Ev.step (f := fun _ => some (0, 0, false)) (fun k => ?_) (Ev.now _)⟩
      rw [merger_nearest.l1, if_pos (by rw [hdl]; omega), if_pos (by omega), hrq, hrp, if_pos (inPy hp hq), h1, if_neg (by simp)]
theorem nearest_l0 {left : List ((Int × Int) × Int)} (L : LeftOk (nx rows) m n left) {Q : List Nat} (hQ : Q.Pairwise (· < ·)) (hlt : ∀ x ∈ Q, x < n) (hQl : Q.length ≤ 1000000) (hQ2 : 2 ≤ Q.length) :
    ∀ (e i b1 b2 : Nat) (fd : Bool), i + e = Q.length → Best (nx rows) m Q i 0 b1 b2 fd → ∃ r, NearSays (nx rows) m Q r ∧ Ev (fun k => merger_nearest.l0 k n left (toI Q) (b1 : Int) (b2 : Int) fd (i : Int)) r := by
  intro e
  induction e with
  | zero =>
    intro i b1 b2 fd hi B
    obtain rfl : i = Q.length := by omega
    have hfd : fd = true := by
      cases fd with
      | true => rfl
      | false => exact absurd (show seen Q.length 0 0 1 by unfold seen; omega) (B.none rfl 0 1 (by omega))
    subst hfd
    obtain ⟨d, g1, g2, g3, g4, g5⟩ := B.some rfl
    refine ⟨_, Or.inr ⟨b1, b2, d, rfl, g1, g2, g3, g4, fun a ha b hb hab => ?_⟩, Ev.step (f := fun _ => some ((b1 : Int), (b2 : Int), true)) (fun k => ?_) (Ev.now _)⟩
    · obtain ⟨x, hx, rfl⟩ := List.getElem_of_mem ha
      obtain ⟨y, hy, rfl⟩ := List.getElem_of_mem hb
      rcases Nat.lt_trichotomy x y with h | h | h
      · exact g5 x y hx hy (by unfold seen; omega)
      · subst h; exact absurd rfl hab
      · obtain ⟨e', k1, k2⟩ := g5 y x hy hx (by unfold seen; omega)
        exact ⟨e', k1.symm, k2⟩
    · rw [merger_nearest.l0, if_neg (by rw [toI_len]; omega)]
  | succ e ih =>
    intro i b1 b2 fd hi B
    have open_ : ∀ k, merger_nearest.l0 (k + 1) n left (toI Q) (b1 : Int) (b2 : Int) fd (i : Int) = merger_nearest.l1 k n left (toI Q) (b1 : Int) (b2 : Int) fd (i : Int) (rd (toI Q) (i : Int)) ((toI Q).drop (i + 1)) ((0 : Nat) : Int) := fun k => by
      rw [merger_nearest.l0, if_pos (by rw [toI_len]; omega), if_pos (by omega), Int.toNat_natCast]; rfl
    rcases nearest_l1 V L hQ hlt (i := i) (by omega) hQl (Q.length - (i + 1)) 0 b1 b2 fd (by omega) B with ⟨r, h1, h2⟩ | ⟨b1', b2', fd', h1, h2⟩
    · exact ⟨r, h1, Ev.step open_ h2⟩
    · obtain ⟨r, h3, h4⟩ := ih (i + 1) b1' b2' fd' (by omega) h1
      exact ⟨r, h3, Ev.step open_ (h2 r h4)⟩
theorem nearest_ev {left : List ((Int × Int) × Int)} (L : LeftOk (nx rows) m n left) {Q : List Nat} (hQ : Q.Pairwise (· < ·)) (hlt : ∀ x ∈ Q, x < n) (hQl : Q.length ≤ 1000000) (hQ2 : 2 ≤ Q.length) :
    ∃ r, NearSays (nx rows) m Q r ∧ Ev (fun k => merger_nearest.f k n left (toI Q)) r := by
  have hn60 := V.n60
  obtain ⟨r, h1, h2⟩ := nearest_l0 V L hQ hlt hQl hQ2 Q.length 0 0 0 false (by omega) ⟨fun _ a b hb h => by unfold seen at h; omega, fun h => by simp at h⟩
  exact ⟨r, h1, Ev.congr (fun k => by rw [merger_nearest.f, if_pos (by omega)]; rfl) h2⟩
/-! ### Reset -/
theorem lead_each {w : List Nat} (hw : Wd m w) (hl : w.length ≤ 1000000) {Q0 : List Nat} (hlt : ∀ x ∈ Q0, x < n) (hQl : Q0.length ≤ 1000000) : ∀ (e i : Nat), i + e = Q0.length →
    Ev (fun k => reset_Reset.l1 k rows (toI ((Q0.take i).map (fun s => run (nx rows) s w) ++ Q0.drop i)) (toI w) (i : Int)) (toI (Q0.map fun s => run (nx rows) s w)) := by
  intro e
  induction e with
  | zero =>
    intro i hi
    have e1 : Q0.take i = Q0 := List.take_of_length_le (by omega)
    have e2 : Q0.drop i = [] := List.drop_eq_nil_of_le (by omega)
    rw [e1, e2, List.append_nil]
    refine Ev.step (fun k => ?_) (Ev.now _)
    rw [reset_Reset.l1, toI_len, List.length_map, if_neg (by omega)]
  | succ e ih =>
    intro i hi
    have hil : i < Q0.length := by omega
    have htl : ((Q0.take i).map (fun s => run (nx rows) s w)).length = i := by rw [List.length_map, List.length_take]; omega
    have hlen : ((Q0.take i).map (fun s => run (nx rows) s w) ++ Q0.drop i).length = Q0.length := by rw [List.length_append, htl, List.length_drop]; omega
    have hd : Q0.drop i = Q0[i] :: Q0.drop (i + 1) := List.drop_eq_getElem_cons hil
    have hget : ((Q0.take i).map (fun s => run (nx rows) s w) ++ Q0.drop i)[i]'(by omega) = Q0[i] := by
      have h2 : ((Q0.take i).map (fun s => run (nx rows) s w) ++ Q0.drop i)[i]? = some Q0[i] := by
        rw [List.getElem?_append_right (by omega), htl, Nat.sub_self, hd]; rfl
      rw [List.getElem?_eq_getElem (by omega)] at h2
      exact Option.some.inj h2
    have hset : (toI ((Q0.take i).map (fun s => run (nx rows) s w) ++ Q0.drop i)).set i ((run (nx rows) Q0[i] w : Nat) : Int) = toI ((Q0.take (i + 1)).map (fun s => run (nx rows) s w) ++ Q0.drop (i + 1)) := by
      unfold toI
      rw [← List.map_set, List.set_append_right _ _ (by omega), htl, Nat.sub_self, hd, List.set_cons_zero, List.take_succ_eq_append_getElem hil]
      congr 1
      rw [List.map_append, List.append_assoc]
      rfl
    refine Ev.step (f := fun k => (auto_Lead.f k rows ((Q0[i] : Nat) : Int) (toI w)).bind fun t => reset_Reset.l1 k rows ((toI ((Q0.take i).map (fun s => run (nx rows) s w) ++ Q0.drop i)).set i t) (toI w) ((i + 1 : Nat) : Int)) (fun k => ?_) (Ev.bind (auto_lead V (hlt _ (List.getElem_mem hil)) hw hl) ?_)
    · rw [reset_Reset.l1, toI_len, hlen, if_pos (by omega), if_pos (by omega), toI_rd (by omega), hget, wrapS (by omega), Int.toNat_natCast]
    · rw [hset]; exact ih (i + 1) (by omega)
/-- The way from all states to a set. -/
structure Way (f : Nat → Nat → Nat) (m n : Nat) (w Q : List Nat) : Prop where
  wd : Wd m w
  srt : Q.Pairwise (· < ·)
  into : ∀ s, s < n → run f s w ∈ Q
  onto : ∀ t ∈ Q, ∃ s, s < n ∧ run f s w = t
omit V in
theorem nodup_of_lt {Q : List Nat} (h : Q.Pairwise (· < ·)) : Q.Nodup := by
  rw [List.nodup_iff_pairwise_ne]
  exact h.imp fun h => by omega
omit V in
theorem Way.lt {f : Nat → Nat → Nat} {m n : Nat} {w Q : List Nat} (h : Way f m n w Q) (hf : ∀ s x, s < n → x < m → f s x < n) : ∀ t ∈ Q, t < n := fun t ht => by
  obtain ⟨s, hs, rfl⟩ := h.onto t ht
  exact runLt hf w s hs h.wd
omit V in
theorem Way.len {f : Nat → Nat → Nat} {m n : Nat} {w Q : List Nat} (h : Way f m n w Q) (hf : ∀ s x, s < n → x < m → f s x < n) : Q.length ≤ n := nodup_le n Q (nodup_of_lt h.srt) (h.lt hf)
def HH (r : Nat) : Nat := r * (r + 1) * (r + 2)
omit V in
theorem HH_succ (r : Nat) : HH (r + 1) = HH r + 3 * ((r + 1) * (r + 2)) := by
  unfold HH
  have e1 : (r + 1) * (r + 1 + 1) * (r + 1 + 2) = (r + 1) * (r + 2) * r + (r + 1) * (r + 2) * 3 := by
    rw [← Nat.mul_add]
  rw [e1, Nat.mul_comm ((r + 1) * (r + 2)) r, Nat.mul_comm ((r + 1) * (r + 2)) 3, Nat.mul_assoc r]
omit V in
theorem HH_mono {r s : Nat} (h : r ≤ s) : HH r ≤ HH s := by
  induction s with
  | zero => rw [Nat.le_zero.1 h]; exact Nat.le_refl _
  | succ s ih =>
    rcases Nat.lt_or_ge s r with h1 | h1
    · rw [Nat.le_antisymm h h1]; exact Nat.le_refl _
    · have := ih h1; rw [HH_succ]; omega
def ResetSays (f : Nat → Nat → Nat) (m n : Nat) (r : List Int × Int) : Prop :=
  (∃ w, Wd m w ∧ r = (toI w, 0) ∧ (∀ s t, s < n → t < n → run f s w = run f t w) ∧ 6 * w.length ≤ HH (n - 1)) ∨ (r = ([], 4) ∧ ∃ a b, a < n ∧ b < n ∧ ¬ Mg f m a b)
omit V in
theorem HH60 {r : Nat} (h : r ≤ 60) : HH r ≤ 226920 := Nat.le_trans (HH_mono h) (by decide)
theorem reset_loop {left : List ((Int × Int) × Int)} (L : LeftOk (nx rows) m n left) : ∀ (e : Nat) (w Q : List Nat), Q.length ≤ e → Way (nx rows) m n w Q → 6 * w.length ≤ HH (n - Q.length) →
    ∃ r, ResetSays (nx rows) m n r ∧ Ev (fun k => reset_Reset.l0 k rows left (toI w) (toI Q)) r := by
  have hn60 := V.n60
  have hn0 := V.n0
  have hf : ∀ s x, s < n → x < m → nx rows s x < n := fun s x => V.nxLt
  intro e
  induction e with
  | zero =>
    intro w Q hQ W _
    have h0 := W.into 0 hn0
    rw [List.eq_nil_of_length_eq_zero (Nat.le_zero.1 hQ)] at h0
    cases h0
  | succ e ih =>
    intro w Q hQ W hwl
    have hQn := W.len hf
    have hQlt := W.lt hf
    by_cases h1 : Q.length ≤ 1
    · have hone : ∀ x ∈ Q, ∀ y ∈ Q, x = y := by
        match Q, h1 with
        | [], _ => intro x hx; cases hx
        | [z], _ => intro x hx y hy; rw [List.mem_singleton.1 hx, List.mem_singleton.1 hy]
      refine ⟨(toI w, 0), Or.inl ⟨w, W.wd, rfl, fun s t hs ht => hone _ (W.into s hs) _ (W.into t ht), ?_⟩, Ev.step (f := fun _ => some (toI w, 0)) (fun k => ?_) (Ev.now _)⟩
      · have hQ1 : Q.length = 1 := by
          have := List.length_pos_of_mem (W.into 0 hn0); omega
        rw [hQ1] at hwl; exact hwl
      · rw [reset_Reset.l0, toI_len, if_neg (by omega)]
    · obtain ⟨r, hr, hev⟩ := nearest_ev V L W.srt hQlt (by omega) (by omega)
      rcases hr with ⟨rfl, a, ha, b, hb, hab⟩ | ⟨p, q, d, rfl, hp, hq, hpq, hd, hmin⟩
      · refine ⟨([], 4), Or.inr ⟨rfl, a, b, hQlt a ha, hQlt b hb, hab⟩, Ev.step (f := fun k => (merger_nearest.f k rows.length left (toI Q)).bind _) (fun k => by rw [reset_Reset.l0, toI_len, if_pos (by omega)]) ?_⟩
        rw [V.len]
        refine Ev.bind hev ?_
        simp only [Bool.false_eq_true, if_false]
        exact Ev.now _
      · obtain ⟨wd, hwd, hwev⟩ : ∃ wd, LM (nx rows) m p q wd ∧ Ev (fun k => merger_word.f k rows left (p : Int) (q : Int)) (toI wd, true) := by
          rcases merger_word_ev V L (Nat.le_of_lt hpq) (hQlt q hq) with h | ⟨h, _⟩
          · exact h
          · exact absurd hd.mg h
        have hdl : wd.length = d := (hwd.dist V.m0).uniq hd
        have hb := near_bound hf (nodup_of_lt W.srt) hQlt hp hq hd fun a ha b hb hab e' he' => by
          obtain ⟨e2, h2, h3⟩ := hmin a ha b hb hab
          rw [he'.uniq h2]; exact h3
        obtain ⟨Q', hQ', hsrt, hmem⟩ := tidy_nat (Q.map fun s => run (nx rows) s wd)
        have W' : Way (nx rows) m n (w ++ wd) Q' := by
          refine ⟨W.wd.app hwd.wd, hsrt, fun s hs => ?_, fun t ht => ?_⟩
          · rw [run_app]; exact (hmem _).2 (List.mem_map.2 ⟨_, W.into s hs, rfl⟩)
          · obtain ⟨u, hu, rfl⟩ := List.mem_map.1 ((hmem t).1 ht)
            obtain ⟨s, hs, rfl⟩ := W.onto u hu
            exact ⟨s, hs, run_app _ _ _ _⟩
        have hless : Q'.length < Q.length := by
          have h2 : ∀ x ∈ Q', x ∈ (Q.erase p).map fun s => run (nx rows) s wd := by
            intro x hx
            obtain ⟨u, hu, rfl⟩ := List.mem_map.1 ((hmem x).1 hx)
            by_cases hup : u = p
            · subst hup
              exact List.mem_map.2 ⟨q, (nodup_of_lt W.srt).mem_erase_iff.2 ⟨by omega, hq⟩, hwd.ends.symm⟩
            · exact List.mem_map.2 ⟨u, (nodup_of_lt W.srt).mem_erase_iff.2 ⟨hup, hu⟩, rfl⟩
          have h3 := nodup_sub (nodup_of_lt hsrt) h2
          rw [List.length_map, List.length_erase_of_mem hp] at h3
          omega
        have hQ'0 : 0 < Q'.length := List.length_pos_of_mem (W'.into 0 hn0)
        have hH : 6 * (w ++ wd).length ≤ HH (n - Q'.length) := by
          have h2 := HH_succ (n - Q.length)
          have h3 := HH_mono (show n - Q.length + 1 ≤ n - Q'.length by omega)
          rw [List.length_append, hdl]; omega
        have hH60 := HH60 (show n - Q'.length ≤ 60 by omega)
        rw [List.length_append] at hH
        obtain ⟨r, hr, hrev⟩ := ih (w ++ wd) Q' (by omega) W' (by rw [List.length_append]; exact hH)
        refine ⟨r, hr, Ev.step (f := fun k => (merger_nearest.f k rows.length left (toI Q)).bind _) (fun k => by rw [reset_Reset.l0, toI_len, if_pos (by omega)]) ?_⟩
        rw [V.len]
        refine Ev.bind hev ?_
        simp only [if_true]
        refine Ev.bind hwev ?_
        simp only [toI_len]
        simp only [if_pos (show w.length + wd.length < 17592186044416 by omega), if_pos (show Q.length < 4611686018427387904 by omega)]
        have hl1 := lead_each V hwd.wd (by omega) hQlt (by omega) Q.length 0 (by omega)
        rw [List.take_zero, List.map_nil, List.nil_append, List.drop_zero] at hl1
        refine Ev.bind hl1 ?_
        rw [hQ', show toI w ++ toI wd = toI (w ++ wd) by simp [toI]]
        simp only [toI_len, List.length_map, if_pos (show Q.length < 4611686018427387904 by omega), if_pos (show Q'.length ≤ Q.length by omega)]
        exact hrev
theorem auto_all : Ev (fun k => auto_All.f k rows) (toI (List.range n)) := by
  have hn60 := V.n60
  have key : ∀ d i : Nat, i + d = n → Ev (fun k => auto_All.l0 k (toI (List.range i)) (n : Int) (i : Int)) (toI (List.range n)) := by
    intro d
    induction d with
    | zero =>
      intro i hi
      obtain rfl : i = n := by omega
      refine Ev.step (f := fun _ => some (toI (List.range i))) (fun k => ?_) (Ev.now _)
      rw [auto_All.l0, if_neg (by omega)]
    | succ d ih =>
      intro i hi
      refine Ev.step (fun k => ?_) (ih (i + 1) (by omega))
      rw [auto_All.l0, if_pos (by omega), toI_len, List.length_range, if_pos (by omega), wrapS (by omega), ← toI_snoc, ← List.range_succ]
  have := key n 0 (by omega)
  refine Ev.congr (fun k => ?_) this
  rw [auto_All.f, V.len]; rfl
theorem reset_ev : ∃ r, ResetSays (nx rows) m n r ∧ Ev (fun k => reset_Reset.f k rows) r := by
  obtain ⟨left, L, hl⟩ := newMerger_ev V
  obtain ⟨r, hr, hev⟩ := reset_loop V L n [] (List.range n) (by simp) ⟨Wd.nil m, List.pairwise_lt_range, fun s hs => List.mem_range.2 hs, fun t ht => ⟨t, List.mem_range.1 ht, rfl⟩⟩ (by simp)
  refine ⟨r, hr, ?_⟩
  unfold reset_Reset.f
  simp only [auto_Valid.f, validB_of V, Option.bind_some, if_true]
  exact Ev.bind hl (Ev.bind (auto_all V) hev)
end
end Go.Proofs.Ytcpmmkennnjalaa.Q
end
section
namespace Go.Proofs.Ytcpmmkennnjalaa.Q
open Go.RowKit Go.Proofs.YtcpmmkennnjalaaW.PrintWords Go.Proofs.YtcpmmkennnjalaaW.PrintLast Go.Proofs.YtcpmmkennnjalaaW.PrintMore
set_option linter.unusedVariables false
set_option linter.unusedSectionVars false
set_option linter.unusedSimpArgs false
/-! ### the top's own functions -/
section
variable {rows : List (List Int)} {n m : Nat} (V : VA rows n m)
include V
theorem topLead_loop {w : List Nat} (hw : Wd m w) (hl : w.length ≤ 1000000) : ∀ (d i s : Nat), i + d = w.length → s < n → Ev (fun k => mizmazetop_lead.l0 k (s : Int) (toI w) (i : Int) rows) ((run (nx rows) s (w.drop i) : Nat) : Int)
  | 0, i, s, hi, hs => by
    rw [List.drop_eq_nil_of_le (by omega)]
    exact Ev.step (f := fun _ => some (s : Int)) (fun k => by rw [mizmazetop_lead.l0, if_neg (by rw [toI_len]; omega)]) (Ev.ret rfl)
  | d + 1, i, s, hi, hs => by
    have hlen := V.len
    have hil : i < w.length := by omega
    have hx : w[i] < m := hw _ (List.getElem_mem hil)
    have hrd : rd (toI w) (i : Int) = ((w[i] : Nat) : Int) := by
      rw [rdE (by rw [toI_len]; exact hil)]; simp [toI]
    have ih := topLead_loop hw hl d (i + 1) (nx rows s w[i]) (by omega) (V.nxLt hs hx)
    have e1 : w.drop i = w[i] :: w.drop (i + 1) := List.drop_eq_getElem_cons hil
    rw [e1]
    refine Ev.step (fun k => ?_) ih
    rw [mizmazetop_lead.l0, if_pos (by rw [toI_len]; omega), if_pos (by omega), if_pos (by omega), if_pos (by omega), hrd, if_pos (by omega), if_pos (by rw [V.row s hs]; omega), V.nxE hs hx, wrapS (by omega)]
theorem topLead_ev {w : List Nat} (hw : Wd m w) (hl : w.length ≤ 1000000) {s : Nat} (hs : s < n) : Ev (fun k => mizmazetop_lead.f k rows (s : Int) (toI w)) ((run (nx rows) s w : Nat) : Int) := by
  simpa [mizmazetop_lead.f] using topLead_loop V hw hl w.length 0 s (by omega) hs
theorem topRight_ev {w : List Nat} (hw : Wd m w) (hl : w.length ≤ 40000) : Ev (fun k => mizmazetop_right.f k rows (toI w)) true := by
  have hlen := V.len
  have hn0 := V.n0
  have hr0 : (rd_L1 rows 0).length = m := V.row 0 V.n0
  have key : ∀ (e i : Nat), i + e = w.length → Ev (fun k => mizmazetop_right.l0 k (toI w) (i : Int) rows) true := by
    intro e
    induction e with
    | zero =>
      intro i hi
      exact Ev.step (f := fun _ => some (decide (((toI w).length : Int) ≤ 40000))) (fun k => by rw [mizmazetop_right.l0, if_neg (by rw [toI_len]; omega)]) (Ev.ret (decide_eq_true (by rw [toI_len]; omega)))
    | succ e ih =>
      intro i hi
      have hil : i < w.length := by omega
      have hx : w[i] < m := hw _ (List.getElem_mem hil)
      have hrd : rd (toI w) (i : Int) = ((w[i] : Nat) : Int) := by
        rw [rdE (by rw [toI_len]; exact hil)]; simp [toI]
      exact Ev.step (fun k => by rw [mizmazetop_right.l0, if_pos (by rw [toI_len]; omega), if_pos (by omega), hrd, if_neg (by omega), if_pos (by omega), if_neg (by omega), wrapS (by omega)]) (ih (i + 1) (by omega))
  exact key w.length 0 (by omega)
end
theorem topValid_ev (rows : List (List Int)) : Ev (fun k => mizmazetop_valid.f k rows) (validB rows) := by
  have big : Ev (fun k => mizmazetop_valid.j0 k true rows) false := by
    refine Ev.next ?_; simp only [mizmazetop_valid.j0, if_true]; exact Ev.now _
  have bad2 : ∀ x i, Ev (fun k => mizmazetop_valid.j2 k x i true rows) false := fun x i => by
    refine Ev.next ?_; simp only [mizmazetop_valid.j2, if_true]; exact Ev.now _
  unfold mizmazetop_valid.f
  by_cases h1 : rows.length = 0
  · have e : validB rows = false := by rw [Bool.eq_false_iff]; intro h; have := (validB_iff.1 h).n0; omega
    rw [e]; simp only [if_pos (by omega : (rows.length : Int) < 1)]; exact big
  simp only [if_neg (by omega : ¬ (rows.length : Int) < 1)]
  by_cases h2 : rows.length > 60
  · have e : validB rows = false := by rw [Bool.eq_false_iff]; intro h; have := (validB_iff.1 h).n60; omega
    rw [e]; simp only [decide_eq_true (by omega : (rows.length : Int) > 60)]; exact big
  simp only [decide_eq_false (by omega : ¬ (rows.length : Int) > 60)]
  refine Ev.next ?_
  simp only [mizmazetop_valid.j0, Bool.false_eq_true, if_false, if_pos (by omega : 0 < (rows.length : Int))]
  generalize hk : (rd_L1 rows 0).length = m
  by_cases h3 : m < 1 ∨ 6 < m
  · have e : validB rows = false := by
      rw [Bool.eq_false_iff]; intro h
      have := (validB_iff.1 h).m0; have := (validB_iff.1 h).m6; omega
    rw [e]
    refine Ev.next ?_
    simp only [mizmazetop_valid.l0, if_pos (by omega : (0 : Int) < (rows.length : Int)), if_pos (show (0 : Int) ≤ 0 by omega), hk, if_true]
    by_cases h4 : m < 1
    · simp only [if_pos (by omega : (m : Int) < 1)]; exact bad2 _ _
    · simp only [if_neg (by omega : ¬ (m : Int) < 1), decide_eq_true (by omega : (m : Int) > 6)]; exact bad2 _ _
  refine @Ev.every Bool (fun k i => mizmazetop_valid.l0 k (m : Int) (i : Int) rows) rows.length true false _ (fun i => !badB m rows.length (rd_L1 rows (i : Int))) ?_ ?_ ?_ ?_ ?_
  · intro h
    unfold validB kOf
    rw [hk, decide_eq_true (by omega), Bool.true_and, Bool.not_eq_true', any_bad]; exact fun i hi => by simpa using h i hi
  · intro i hi hp
    rw [Bool.eq_false_iff]
    intro h; unfold validB kOf at h
    rw [Bool.and_eq_true, Bool.not_eq_true', any_bad, hk] at h
    have := h.2 i hi
    rw [this] at hp; exact Bool.noConfusion hp
  · intro i hi hp hr
    simp only [badB, Bool.not_or, Bool.and_eq_true, Bool.not_eq_true', decide_eq_false_iff_not, Classical.not_not, Bool.not_not] at hp
    obtain ⟨hp1, hp2⟩ := hp
    have hin := hp2
    unfold inB at hin
    rw [List.all_eq_true] at hin
    refine Ev.step (f := fun k => mizmazetop_valid.j2 k (m : Int) (i : Int) false rows) (fun k => by rw [mizmazetop_valid.l0, if_pos (by omega), if_pos (by omega), if_pos hp1, if_neg (by omega), decide_eq_false (by omega)]) ?_
    have inner : ∀ (e d : Nat), d + e = m → Ev (fun k => mizmazetop_valid.l1 k (m : Int) (i : Int) (d : Int) rows) (validB rows) := by
      intro e
      induction e with
      | zero =>
        intro d hd
        exact Ev.step (fun k => by rw [mizmazetop_valid.l1, if_neg (by omega), wrapS (by omega)]) hr
      | succ e ih =>
        intro d hd
        have hdl : d < (rd_L1 rows (i : Int)).length := by omega
        have hmem := of_decide_eq_true (hin _ (List.getElem_mem hdl))
        have hrd : rd (rd_L1 rows (i : Int)) (d : Int) = (rd_L1 rows (i : Int))[d] := rdE hdl
        exact Ev.step (fun k => by rw [mizmazetop_valid.l1, if_pos (by omega), if_pos (by omega), if_pos (by omega), if_pos (by omega), if_pos (by omega), hrd, if_neg (by omega), if_neg (by omega), wrapS (by omega)]) (ih (d + 1) (by omega))
    exact Ev.step (fun k => by rw [mizmazetop_valid.j2, if_neg (by simp)]; rfl) (inner m 0 (by omega))
  · intro i hi hp
    by_cases h5 : ((rd_L1 rows (i : Int)).length : Int) = (m : Int)
    · have hin : inB rows.length (rd_L1 rows (i : Int)) = false := by
        simp only [badB, Bool.not_or, Bool.and_eq_false_iff, Bool.not_eq_false', decide_eq_true_eq, Bool.not_not] at hp
        rcases hp with h | h
        · exact absurd h5 h
        · exact h
      refine Ev.step (f := fun k => mizmazetop_valid.j2 k (m : Int) (i : Int) false rows) (fun k => by rw [mizmazetop_valid.l0, if_pos (by omega), if_pos (by omega), if_pos h5, if_neg (by omega), decide_eq_false (by omega)]) ?_
      have inner : ∀ (e d : Nat), d + e = m → (∀ j (hj : j < (rd_L1 rows (i : Int)).length), j < d → 0 ≤ (rd_L1 rows (i : Int))[j] ∧ (rd_L1 rows (i : Int))[j] < (rows.length : Int)) → Ev (fun k => mizmazetop_valid.l1 k (m : Int) (i : Int) (d : Int) rows) false := by
        intro e
        induction e with
        | zero =>
          intro d hd hj
          exfalso
          have : inB rows.length (rd_L1 rows (i : Int)) = true := by
            unfold inB
            rw [List.all_eq_true]
            intro z hz
            obtain ⟨j, hj1, rfl⟩ := List.getElem_of_mem hz
            exact decide_eq_true (hj j hj1 (by omega))
          rw [this] at hin; cases hin
        | succ e ih =>
          intro d hd hj
          have hdl : d < (rd_L1 rows (i : Int)).length := by omega
          have hrd : rd (rd_L1 rows (i : Int)) (d : Int) = (rd_L1 rows (i : Int))[d] := rdE hdl
          by_cases h6 : (rd_L1 rows (i : Int))[d] < 0
          · exact Ev.step (f := fun _ => some false) (fun k => by rw [mizmazetop_valid.l1, if_pos (by omega), if_pos (by omega), if_pos (by omega), if_pos (by omega), if_pos (by omega), hrd, if_pos h6]) (Ev.now _)
          · by_cases h7 : (rd_L1 rows (i : Int))[d] ≥ (rows.length : Int)
            · exact Ev.step (f := fun _ => some false) (fun k => by rw [mizmazetop_valid.l1, if_pos (by omega), if_pos (by omega), if_pos (by omega), if_pos (by omega), if_pos (by omega), hrd, if_neg h6, if_pos h7]) (Ev.now _)
            · refine Ev.step (fun k => by rw [mizmazetop_valid.l1, if_pos (by omega), if_pos (by omega), if_pos (by omega), if_pos (by omega), if_pos (by omega), hrd, if_neg h6, if_neg h7, wrapS (by omega)]) (ih (d + 1) (by omega) fun j hj1 hj2 => ?_)
              rcases Nat.lt_or_ge j d with h8 | h8
              · exact hj j hj1 h8
              · obtain rfl : j = d := by omega
                omega
      exact Ev.step (fun k => by rw [mizmazetop_valid.j2, if_neg (by simp)]; rfl) (inner m 0 (by omega) fun j _ h => by omega)
    · exact Ev.step (f := fun k => mizmazetop_valid.j2 k (m : Int) (i : Int) true rows) (fun k => by rw [mizmazetop_valid.l0, if_pos (by omega), if_pos (by omega), if_neg h5]) (bad2 _ _)
  · exact Ev.step (f := fun _ => some true) (fun k => by rw [mizmazetop_valid.l0, if_neg (by omega)]) (Ev.now _)
end Go.Proofs.Ytcpmmkennnjalaa.Q
end
section
namespace Go.Proofs.Ytcpmmkennnjalaa.Q
open Go.RowKit Go.Proofs.YtcpmmkennnjalaaW.PrintWords Go.Proofs.YtcpmmkennnjalaaW.PrintLast Go.Proofs.YtcpmmkennnjalaaW.PrintMore
set_option linter.unusedVariables false
set_option linter.unusedSectionVars false
set_option linter.unusedSimpArgs false
theorem VA.of' {rows : List (List Int)} (h : validB rows = true) : VA rows rows.length (rd_L1 rows 0).length := validB_iff.1 h
/-! ### the pairs that no word merges -/
section
variable {rows : List (List Int)} {n m : Nat} (V : VA rows n m)
include V
end
end Go.Proofs.Ytcpmmkennnjalaa.Q
end
