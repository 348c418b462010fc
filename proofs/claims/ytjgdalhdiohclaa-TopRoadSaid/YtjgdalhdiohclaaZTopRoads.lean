/- Part of the proof of TopRoad (text 19 of 33) -/
import Derived.Test.YtjgdalhdiohclaaZTopRoadi
import Derived.Test.YtjgdalhdiohclaaZTopRoadr
set_option linter.unusedVariables false
set_option linter.unusedSimpArgs false
set_option linter.unusedSectionVars false
open Go.RowKit Go.Proofs.YtjgdalhdiohclaaW.PrintWords Go.Proofs.YtjgdalhdiohclaaW.PrintLast Go.Proofs.YtjgdalhdiohclaaW.PrintMore
section
namespace Go.Proofs.Ytjgdalhdiohclaa.Q
section
variable {rows : List (List Int)} {n m : Nat} (V : VA rows n m)
include V
theorem MDist.small {p q d : Nat} (hp : p < n) (hq : q < n) (h : MDist (nx rows) m p q d) : d < 3600 := by
 have := h.lt (fun s x => V.nxLt) hp hq
 have := Nat.mul_le_mul V.n60 V.n60
 omega
def LeftOk (f : Nat → Nat → Nat) (m n : Nat) (left : List ((Int × Int) × Int)) : Prop := ∀ p q : Nat, p ≤ q → q < n → (∃ d : Nat, lkP ((p : Int), (q : Int)) left = some (d : Int) ∧ MDist f m p q d) ∨ (lkP ((p : Int), (q : Int)) left = none ∧ ¬ Mg f m p q)
omit V in
theorem of_nat (a b : Nat) : reset_of.f (a : Int) (b : Int) = some (((min a b : Nat) : Int), ((max a b : Nat) : Int)) := by
 unfold reset_of.f mn mx
 rcases Nat.lt_or_ge a b with h | h
 ·rw [Nat.min_eq_left (by omega), Nat.max_eq_right (by omega)]
  congr 2 <;> (split <;> omega)
 ·rw [Nat.min_eq_right (by omega), Nat.max_eq_left (by omega)]
  congr 2 <;> (split <;> omega)
omit V in
theorem MDist.srt {f : Nat → Nat → Nat} {m a b d : Nat} : MDist f m (min a b) (max a b) d ↔ MDist f m a b d := by
 rcases Nat.lt_or_ge a b with h | h
 ·rw [Nat.min_eq_left (by omega), Nat.max_eq_right (by omega)]
 ·rw [Nat.min_eq_right (by omega), Nat.max_eq_left (by omega)]; exact ⟨MDist.symm, MDist.symm⟩
omit V in
omit V in
theorem LM.srt {f : Nat → Nat → Nat} {m a b : Nat} {w : List Nat} : LM f m (min a b) (max a b) w ↔ LM f m a b w := by
 rcases Nat.lt_or_ge a b with h | h
 ·rw [Nat.min_eq_left (by omega), Nat.max_eq_right (by omega)]
 ·rw [Nat.min_eq_right (by omega), Nat.max_eq_left (by omega)]; exact ⟨LM.symm, LM.symm⟩
omit V in
theorem LeftOk.val {f : Nat → Nat → Nat} {m n p q d : Nat} {left : List ((Int × Int) × Int)} (L : LeftOk f m n left) (hpq : p ≤ q) (hq : q < n) (hd : MDist f m p q d) : lkP ((p : Int), (q : Int)) left = some (d : Int) := by
 rcases L p q hpq hq with ⟨e, h1, h2⟩ | ⟨_, h2⟩
 ·rw [hd.uniq h2]; exact h1
 ·exact absurd hd.mg h2
theorem merger_word_loop {left : List ((Int × Int) × Int)} (L : LeftOk (nx rows) m n left) : ∀ (d p q : Nat) (out : List Int), p ≤ q → q < n → out.length + d ≤ 1000000 → MDist (nx rows) m p q d → ∃ w, LM (nx rows) m p q w ∧ Ev (fun k => merger_word.l0 k rows left (p : Int) (q : Int) out) (out ++ toI w, true) := by
 have hn60 := V.n60
 have hm6 := V.m6
 have hm0 := V.m0
 have hlet : ((rd_L1 rows 0).length : Int) = (m : Int) := by
  have := V.row 0 V.n0
  rw [← this]; rfl
 intro d
 induction d with
 | zero =>
  intro p q out hpq hq ho hd
  have hv := L.val hpq hq hd
  obtain rfl := hd.eq0
  refine ⟨[], LM.refl _ _ _, Ev.step (f := fun _ => some (out, true)) (fun k => ?_) (Ev.ret (by simp [toI]))⟩
  rw [merger_word.l0, if_pos (by rw [V.len]; exact decide_eq_true (by omega)), hv, if_neg (by simp)]
 | succ d ih =>
  intro p q out hpq hq ho hd
  have hp : p < n := by omega
  have hv := L.val hpq hq hd
  obtain ⟨hne, ⟨x0, hx0, hd0⟩, hlow⟩ := hd.pred
  have loop : ∀ (e x : Nat), x + e = m → (∀ y, y < x → ¬ MDist (nx rows) m (nx rows p y) (nx rows q y) d) → ∃ w, LM (nx rows) m p q w ∧ Ev (fun k => merger_word.l1 k rows left (p : Int) (q : Int) out (x : Int)) (out ++ toI w, true) := by
   intro e
   induction e with
   | zero =>
    intro x hx hy
    exact absurd hd0 (hy x0 (by omega))
   | succ e ihe =>
    intro x hx hy
    have hxm : x < m := by omega
    have ha := V.nxLt hp hxm
    have hb := V.nxLt hq hxm
    have hmm : min (nx rows p x) (nx rows q x) ≤ max (nx rows p x) (nx rows q x) := by omega
    have hmx : max (nx rows p x) (nx rows q x) < n := by omega
    have hmn : min (nx rows p x) (nx rows q x) < n := by omega
    have hj : ∀ k, merger_word.l1 (k + 1) rows left (p : Int) (q : Int) out (x : Int) = if lkP (((min (nx rows p x) (nx rows q x) : Nat) : Int), ((max (nx rows p x) (nx rows q x) : Nat) : Int)) left = some (d : Int) then merger_word.l0 k rows left ((min (nx rows p x) (nx rows q x) : Nat) : Int) ((max (nx rows p x) (nx rows q x) : Nat) : Int) (out ++ [(x : Int)]) else merger_word.l1 k rows left (p : Int) (q : Int) out ((x + 1 : Nat) : Int) := by
     intro k
     rw [merger_word.l1, hlet, if_pos (by omega), if_pos (by omega), if_pos (by rw [V.row p hp]; omega), if_pos (by rw [V.row q hq]; omega), V.nxE hp hxm, V.nxE hq hxm, of_nat, Option.bind_some]
     simp only
     rw [if_pos (by rw [V.len]; exact decide_eq_true (by omega)), hv, Option.getD_some, wrapI (by omega) (by omega), show (((d + 1 : Nat) : Int) - 1) = (d : Int) by omega, wrapS (by omega)]
     cases hlk : lkP (((min (nx rows p x) (nx rows q x) : Nat) : Int), ((max (nx rows p x) (nx rows q x) : Nat) : Int)) left with
     | none => simp
     | some z =>
      simp only [Option.isSome_some, if_true, Option.getD_some, Option.some.injEq]
      by_cases hz : z = (d : Int)
      ·rw [if_pos hz, if_pos hz, if_pos (by omega)]
      ·rw [if_neg hz, if_neg hz]
    by_cases ht : lkP (((min (nx rows p x) (nx rows q x) : Nat) : Int), ((max (nx rows p x) (nx rows q x) : Nat) : Int)) left = some (d : Int)
    ·have hdx : MDist (nx rows) m (min (nx rows p x) (nx rows q x)) (max (nx rows p x) (nx rows q x)) d := by
      rcases L _ _ hmm hmx with ⟨e', h1, h2⟩ | ⟨h1, _⟩
      ·rw [h1] at ht
       have e2 : e' = d := by have := Option.some.inj ht; omega
       exact e2 ▸ h2
      ·rw [h1] at ht; cases ht
     obtain ⟨w, hw, hev⟩ := ih _ _ (out ++ [(x : Int)]) hmm hmx (by simp; omega) hdx
     refine ⟨x :: w, LM.cons hm0 hd hxm hy (LM.srt.1 hw) ((hw.dist hm0).uniq hdx), Ev.step (fun k => by rw [hj, if_pos ht]) (Ev.eq hev ?_)⟩
     simp [toI]
    ·obtain ⟨w, hw, hev⟩ := ihe (x + 1) (by omega) fun y hy2 hyd => by
      rcases Nat.lt_or_ge y x with h3 | h3
      ·exact hy y h3 hyd
      ·obtain rfl : y = x := by omega
       exact ht (L.val hmm hmx (MDist.srt.2 hyd))
     exact ⟨w, hw, Ev.step (fun k => by rw [hj, if_neg ht]) hev⟩
  obtain ⟨w, hw, hev⟩ := loop m 0 (by omega) fun y hy => by omega
  refine ⟨w, hw, Ev.step (fun k => ?_) hev⟩
  rw [merger_word.l0, if_pos (by rw [V.len]; exact decide_eq_true (by omega)), hv, Option.getD_some, if_pos (by omega)]; rfl
theorem merger_word_ev {left : List ((Int × Int) × Int)} (L : LeftOk (nx rows) m n left) {p q : Nat} (hpq : p ≤ q) (hq : q < n) : (∃ w, LM (nx rows) m p q w ∧ Ev (fun k => merger_word.f k rows left (p : Int) (q : Int)) (toI w, true)) ∨ (¬ Mg (nx rows) m p q ∧ Ev (fun k => merger_word.f k rows left (p : Int) (q : Int)) ([], false)) := by
 have hn60 := V.n60
 have open_ : ∀ k, merger_word.f k rows left (p : Int) (q : Int) = if (lkP ((p : Int), (q : Int)) left).isSome = true then merger_word.l0 k rows left (p : Int) (q : Int) [] else some ([], false) := fun k => by
  rw [merger_word.f, if_pos (by rw [V.len]; exact decide_eq_true (by omega))]
 rcases L p q hpq hq with ⟨d, h1, h2⟩ | ⟨h1, h2⟩
 ·have := MDist.small V (by omega) hq h2
  obtain ⟨w, hw, hev⟩ := merger_word_loop V L d p q [] hpq hq (by simp; omega) h2
  exact Or.inl ⟨w, hw, Ev.congr (fun k => by rw [open_, h1, if_pos (by rfl)]) hev⟩
 ·exact Or.inr ⟨h2, Ev.congr (fun k => by rw [open_, h1, if_neg (by simp)]) (Ev.now _)⟩
end
end Go.Proofs.Ytjgdalhdiohclaa.Q
end
section
namespace Go.Proofs.Ytjgdalhdiohclaa.Q
abbrev Ent2 := (Nat × Nat) × Nat
def pI (c : Nat × Nat) : Int × Int := ((c.1 : Int), (c.2 : Int))
theorem pI_inj {a b : Nat × Nat} (h : pI a = pI b) : a = b := by
 obtain ⟨a1, a2⟩ := a; obtain ⟨b1, b2⟩ := b
 simp only [pI, Prod.mk.injEq] at h ⊢; omega
def lq (Q : List Ent2) : List ((Int × Int) × Int) := Q.map fun e => (pI e.1, (e.2 : Int))
def ql (Q : List Ent2) : List (Int × Int) := Q.map fun e => pI e.1
theorem lkP_cons (c k : Int × Int) (d : Int) (l : List ((Int × Int) × Int)) : lkP c ((k, d) :: l) = if c = k then some d else lkP c l := by
 unfold lkP
 by_cases h : c = k
 ·subst h; simp [List.lookup_cons]
 ·rw [if_neg h]
  have hb : @BEq.beq (Int × Int) instBEqOfDecidableEq c k = false := decide_eq_false h
  show (match @BEq.beq (Int × Int) instBEqOfDecidableEq c k with | true => some d | false => _) = _
  rw [hb]
theorem lkP_none {c : Nat × Nat} : ∀ {Q : List Ent2}, (∀ e ∈ Q, e.1 ≠ c) → lkP (pI c) (lq Q) = none
 | [], _ => rfl
 | e :: Q, h => by
  show lkP (pI c) ((pI e.1, (e.2 : Int)) :: lq Q) = none
  rw [lkP_cons, if_neg fun he => h e List.mem_cons_self (pI_inj he).symm]
  exact lkP_none fun a ha => h a (List.mem_cons_of_mem _ ha)
theorem lkP_some : ∀ {Q : List Ent2}, (Q.map (·.1)).Nodup → ∀ e ∈ Q, lkP (pI e.1) (lq Q) = some (e.2 : Int)
 | [], _, e, h => nomatch h
 | a :: Q, hn, e, h => by
  show lkP (pI e.1) ((pI a.1, (a.2 : Int)) :: lq Q) = _
  rw [lkP_cons]
  rw [List.map_cons, List.nodup_cons] at hn
  rcases List.mem_cons.1 h with rfl | h
  ·rw [if_pos rfl]
  ·rw [if_neg fun he => hn.1 (by rw [← pI_inj he]; exact List.mem_map.2 ⟨e, h, rfl⟩)]
   exact lkP_some hn.2 e h
theorem putL_new {c : Nat × Nat} {d : Nat} {Q : List Ent2} (h : ∀ e ∈ Q, e.1 ≠ c) : putL (pI c) (d : Int) (lq Q) = lq (Q ++ [(c, d)]) := by
 unfold putL
 rw [lkP_none h]; simp [lq]
theorem ql_len (Q : List Ent2) : (ql Q).length = Q.length := by simp [ql]
theorem ql_at {Q : List Ent2} {i : Nat} {e : Ent2} (h : Q[i]? = some e) : rdP (ql Q) (i : Int) = pI e.1 := by
 unfold rdP ql
 rw [List.getD_eq_getElem?_getD, Int.toNat_natCast, List.getElem?_map, h]; rfl
theorem lkB_cons (c k : Int × Int) (l : List (Int × Int)) (B : List ((Int × Int) × List (Int × Int))) : lkB c ((k, l) :: B) = if c = k then some l else lkB c B := by
 unfold lkB
 by_cases h : c = k
 ·subst h; simp [List.lookup_cons]
 ·rw [if_neg h]
  have hb : @BEq.beq (Int × Int) instBEqOfDecidableEq c k = false := decide_eq_false h
  show (match @BEq.beq (Int × Int) instBEqOfDecidableEq c k with | true => some l | false => _) = _
  rw [hb]
theorem lkB_map (c x : Int × Int) (c' : Int × Int) : ∀ B : List ((Int × Int) × List (Int × Int)), lkB c' (B.map fun e => if e.1 = c then (c, e.2 ++ [x]) else e) = if c' = c then (lkB c' B).map (· ++ [x]) else lkB c' B
 | [] => by simp [lkB]
 | (k, l) :: B => by
  have ih := lkB_map c x c' B
  rw [List.map_cons]
  by_cases hk : k = c
  ·subst hk
   rw [if_pos rfl, lkB_cons, lkB_cons, ih]
   by_cases h : c' = k
   ·simp [h]
   ·simp [h]
  ·rw [if_neg hk, lkB_cons, lkB_cons, ih]
   by_cases h : c' = k
   ·subst h; simp [hk]
   ·simp [h]
theorem lkB_snoc (c c' : Int × Int) (l : List (Int × Int)) : ∀ B : List ((Int × Int) × List (Int × Int)), lkB c' (B ++ [(c, l)]) = (lkB c' B).or (if c' = c then some l else none)
 | [] => by
  rw [List.nil_append, lkB_cons]
  rfl
 | (k, l') :: B => by
  rw [List.cons_append, lkB_cons, lkB_cons, lkB_snoc c c' l B]
  by_cases h : c' = k
  ·simp [h]
  ·simp [h]
theorem addB_get (c x c' : Int × Int) (B : List ((Int × Int) × List (Int × Int))) : (lkB c' (addB c x B)).getD [] = if c' = c then (lkB c B).getD [] ++ [x] else (lkB c' B).getD [] := by
 unfold addB
 cases hc : lkB c B with
 | none =>
  simp only [Option.isSome_none, Bool.false_eq_true, if_false]
  rw [lkB_snoc]
  by_cases h : c' = c
  ·subst h; simp [hc]
  ·simp [h]
 | some l =>
  simp only [Option.isSome_some, if_true]
  rw [lkB_map]
  by_cases h : c' = c
  ·subst h; simp [hc]
  ·simp [h]
def srt (a b : Nat) : Nat × Nat := (min a b, max a b)
theorem of_srt (a b : Nat) : reset_of.f (a : Int) (b : Int) = some (pI (srt a b)) := of_nat a b
structure BefOk (f : Nat → Nat → Nat) (P : Nat → Nat → Nat → Prop) (bf : List ((Int × Int) × List (Int × Int))) (N : Nat) : Prop where
 mem : ∀ c z, z ∈ (lkB c bf).getD [] ↔ ∃ p q x : Nat, P p q x ∧ z = pI (p, q) ∧ c = pI (srt (f p x) (f q x))
 len : ∀ c, ((lkB c bf).getD []).length ≤ N
theorem BefOk.imp {f : Nat → Nat → Nat} {P P' : Nat → Nat → Nat → Prop} {bf : List ((Int × Int) × List (Int × Int))} {N N' : Nat} (h : BefOk f P bf N) (e : ∀ p q x, P p q x ↔ P' p q x) (hN : N ≤ N') : BefOk f P' bf N' :=
 ⟨fun c z => (h.mem c z).trans ⟨fun ⟨p, q, x, h1, h2⟩ => ⟨p, q, x, (e p q x).1 h1, h2⟩, fun ⟨p, q, x, h1, h2⟩ => ⟨p, q, x, (e p q x).2 h1, h2⟩⟩, fun c => Nat.le_trans (h.len c) hN⟩
theorem BefOk.add {f : Nat → Nat → Nat} {P : Nat → Nat → Nat → Prop} {bf : List ((Int × Int) × List (Int × Int))} {N : Nat} (h : BefOk f P bf N) (p q x : Nat) : BefOk f (fun a b y => P a b y ∨ a = p ∧ b = q ∧ y = x) (addB (pI (srt (f p x) (f q x))) (pI (p, q)) bf) (N + 1) := by
 refine ⟨fun c z => ?_, fun c => ?_⟩
 ·rw [addB_get]
  by_cases hc : c = pI (srt (f p x) (f q x))
  ·rw [if_pos hc, List.mem_append, List.mem_singleton, h.mem]
   constructor
   ·rintro (⟨a, b, y, h1, h2, h3⟩ | h1)
    ·exact ⟨a, b, y, Or.inl h1, h2, hc.trans h3⟩
    ·exact ⟨p, q, x, Or.inr ⟨rfl, rfl, rfl⟩, h1, hc⟩
   ·rintro ⟨a, b, y, h1 | ⟨rfl, rfl, rfl⟩, h2, h3⟩
    ·exact Or.inl ⟨a, b, y, h1, h2, hc.symm.trans h3⟩
    ·exact Or.inr h2
  ·rw [if_neg hc, h.mem]
   constructor
   ·rintro ⟨a, b, y, h1, h2, h3⟩; exact ⟨a, b, y, Or.inl h1, h2, h3⟩
   ·rintro ⟨a, b, y, h1 | ⟨rfl, rfl, rfl⟩, h2, h3⟩
    ·exact ⟨a, b, y, h1, h2, h3⟩
    ·exact absurd h3 hc
 ·rw [addB_get]
  split
  ·have := h.len (pI (srt (f p x) (f q x)))
   simp; omega
  ·have := h.len c; omega
def diagQ (p : Nat) : List Ent2 := (List.range p).map fun i => ((i, i), 0)
theorem diagQ_succ (p : Nat) : diagQ (p + 1) = diagQ p ++ [((p, p), 0)] := by simp [diagQ, List.range_succ]
theorem diagQ_new (p : Nat) : ∀ e ∈ diagQ p, e.1 ≠ (p, p) := by
 intro e he
 obtain ⟨i, hi, rfl⟩ := List.mem_map.1 he
 have := List.mem_range.1 hi
 simp only [ne_eq, Prod.mk.injEq]; omega
theorem ql_snoc (Q : List Ent2) (c : Nat × Nat) (d : Nat) : ql (Q ++ [(c, d)]) = ql Q ++ [pI c] := by simp [ql]
def doneP (n m p q x : Nat) (a b y : Nat) : Prop := a < b ∧ b < n ∧ y < m ∧ (a < p ∨ a = p ∧ (b < q ∨ b = q ∧ y < x))
section
variable {rows : List (List Int)} {n m : Nat} (V : VA rows n m)
include V
theorem let0 : ((rd_L1 rows 0).length : Int) = (m : Int) := by
 have := V.row 0 V.n0
 rw [← this]; rfl
theorem nm_l2 {p q : Nat} (hpq : p < q) (hq : q < n) : ∀ (e x : Nat) (bf : List ((Int × Int) × List (Int × Int))) (N : Nat), x + e = m → N + e ≤ 1000000 → BefOk (nx rows) (doneP n m p q x) bf N →
  ∃ bf', BefOk (nx rows) (doneP n m p (q + 1) 0) bf' (N + e) ∧ ∀ res, Ev (fun k => newMerger.l1 k rows (lq (diagQ (p + 1))) bf' (ql (diagQ (p + 1))) (p : Int) ((q + 1 : Nat) : Int)) res → Ev (fun k => newMerger.l2 k rows (lq (diagQ (p + 1))) bf (ql (diagQ (p + 1))) (p : Int) (q : Int) (x : Int)) res := by
 have hn60 := V.n60
 have hm6 := V.m6
 intro e
 induction e with
 | zero =>
  intro x bf N hx hN h
  obtain rfl : x = m := by omega
  refine ⟨bf, h.imp (fun a b y => by unfold doneP; omega) (by omega), fun res hres => Ev.step (fun k => ?_) hres⟩
  rw [newMerger.l2, let0 V, if_neg (by omega), wrapS (by omega)]
 | succ e ih =>
  intro x bf N hx hN h
  have hxm : x < m := by omega
  have hp : p < n := by omega
  have ha := V.nxLt hp hxm
  have hb := V.nxLt hq hxm
  obtain ⟨bf', h1, h2⟩ := ih (x + 1) _ (N + 1) (by omega) (by omega) ((h.add p q x).imp (fun a b y => by unfold doneP; omega) (Nat.le_refl _))
  refine ⟨bf', h1.imp (fun _ _ _ => Iff.rfl) (by omega), fun res hres => Ev.step (fun k => ?_) (h2 res hres)⟩
  have hl := h.len (pI (srt (nx rows p x) (nx rows q x)))
  rw [newMerger.l2, let0 V, if_pos (by omega), if_pos (by omega), if_pos (by rw [V.len]; exact decide_eq_true (by omega)), if_pos (by rw [V.row p hp]; omega), if_pos (by rw [V.row q hq]; omega), V.nxE hp hxm, V.nxE hq hxm, of_srt, Option.bind_some,
   if_pos (by rw [V.len]; unfold pI srt; exact decide_eq_true (by simp only; omega)), if_pos (by omega), wrapS (by omega)]
  rfl
theorem nm_l1 {p : Nat} (hp : p < n) : ∀ (e q : Nat) (bf : List ((Int × Int) × List (Int × Int))) (N : Nat), q + e = n → p < q → N + 6 * e ≤ 900000 → BefOk (nx rows) (doneP n m p q 0) bf N →
  ∃ bf', BefOk (nx rows) (doneP n m (p + 1) 0 0) bf' (N + 6 * e) ∧ ∀ res, Ev (fun k => newMerger.l0 k rows (lq (diagQ (p + 1))) bf' (ql (diagQ (p + 1))) ((p + 1 : Nat) : Int)) res → Ev (fun k => newMerger.l1 k rows (lq (diagQ (p + 1))) bf (ql (diagQ (p + 1))) (p : Int) (q : Int)) res := by
 have hn60 := V.n60
 have hm6 := V.m6
 intro e
 induction e with
 | zero =>
  intro q bf N hq hpq hN h
  obtain rfl : q = n := by omega
  refine ⟨bf, h.imp (fun a b y => by unfold doneP; omega) (by omega), fun res hres => Ev.step (fun k => ?_) hres⟩
  rw [newMerger.l1, V.len, if_neg (by omega), wrapS (by omega)]
 | succ e ih =>
  intro q bf N hq hpq hN h
  obtain ⟨bf1, h1, h2⟩ := nm_l2 V hpq (by omega) m 0 bf N (by omega) (by omega) h
  obtain ⟨bf2, h3, h4⟩ := ih (q + 1) bf1 (N + 6) (by omega) (by omega) (by omega) (h1.imp (fun _ _ _ => Iff.rfl) (by omega))
  refine ⟨bf2, h3.imp (fun _ _ _ => Iff.rfl) (by omega), fun res hres => Ev.step (fun k => ?_) (h2 res (h4 res hres))⟩
  rw [newMerger.l1, V.len, if_pos (by omega)]; rfl
theorem nm_l0 : ∀ (e p : Nat) (bf : List ((Int × Int) × List (Int × Int))) (N : Nat), p + e = n → N + 360 * e ≤ 800000 → BefOk (nx rows) (doneP n m p 0 0) bf N →
  ∃ bf' N', N' ≤ 1000000 ∧ BefOk (nx rows) (doneP n m n 0 0) bf' N' ∧ ∀ res, Ev (fun k => newMerger.b0 k (lq (diagQ n)) bf' (ql (diagQ n)) ((0 : Nat) : Int)) res → Ev (fun k => newMerger.l0 k rows (lq (diagQ p)) bf (ql (diagQ p)) (p : Int)) res := by
 have hn60 := V.n60
 have hm6 := V.m6
 intro e
 induction e with
 | zero =>
  intro p bf N hp hN h
  obtain rfl : p = n := by omega
  refine ⟨bf, N, by omega, h, fun res hres => Ev.step (fun k => ?_) hres⟩
  rw [newMerger.l0, V.len, if_neg (by omega)]; rfl
 | succ e ih =>
  intro p bf N hp hN h
  obtain ⟨bf1, h1, h2⟩ := nm_l1 V (p := p) (by omega) (n - (p + 1)) (p + 1) bf N (by omega) (by omega) (by omega) (h.imp (fun a b y => by unfold doneP; omega) (Nat.le_refl _))
  obtain ⟨bf2, N2, h0, h3, h4⟩ := ih (p + 1) bf1 (N + 360) (by omega) (by omega) (h1.imp (fun _ _ _ => Iff.rfl) (by omega))
  refine ⟨bf2, N2, h0, h3, fun res hres => Ev.step (fun k => ?_) (h2 res (h4 res hres))⟩
  rw [newMerger.l0, V.len, if_pos (by omega), if_pos (show inP n (p : Int) (p : Int) = true from decide_eq_true (by omega)), if_pos (by rw [ql_len]; simp [diagQ]; omega), wrapS (by omega)]
  have e1 : putL ((p : Int), (p : Int)) 0 (lq (diagQ p)) = lq (diagQ (p + 1)) := by
   rw [diagQ_succ]; exact putL_new (c := (p, p)) (d := 0) (diagQ_new p)
  have e2 : ql (diagQ p) ++ [((p : Int), (p : Int))] = ql (diagQ (p + 1)) := by
   rw [diagQ_succ, ql_snoc]; rfl
  rw [e1, e2]
end
structure BQ (f : Nat → Nat → Nat) (m n : Nat) (Q : List Ent2) (i : Nat) : Prop where
 nd : (Q.map (·.1)).Nodup
 ok : ∀ e ∈ Q, e.1.1 ≤ e.1.2 ∧ e.1.2 < n ∧ MDist f m e.1.1 e.1.2 e.2
 diag : ∀ p, p < n → ((p, p), 0) ∈ Q
 mono : ∀ (j k : Nat) (a b : Ent2), j < k → Q[j]? = some a → Q[k]? = some b → a.2 ≤ b.2
 top : ∀ e : Ent2, Q[i]? = some e → ∀ a ∈ Q, a.2 ≤ e.2 + 1
 cl : ∀ (j : Nat) (e : Ent2), Q[j]? = some e → j < i → ∀ p q x, p < q → q < n → x < m → srt (f p x) (f q x) = e.1 → ∃ a ∈ Q, a.1 = (p, q)
section
variable {f : Nat → Nat → Nat} {m n i : Nat} {Q : List Ent2}
theorem BQ.len (B : BQ f m n Q i) : Q.length ≤ n * n := by
 have h1 : ((Q.map (·.1)).map fun c => c.1 * n + c.2).Nodup := by
  rw [List.nodup_iff_pairwise_ne] at *
  rw [List.pairwise_map]
  refine List.Pairwise.imp_of_mem ?_ (List.nodup_iff_pairwise_ne.1 B.nd)
  intro a b ha hb hne e
  obtain ⟨ea, hea, rfl⟩ := List.mem_map.1 ha
  obtain ⟨eb, heb, rfl⟩ := List.mem_map.1 hb
  obtain ⟨e1, e2⟩ := pair_eq (B.ok ea hea).2.1 (B.ok eb heb).2.1 e
  exact hne (Prod.ext e1 e2)
 have := nodup_le (n * n) _ h1 (by
  intro u hu
  obtain ⟨c, hc, rfl⟩ := List.mem_map.1 hu
  obtain ⟨e, he, rfl⟩ := List.mem_map.1 hc
  have := B.ok e he
  exact pair_lt (by omega) (by omega))
 simpa using this
theorem srt_mdist {a b d : Nat} {c : Nat × Nat} (h : srt a b = c) : MDist f m c.1 c.2 d ↔ MDist f m a b d := by
 rw [← h]; exact MDist.srt
theorem srt_lt {a b : Nat} (ha : a < n) (hb : b < n) : (srt a b).1 ≤ (srt a b).2 ∧ (srt a b).2 < n := by unfold srt; simp only; omega
theorem BQ.front (B : BQ f m n Q i) (hf : ∀ s x, s < n → x < m → f s x < n) {e : Ent2} (he : Q[i]? = some e) : ∀ (d p q : Nat), p ≤ q → q < n → MDist f m p q d → d < e.2 → ∃ (j : Nat) (a : Ent2), Q[j]? = some a ∧ j < i ∧ a.1 = (p, q) ∧ a.2 = d := by
 have back : ∀ a ∈ Q, a.2 < e.2 → ∃ j, Q[j]? = some a ∧ j < i := by
  intro a ha h
  obtain ⟨j, hj⟩ := List.mem_iff_getElem?.1 ha
  refine ⟨j, hj, ?_⟩
  rcases Nat.lt_trichotomy j i with h1 | h1 | h1
  ·exact h1
  ·subst h1; rw [he] at hj; obtain rfl := Option.some.inj hj; omega
  ·have := B.mono i j e a h1 he hj; omega
 intro d
 induction d with
 | zero =>
  intro p q hpq hq hd h0
  obtain rfl := hd.eq0
  obtain ⟨j, hj, hji⟩ := back _ (B.diag p hq) h0
  exact ⟨j, _, hj, hji, rfl, rfl⟩
 | succ d ih =>
  intro p q hpq hq hd h0
  obtain ⟨hne, ⟨x, hx, hdx⟩, _⟩ := hd.pred
  have hs := srt_lt (hf p x (by omega) hx) (hf q x hq hx)
  obtain ⟨j, a, hj, hji, ha1, ha2⟩ := ih _ _ hs.1 hs.2 ((srt_mdist rfl).2 hdx) (by omega)
  obtain ⟨b, hb, hb1⟩ := B.cl j a hj hji p q x (by omega) hq hx ha1.symm
  have hbd : b.2 = d + 1 := by
   have := (B.ok b hb).2.2
   rw [hb1] at this
   exact this.uniq hd
  obtain ⟨j', hj', hji'⟩ := back b hb (by omega)
  exact ⟨j', b, hj', hji', hb1, hbd⟩
theorem BQ.all (B : BQ f m n Q i) (hf : ∀ s x, s < n → x < m → f s x < n) (hi : Q.length ≤ i) : ∀ (d p q : Nat), p ≤ q → q < n → MDist f m p q d → ((p, q), d) ∈ Q := by
 intro d
 induction d with
 | zero =>
  intro p q hpq hq hd
  obtain rfl := hd.eq0
  exact B.diag p hq
 | succ d ih =>
  intro p q hpq hq hd
  obtain ⟨hne, ⟨x, hx, hdx⟩, _⟩ := hd.pred
  have hs := srt_lt (hf p x (by omega) hx) (hf q x hq hx)
  have hm := ih _ _ hs.1 hs.2 ((srt_mdist rfl).2 hdx)
  obtain ⟨j, hj⟩ := List.mem_iff_getElem?.1 hm
  have hjl := (List.getElem?_eq_some_iff.1 hj).1
  obtain ⟨b, hb, hb1⟩ := B.cl j _ hj (by omega) p q x (by omega) hq hx rfl
  have hbd : b.2 = d + 1 := by
   have := (B.ok b hb).2.2
   rw [hb1] at this
   exact this.uniq hd
  have : b = ((p, q), d + 1) := Prod.ext hb1 hbd
  exact this ▸ hb
theorem BQ.new (B : BQ f m n Q i) (hf : ∀ s x, s < n → x < m → f s x < n) {e : Ent2} (he : Q[i]? = some e) {p q x : Nat} (hpq : p < q) (hq : q < n) (hx : x < m) (hs : srt (f p x) (f q x) = e.1) (hn : ∀ a ∈ Q, a.1 ≠ (p, q)) : BQ f m n (Q ++ [((p, q), e.2 + 1)]) i := by
 have hi := (List.getElem?_eq_some_iff.1 he).1
 have hem := List.mem_of_getElem? he
 have hD : MDist f m p q (e.2 + 1) := by
  refine MDist.succ (by omega) hx ((srt_mdist hs).1 (B.ok e hem).2.2) fun y e' hy hd => ?_
  rcases Nat.lt_or_ge e' e.2 with h1 | h1
  ·have hsy := srt_lt (hf p y (by omega) hy) (hf q y hq hy)
   obtain ⟨j, a, hj, hji, ha1, ha2⟩ := B.front hf he e' _ _ hsy.1 hsy.2 ((srt_mdist rfl).2 hd) h1
   obtain ⟨b, hb, hb1⟩ := B.cl j a hj hji p q y hpq hq hy ha1.symm
   exact absurd hb1 (hn b hb)
  ·exact h1
 have ap : ∀ (j : Nat) (a : Ent2), (Q ++ [((p, q), e.2 + 1)])[j]? = some a → (Q[j]? = some a ∧ j < Q.length) ∨ (j = Q.length ∧ a = ((p, q), e.2 + 1)) := by
  intro j a h
  rcases Nat.lt_trichotomy j Q.length with h1 | h1 | h1
  ·rw [List.getElem?_append_left h1] at h; exact Or.inl ⟨h, h1⟩
  ·subst h1; rw [List.getElem?_append_right (Nat.le_refl _)] at h; simp at h; exact Or.inr ⟨rfl, h.symm⟩
  ·rw [List.getElem?_eq_none (by rw [List.length_append]; simp; omega)] at h; exact absurd h (by simp)
 refine ⟨?_, ?_, fun p hp => List.mem_append_left _ (B.diag p hp), ?_, ?_, ?_⟩
 ·rw [List.map_append, List.nodup_append]
  refine ⟨B.nd, by simp, ?_⟩
  intro u hu v hv h
  obtain ⟨a, ha, rfl⟩ := List.mem_map.1 hu
  simp only [List.map_cons, List.map_nil, List.mem_singleton] at hv
  exact hn a ha (h.trans hv)
 ·intro a ha
  rcases List.mem_append.1 ha with h | h
  ·exact B.ok a h
  ·obtain rfl := List.mem_singleton.1 h
   exact ⟨Nat.le_of_lt hpq, hq, hD⟩
 ·intro j k a b hjk ha hb
  rcases ap k b hb with ⟨h1, h2⟩ | ⟨rfl, rfl⟩
  ·rcases ap j a ha with ⟨h3, _⟩ | ⟨rfl, _⟩
   ·exact B.mono j k a b hjk h3 h1
   ·omega
  ·rcases ap j a ha with ⟨h3, _⟩ | ⟨rfl, _⟩
   ·exact B.top e he a (List.mem_of_getElem? h3)
   ·omega
 ·intro e' he' a ha
  rw [List.getElem?_append_left hi, he] at he'
  obtain rfl := Option.some.inj he'
  rcases List.mem_append.1 ha with h | h
  ·exact B.top e he a h
  ·obtain rfl := List.mem_singleton.1 h; exact Nat.le_refl _
 ·intro j e' hj hji p' q' x' h1 h2 h3 h4
  rcases ap j e' hj with ⟨h5, _⟩ | ⟨rfl, _⟩
  ·obtain ⟨a, ha, ha1⟩ := B.cl j e' h5 hji p' q' x' h1 h2 h3 h4
   exact ⟨a, List.mem_append_left _ ha, ha1⟩
  ·omega
theorem BQ.row (B : BQ f m n Q i) {e : Ent2} (he : Q[i]? = some e) (hd : ∀ p q x, p < q → q < n → x < m → srt (f p x) (f q x) = e.1 → ∃ a ∈ Q, a.1 = (p, q)) : BQ f m n Q (i + 1) := by
 refine ⟨B.nd, B.ok, B.diag, B.mono, fun e' he' a ha => ?_, fun j e' hj hji p q x h1 h2 h3 h4 => ?_⟩
 ·have h1 := B.top e he a ha
  have h2 := B.mono i (i + 1) e e' (by omega) he he'
  omega
 ·rcases Nat.lt_or_ge j i with h5 | h5
  ·exact B.cl j e' hj h5 p q x h1 h2 h3 h4
  ·obtain rfl : j = i := by omega
   rw [he] at hj; obtain rfl := Option.some.inj hj
   exact hd p q x h1 h2 h3 h4
theorem BQ.start (f : Nat → Nat → Nat) (m n : Nat) : BQ f m n (diagQ n) 0 := by
 have form : ∀ e ∈ diagQ n, ∃ i, i < n ∧ e = ((i, i), 0) := fun e he => by
  obtain ⟨i, hi, rfl⟩ := List.mem_map.1 he
  exact ⟨i, List.mem_range.1 hi, rfl⟩
 have zero : ∀ (j : Nat) (a : Ent2), (diagQ n)[j]? = some a → a.2 = 0 := fun j a h => by
  obtain ⟨i, _, rfl⟩ := form a (List.mem_of_getElem? h); rfl
 refine ⟨?_, ?_, fun p hp => List.mem_map.2 ⟨p, List.mem_range.2 hp, rfl⟩, ?_, ?_, fun j e _ hj => by omega⟩
 ·unfold diagQ
  rw [List.map_map, List.nodup_iff_pairwise_ne, List.pairwise_map]
  refine List.Pairwise.imp ?_ (List.nodup_iff_pairwise_ne.1 List.nodup_range)
  intro a b hab e
  simp only [Function.comp, Prod.mk.injEq] at e
  exact hab e.1
 ·intro e he
  obtain ⟨i, hi, rfl⟩ := form e he
  exact ⟨Nat.le_refl _, hi, MDist.zero _ _ _⟩
 ·intro j k a b _ ha hb; rw [zero j a ha]; exact Nat.zero_le _
 ·intro e he a ha
  obtain ⟨i, _, rfl⟩ := form a ha
  exact Nat.zero_le _
end
section
variable {rows : List (List Int)} {n m : Nat} (V : VA rows n m)
include V
omit V in
theorem rdP_mem' {l : List (Int × Int)} {j : Nat} (h : j < l.length) : rdP l (j : Int) ∈ l := by
 unfold rdP
 rw [List.getD_eq_getElem?_getD, Int.toNat_natCast, List.getElem?_eq_getElem h]
 exact List.getElem_mem _
theorem nm_b1 {bf : List ((Int × Int) × List (Int × Int))} {N : Nat} (hb : BefOk (nx rows) (doneP n m n 0 0) bf N) {i : Nat} {c : Nat × Nat} {dd : Nat} (hN : N ≤ 1000000) (hi : i ≤ 1000000) :
  ∀ (e j : Nat) (Q : List Ent2), j + e = ((lkB (pI c) bf).getD []).length → BQ (nx rows) m n Q i → Q[i]? = some (c, dd) → (∀ j', j' < j → ∃ a ∈ Q, pI a.1 = rdP ((lkB (pI c) bf).getD []) (j' : Int)) →
  ∃ Q', BQ (nx rows) m n Q' (i + 1) ∧ i < Q'.length ∧ ∀ res, Ev (fun k => newMerger.b0 k (lq Q') bf (ql Q') ((i + 1 : Nat) : Int)) res → Ev (fun k => newMerger.b1 k (lq Q) bf (ql Q) (i : Int) ((lkB (pI c) bf).getD []) (j : Int)) res := by
 have hn60 := V.n60
 have hnn : n * n ≤ 3600 := Nat.mul_le_mul hn60 hn60
 have hcs := hb.len (pI c)
 intro e
 induction e with
 | zero =>
  intro j Q hj B hQ hd
  refine ⟨Q, B.row hQ fun p q x h1 h2 h3 h4 => ?_, (List.getElem?_eq_some_iff.1 hQ).1, fun res hres => Ev.step (fun k => ?_) hres⟩
  ·have hm : pI (p, q) ∈ (lkB (pI c) bf).getD [] := (hb.mem (pI c) (pI (p, q))).2 ⟨p, q, x, ⟨h1, h2, h3, Or.inl (by omega)⟩, rfl, by rw [h4]⟩
   obtain ⟨j', hj', he⟩ := List.getElem_of_mem hm
   obtain ⟨a, ha, hae⟩ := hd j' (by omega)
   refine ⟨a, ha, pI_inj (hae.trans ?_)⟩
   unfold rdP
   rw [List.getD_eq_getElem?_getD, Int.toNat_natCast, List.getElem?_eq_getElem hj', he]; rfl
  ·rw [newMerger.b1, if_neg (by omega), wrapS (by omega)]
 | succ e ih =>
  intro j Q hj B hQ hd
  have hjl : j < ((lkB (pI c) bf).getD []).length := by omega
  have hmem : rdP ((lkB (pI c) bf).getD []) (j : Int) ∈ (lkB (pI c) bf).getD [] := rdP_mem' hjl
  obtain ⟨p, q, x, ⟨h1, h2, h3, _⟩, hz, hc⟩ := (hb.mem _ _).1 hmem
  have hcs' : srt (nx rows p x) (nx rows q x) = c := (pI_inj hc).symm
  have hil := (List.getElem?_eq_some_iff.1 hQ).1
  have hQl := B.len
  by_cases hin : ∃ a ∈ Q, a.1 = (p, q)
  ·obtain ⟨a, ha, ha1⟩ := hin
   obtain ⟨Q', k1, k2, k3⟩ := ih (j + 1) Q (by omega) B hQ (fun j' hj' => by
    rcases Nat.lt_or_ge j' j with h5 | h5
    ·exact hd j' h5
    ·obtain rfl : j' = j := by omega
     exact ⟨a, ha, by rw [hz, ha1]⟩)
   refine ⟨Q', k1, k2, fun res hres => Ev.step (fun k => ?_) (k3 res hres)⟩
   have hlk := lkP_some B.nd a ha
   rw [newMerger.b1, if_pos (by omega), if_pos (by omega), hz, ← ha1, hlk, if_pos (by rfl), wrapS (by omega)]
  ·have hno : ∀ a ∈ Q, a.1 ≠ (p, q) := fun a ha he => hin ⟨a, ha, he⟩
   have B' := B.new (fun s x => V.nxLt) hQ h1 h2 h3 hcs' hno
   obtain ⟨Q', k1, k2, k3⟩ := ih (j + 1) _ (by omega) B' (by rw [List.getElem?_append_left hil]; exact hQ) (fun j' hj' => by
    rcases Nat.lt_or_ge j' j with h5 | h5
    ·obtain ⟨a, ha, hae⟩ := hd j' h5
     exact ⟨a, List.mem_append_left _ ha, hae⟩
    ·obtain rfl : j' = j := by omega
     exact ⟨((p, q), dd + 1), List.mem_append_right _ (List.mem_singleton.2 rfl), hz.symm⟩)
   refine ⟨Q', k1, k2, fun res hres => Ev.step (fun k => ?_) (k3 res hres)⟩
   have hlk := lkP_some B.nd _ (List.mem_of_getElem? hQ)
   have hdd : dd < 3600 := MDist.small V (by have := B.ok _ (List.mem_of_getElem? hQ); omega) (B.ok _ (List.mem_of_getElem? hQ)).2.1 (B.ok _ (List.mem_of_getElem? hQ)).2.2
   rw [newMerger.b1, if_pos (by omega), if_pos (by omega), hz, lkP_none hno, if_neg (by simp), if_pos (by rw [ql_len]; omega), if_pos (by rw [ql_len]; omega), ql_at hQ, hlk, Option.getD_some, wrapS (by omega), wrapS (by omega), putL_new hno, ← ql_snoc _ (p, q) (dd + 1)]
theorem nm_b0 {bf : List ((Int × Int) × List (Int × Int))} {N : Nat} (hb : BefOk (nx rows) (doneP n m n 0 0) bf N) (hN : N ≤ 1000000) : ∀ (e i : Nat) (Q : List Ent2), i + e = n * n → i ≤ Q.length → BQ (nx rows) m n Q i →
  ∃ left, LeftOk (nx rows) m n left ∧ Ev (fun k => newMerger.b0 k (lq Q) bf (ql Q) (i : Int)) left := by
 have hn60 := V.n60
 have hnn : n * n ≤ 3600 := Nat.mul_le_mul hn60 hn60
 have fin : ∀ (i : Nat) (Q : List Ent2), Q.length ≤ i → BQ (nx rows) m n Q i → LeftOk (nx rows) m n (lq Q) := by
  intro i Q hi B p q hpq hq
  by_cases hm : Mg (nx rows) m p q
  ·obtain ⟨d, hd⟩ := hm.dist
   have hmem := B.all (fun s x => V.nxLt) hi d p q hpq hq hd
   exact Or.inl ⟨d, lkP_some B.nd _ hmem, hd⟩
  ·refine Or.inr ⟨lkP_none (c := (p, q)) fun e he h => hm ?_, hm⟩
   have := (B.ok e he).2.2.mg
   rw [h] at this; exact this
 intro e
 induction e with
 | zero =>
  intro i Q hi hil B
  have := B.len
  refine ⟨lq Q, fin i Q (by omega) B, Ev.step (fun k => ?_) (Ev.now _)⟩
  rw [newMerger.b0, if_neg (by rw [ql_len]; omega)]
 | succ e ih =>
  intro i Q hi hil B
  have hQl := B.len
  rcases Nat.lt_or_ge i Q.length with h1 | h1
  ·obtain ⟨⟨c, dd⟩, hQ⟩ : ∃ e, Q[i]? = some e := ⟨_, List.getElem?_eq_getElem h1⟩
   obtain ⟨Q', k1, k2, k3⟩ := nm_b1 V hb (c := c) (dd := dd) hN (by omega) _ 0 Q (Nat.zero_add _) B hQ (fun j' hj' => by omega)
   obtain ⟨left, k4, k5⟩ := ih (i + 1) Q' (by omega) (by omega) k1
   refine ⟨left, k4, Ev.step (fun k => ?_) (k3 left k5)⟩
   rw [newMerger.b0, if_pos (by rw [ql_len]; omega), if_pos (by omega), ql_at hQ]; rfl
  ·refine ⟨lq Q, fin i Q h1 B, Ev.step (fun k => ?_) (Ev.now _)⟩
   rw [newMerger.b0, if_neg (by rw [ql_len]; omega)]
theorem newMerger_ev : ∃ left, LeftOk (nx rows) m n left ∧ Ev (fun k => newMerger.f k rows) left := by
 have hn60 := V.n60
 obtain ⟨bf, N, h0, h1, h2⟩ := nm_l0 V n 0 [] 0 (by omega) (by omega) ⟨fun c z => ⟨fun h => by simp [lkB] at h, fun ⟨p, q, x, h3, _⟩ => by unfold doneP at h3; omega⟩, fun c => by simp [lkB]⟩
 obtain ⟨left, h3, h4⟩ := nm_b0 V h1 h0 (n * n) 0 (diagQ n) (by omega) (by omega) (BQ.start _ _ _)
 exact ⟨left, h3, h2 left h4⟩
end
end Go.Proofs.Ytjgdalhdiohclaa.Q
end
