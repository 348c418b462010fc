/- The law ResetClosed holds: there is a reset word if and only if Apart is empty, each letter leads the states of a pair of Apart to the two states of a pair of Apart, and Merge of two different states returns ErrNone for these pairs alone; no bound on the arguments beyond their types'. (text 25 of 26) -/
import Derived.Test.YtogoppejcmaocaaZResetClosedt
import Derived.Test.YtogoppejcmaocaaZResetClosedx
/-! Part PureResetClosed -/
section
namespace Go.Proofs.Ytogoppejcmaocaa.Pure
open Go.RowKit Go.Proofs.YtogoppejcmaocaaW.PrintWords Go.Proofs.YtogoppejcmaocaaW.PrintLast Go.Proofs.YtogoppejcmaocaaW.PrintMore Go.Proofs.Ytogoppejcmaocaa.Q
set_option linter.unusedVariables false
set_option linter.unusedSectionVars false
set_option linter.unusedSimpArgs false
/-! ### a table of bools -/
theorem rdL6 {l : List (List Bool)} {i : Nat} (h : i < l.length) : rd_L6 l (i : Int) = l[i] := by
  show l.getD i [] = _
  rw [List.getD_eq_getElem?_getD, List.getElem?_eq_getElem h]; rfl
structure BM (M : List (List Bool)) (n : Nat) (P : Nat → Nat → Prop) : Prop where
  len : M.length = n
  row : ∀ i : Nat, i < n → (rd_L6 M (i : Int)).length = n
  ent : ∀ i j : Nat, i < n → j < n → (rdOf false (rd_L6 M (i : Int)) (j : Int) = true ↔ P i j)
theorem rdB_put {l : List Bool} {i j : Nat} {b : Bool} (h : j < l.length) : rdOf false (l.set i b) (j : Int) = if i = j then b else rdOf false l (j : Int) := by
  rw [rdBE (by rw [List.length_set]; exact h), rdBE h, List.getElem_set]
theorem rdL6_set {M : List (List Bool)} {i j : Nat} {r : List Bool} (h : j < M.length) : rd_L6 (M.set i r) (j : Int) = if i = j then r else rd_L6 M (j : Int) := by
  rw [rdL6 (by rw [List.length_set]; exact h), rdL6 h, List.getElem_set]
theorem BM.put {M : List (List Bool)} {n : Nat} {P : Nat → Nat → Prop} (h : BM M n P) {a b : Nat} (ha : a < n) (hb : b < n) : BM (M.set a ((rd_L6 M (a : Int)).set b true)) n (fun i j => P i j ∨ (i = a ∧ j = b)) := by
  have hl := h.len
  have hrow : ∀ i : Nat, i < n → rd_L6 (M.set a ((rd_L6 M (a : Int)).set b true)) (i : Int) = if a = i then (rd_L6 M (a : Int)).set b true else rd_L6 M (i : Int) := fun i hi => rdL6_set (by omega)
  refine ⟨by rw [List.length_set]; exact hl, fun i hi => ?_, fun i j hi hj => ?_⟩
  · rw [hrow i hi]
    by_cases e : a = i
    · rw [if_pos e, List.length_set]; exact h.row a ha
    · rw [if_neg e]; exact h.row i hi
  · rw [hrow i hi]
    by_cases e : a = i
    · subst e
      rw [if_pos rfl, rdB_put (by rw [h.row a ha]; exact hj)]
      by_cases e2 : b = j
      · rw [if_pos e2]; simp [e2]
      · rw [if_neg e2, h.ent a j ha hj]
        constructor
        · exact Or.inl
        · rintro (h1 | ⟨_, h2⟩)
          · exact h1
          · exact absurd h2.symm e2
    · rw [if_neg e, h.ent i j hi hj]
      constructor
      · exact Or.inl
      · rintro (h1 | ⟨h2, _⟩)
        · exact h1
        · exact absurd h2.symm e
theorem BM.congr {M : List (List Bool)} {n : Nat} {P Q : Nat → Nat → Prop} (h : BM M n P) (hp : ∀ i j, P i j ↔ Q i j) : BM M n Q := ⟨h.len, h.row, fun i j hi hj => (h.ent i j hi hj).trans (hp i j)⟩
theorem bm_none (n : Nat) : BM (List.replicate n (List.replicate n false)) n (fun _ _ => False) := by
  refine ⟨by simp, fun i hi => ?_, fun i j hi hj => ?_⟩
  · rw [rdL6 (by simpa using hi)]; simp
  · rw [rdL6 (by simpa using hi), List.getElem_replicate, rdBE (by simpa using hj)]; simp
theorem toS_at {L : List (Nat × Nat)} {i : Nat} (h : i < L.length) : (rd_T49 (toS L) (i : Int)).f0 = ((L[i].1 : Nat) : Int) ∧ (rd_T49 (toS L) (i : Int)).f1 = ((L[i].2 : Nat) : Int) := by
  have e : rd_T49 (toS L) (i : Int) = (toS L)[i]'(by rw [toS_len]; exact h) := by
    show (toS L).getD i _ = _
    rw [List.getD_eq_getElem?_getD, List.getElem?_eq_getElem (by rw [toS_len]; exact h)]; rfl
  rw [e]
  simp [toS]
def inP (L : List (Nat × Nat)) (i j : Nat) : Prop := (i, j) ∈ L ∨ (j, i) ∈ L
section
variable {rows : List (List Int)} {n m : Nat} (V : VA rows n m)
include V
theorem closed_l0 (a1 a2 : Int) (t : List S49) (h : Ev (fun k => mizmazelaw03_ResetClosed.l1 k a1 a2 t (List.replicate n (List.replicate n false)) 0 rows) true) :
    ∀ (e i : Nat), i + e = n → Ev (fun k => mizmazelaw03_ResetClosed.l0 k a1 a2 t (List.replicate i (List.replicate n false) ++ List.replicate e []) (i : Int) rows) true := by
  have hlen := V.len
  have hn60 := V.n60
  intro e
  induction e with
  | zero =>
    intro i hi
    obtain rfl : i = n := by omega
    refine Ev.step (fun k => ?_) h
    rw [List.replicate_zero, List.append_nil, mizmazelaw03_ResetClosed.l0, if_neg (by rw [List.length_replicate]; omega)]
  | succ e ih =>
    intro i hi
    refine Ev.step (fun k => ?_) (ih (i + 1) (by omega))
    rw [mizmazelaw03_ResetClosed.l0, if_pos (by rw [List.length_append, List.length_replicate, List.length_replicate]; omega), if_pos (by omega), if_pos (by omega), if_pos (by omega), wrapS (by omega), Int.toNat_natCast, Int.toNat_natCast, hlen]
    congr 1
    rw [List.set_append_right _ _ (by simp), List.length_replicate, Nat.sub_self, List.replicate_succ, List.set_cons_zero, List.replicate_succ', List.append_assoc]
    rfl
theorem closed_l3 (a1 a2 : Int) {L : List (Nat × Nat)} {M : List (List Bool)} (B : BM M n (inP L)) (hL : ∀ a b, (a, b) ∈ L ↔ a < b ∧ b < n ∧ ¬ Mg (nx rows) m a b) {i : Nat} (hi : i < L.length) (h : Ev (fun k => mizmazelaw03_ResetClosed.l2 k a1 a2 (toS L) M ((i + 1 : Nat) : Int) rows) true) (hs : L.length ≤ 100000) :
    ∀ (e x : Nat), x + e = m → Ev (fun k => mizmazelaw03_ResetClosed.l3 k a1 a2 (toS L) M (i : Int) (x : Int) rows) true := by
  have hlen := V.len
  have hn60 := V.n60
  have hm6 := V.m6
  have hml := B.len
  intro e
  induction e with
  | zero =>
    intro x hx
    refine Ev.step (fun k => ?_) h
    rw [mizmazelaw03_ResetClosed.l3, V.letters, Option.bind_some, if_neg (by omega), wrapS (by omega)]
  | succ e ih =>
    intro x hx
    obtain ⟨h0, h1⟩ := toS_at hi
    have hmem : (L[i].1, L[i].2) ∈ L := List.getElem_mem hi
    obtain ⟨hp1, hp2, hp3⟩ := (hL _ _).1 hmem
    generalize L[i].1 = p at h0 hp1 hp2 hp3
    generalize L[i].2 = q at h1 hp1 hp2 hp3
    have hxm : x < m := by omega
    have hpn : p < n := by omega
    have hfp := V.nxLt (s := p) (x := x) hpn hxm
    have hfq := V.nxLt (s := q) (x := x) hp2 hxm
    have hnp : ¬ Mg (nx rows) m (nx rows p x) (nx rows q x) := fun ⟨w, hw, hr⟩ => hp3 ⟨x :: w, fun y hy => (by
      rcases List.mem_cons.1 hy with rfl | hy
      · exact hxm
      · exact hw y hy), hr⟩
    have hne : nx rows p x ≠ nx rows q x := fun e => hnp ⟨[], Wd.nil m, by rw [e]⟩
    have hin : inP L (nx rows p x) (nx rows q x) := by
      rcases Nat.lt_or_ge (nx rows p x) (nx rows q x) with h7 | h7
      · exact Or.inl ((hL _ _).2 ⟨h7, hfq, hnp⟩)
      · exact Or.inr ((hL _ _).2 ⟨by omega, hfp, fun ⟨w, hw, hr⟩ => hnp ⟨w, hw, hr.symm⟩⟩)
    have hrp := V.row p hpn
    have hrq := V.row q hp2
    have hep : rd (rd_L1 rows (p : Int)) (x : Int) = ((nx rows p x : Nat) : Int) := V.nxE hpn hxm
    have heq : rd (rd_L1 rows (q : Int)) (x : Int) = ((nx rows q x : Nat) : Int) := V.nxE hp2 hxm
    have hrm := B.row _ hfp
    refine Ev.step (fun k => ?_) (ih (x + 1) (by omega))
    rw [mizmazelaw03_ResetClosed.l3, V.letters, Option.bind_some, if_pos (by omega), if_pos (by omega), if_pos (by rw [toS_len]; omega), h0, h1, if_pos (by omega), if_pos (by omega), if_pos (by omega), if_pos (by omega), hep, heq, if_pos (by omega), if_pos (by omega), if_pos (by omega), if_pos (by omega), if_pos (by omega), if_pos (by omega), if_pos (by omega), if_pos ((B.ent _ _ hfp hfq).2 hin), wrapS (by omega)]
end
theorem ResetClosed : Q.mizmazelaw03_ResetClosed.Pure := by
  intro rows a1 a2 ho h1 h2
  refine Ev.rounds (g := fun k => mizmazelaw03_ResetClosed.f k rows a1 a2) ?_
  have out : ∀ (k : Nat), True := fun _ => trivial
  have aw : Ev (fun k => mizmazelaw03_ResetClosed.j0 k a1 a2 true rows) true := by
    refine Ev.next ?_
    simp only [mizmazelaw03_ResetClosed.j0, if_true]
    exact awake3_end
  unfold mizmazelaw03_ResetClosed.f
  refine Ev.bind (ref_valid rows ho) ?_
  cases hv : validB rows with
  | false => simp only [Bool.false_eq_true, if_false]; exact aw
  | true =>
    have V := VA.of' hv
    generalize hn : rows.length = n at V
    generalize hm : (rd_L1 rows 0).length = m at V
    have h60 := V.n60
    have hlen := V.len
    simp only [if_true, ref_state, hlen, Option.bind_some]
    by_cases g1 : 0 ≤ a1 ∧ a1 < (n : Int)
    · by_cases g2 : 0 ≤ a2 ∧ a2 < (n : Int)
      · simp only [decide_eq_true g1, decide_eq_true g2, if_true, Bool.not_true]
        obtain ⟨p, rfl⟩ := Int.eq_ofNat_of_zero_le g1.1
        obtain ⟨q, rfl⟩ := Int.eq_ofNat_of_zero_le g2.1
        have hp : p < n := by omega
        have hq : q < n := by omega
        have hL : ∀ a b, (a, b) ∈ aAll (nx rows) m n n 0 ↔ a < b ∧ b < n ∧ ¬ Mg (nx rows) m a b := fun a b => by
          rw [aAll_mem (Nat.zero_add n)]; simp
        have hnil := aAll_nil (f := nx rows) (m := m) (n := n)
        have hsm := aAll_small V
        have hap := apart_ev V
        generalize aAll (nx rows) m n n 0 = L at hL hnil hsm hap
        have last : ∀ M, BM M n (inP L) → ∀ (i e : Nat), i + e = L.length → Ev (fun k => mizmazelaw03_ResetClosed.l2 k (p : Int) (q : Int) (toS L) M (i : Int) rows) true := fun M B i e => by
          induction e generalizing i with
          | zero =>
            intro hi
            have hml := B.len
            have hrm := B.row p hp
            have hent := B.ent p q hp hq
            have fin : ∀ r : List Int × Int, ((r.2 == 4) = true ↔ ¬ Mg (nx rows) m p q) → Ev (fun k => reset_Merge.f k rows (p : Int) (q : Int)) r → Ev (fun k => mizmazelaw03_ResetClosed.l2 k (p : Int) (q : Int) (toS L) M (i : Int) rows) true := fun r hr hE => by
              have hb : ((r.2 == 4) == rdOf false (rd_L6 M (p : Int)) (q : Int)) = true := by
                rw [beq_iff_eq]
                refine Bool.eq_iff_iff.2 (hr.trans ?_)
                rw [hent]
                constructor
                · intro h
                  have hne : p ≠ q := fun e => h ⟨[], Wd.nil m, by rw [e]⟩
                  rcases Nat.lt_or_ge p q with h7 | h7
                  · exact Or.inl ((hL _ _).2 ⟨h7, hq, h⟩)
                  · exact Or.inr ((hL _ _).2 ⟨by omega, hp, fun ⟨w, hw, hr⟩ => h ⟨w, hw, hr.symm⟩⟩)
                · rintro (h | h)
                  · exact ((hL _ _).1 h).2.2
                  · exact fun ⟨w, hw, hr⟩ => ((hL _ _).1 h).2.2 ⟨w, hw, hr.symm⟩
              refine Ev.step (f := fun k => (reset_Merge.f k rows (p : Int) (q : Int)).bind fun bt => if ((bt.2 == 4) == rdOf false (rd_L6 M (p : Int)) (q : Int)) = true then (mizmazelaw03_awake.f k).bind fun t => some t else some false) (fun k => ?_) (Ev.bind hE ?_)
              · rw [mizmazelaw03_ResetClosed.l2, if_neg (by rw [toS_len]; omega)]
                refine congrArg _ (funext fun bt => ?_)
                rw [if_pos (by omega), if_pos (by omega), if_pos (by omega), if_pos (by omega)]
              · simp only [hb, if_true]; exact awake3_end
            rcases merge_ev V hp hq with ⟨w, hw1, hw2⟩ | ⟨hw1, hw2⟩
            · refine fin _ ?_ hw2
              simp only [show ((0 : Int) == 4) = false from rfl, Bool.false_eq_true, false_iff, Classical.not_not]
              exact ⟨w, hw1.wd, hw1.ends⟩
            · exact fin _ (by simpa using hw1) hw2
          | succ e ih =>
            intro hi
            exact Ev.step (fun k => by rw [mizmazelaw03_ResetClosed.l2, if_pos (by rw [toS_len]; omega)]; rfl) (closed_l3 V (p : Int) (q : Int) B hL (by omega) (ih (i + 1) (by omega)) (by omega) m 0 (by omega))
        have fill : ∀ (e i : Nat) (M : List (List Bool)), i + e = L.length → BM M n (inP (L.take i)) → Ev (fun k => mizmazelaw03_ResetClosed.l1 k (p : Int) (q : Int) (toS L) M (i : Int) rows) true := by
          intro e
          induction e with
          | zero =>
            intro i M hi B
            obtain rfl : i = L.length := by omega
            rw [List.take_length] at B
            exact Ev.step (fun k => by rw [mizmazelaw03_ResetClosed.l1, if_neg (by rw [toS_len]; omega)]; rfl) (last M B 0 L.length (by omega))
          | succ e ih =>
            intro i M hi B
            have hil : i < L.length := by omega
            obtain ⟨h0, h3⟩ := toS_at hil
            have hmem : (L[i].1, L[i].2) ∈ L := List.getElem_mem hil
            obtain ⟨hp1, hp2, _⟩ := (hL _ _).1 hmem
            have htk : ∀ c, c ∈ L.take (i + 1) ↔ c ∈ L.take i ∨ c = (L[i].1, L[i].2) := fun c => by
              rw [List.take_add_one, List.getElem?_eq_getElem hil, List.mem_append, Option.toList_some, List.mem_singleton]
            generalize L[i].1 = a at h0 hp1 hp2 htk
            generalize L[i].2 = b at h3 hp1 hp2 htk
            have hml := B.len
            have B1 := B.put (a := a) (b := b) (by omega) hp2
            have B2 := B1.put (a := b) (b := a) hp2 (by omega)
            have hra := B.row a (by omega)
            have hrb := B1.row b hp2
            refine Ev.step (fun k => ?_) (ih (i + 1) _ (by omega) (B2.congr fun u v => ?_))
            · rw [mizmazelaw03_ResetClosed.l1, if_pos (by rw [toS_len]; omega), if_pos (by omega), h0, h3, ref_state, ref_state, hlen, Option.bind_some, decide_eq_true (by omega), if_pos rfl, Option.bind_some, decide_eq_true (by omega), if_pos rfl, if_neg (by omega), if_pos (by omega), if_pos (by omega), if_pos (by omega), if_pos (by omega), Option.bind_some, if_pos (by omega), Int.toNat_natCast, Int.toNat_natCast, if_pos (by omega), wrapS (by omega)]
            · unfold inP
              rw [htk, htk]
              simp only [Prod.mk.injEq]
              constructor
              · rintro (((h | h) | h) | h)
                · exact Or.inl (Or.inl h)
                · exact Or.inr (Or.inl h)
                · exact Or.inl (Or.inr h)
                · exact Or.inr (Or.inr ⟨h.2, h.1⟩)
              · rintro ((h | h) | (h | h))
                · exact Or.inl (Or.inl (Or.inl h))
                · exact Or.inl (Or.inr h)
                · exact Or.inl (Or.inl (Or.inr h))
                · exact Or.inr ⟨h.2, h.1⟩
        have main : Ev (fun k => mizmazelaw03_ResetClosed.j1 k (p : Int) (q : Int) (toS L) false rows) true := by
          refine Ev.next ?_
          simp only [mizmazelaw03_ResetClosed.j1, Bool.false_eq_true, if_false, hlen, if_pos (show (0 : Int) ≤ (n : Int) by omega), Int.toNat_natCast, if_pos (show n ≤ 11728124029610 by omega)]
          exact closed_l0 V _ _ _ (fill L.length 0 _ (by omega) ((bm_none n).congr fun i j => by simp [inP])) n 0 (by omega)
        refine Ev.next ?_
        simp only [mizmazelaw03_ResetClosed.j0, Bool.false_eq_true, if_false]
        obtain ⟨r, hr, hre⟩ := reset_ev V
        refine Ev.bind hre (Ev.bind hap ?_)
        simp only [if_true]
        rcases hr with ⟨w, hw1, rfl, hw2, _⟩ | ⟨rfl, a, b, ha, hb, hab⟩
        · have e : L = [] := hnil.2 fun a b ha hb => ⟨w, hw1, hw2 a b ha hb⟩
          subst e
          simp only [if_true]
          exact main
        · have e : L.length ≠ 0 := fun e => hab (hnil.1 (List.length_eq_zero_iff.1 e) a b ha hb)
          have e2 : (((toS L).length : Int) == 0) = false := by rw [toS_len, beq_eq_false_iff_ne]; omega
          simp only [show ¬ (4 : Int) = 0 by decide, if_false, if_true, e2]
          exact main
      · simp only [decide_eq_true g1, decide_eq_false g2, if_true, Bool.not_false]
        exact aw
    · simp only [decide_eq_false g1, Bool.false_eq_true, if_false]
      exact aw
end Go.Proofs.Ytogoppejcmaocaa.Pure
end
