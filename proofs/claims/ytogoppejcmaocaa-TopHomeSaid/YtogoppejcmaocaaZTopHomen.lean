/- The law TopHome holds: any automaton has a reset word of at most (n^3 - n) / 6 letters that is found, and with whatever letters before it and after it it leads all states to one, or there are pairs of states that are found and that no word merges; no bound on the arguments beyond their types'. (text 14 of 26) -/
import Derived.Test.YtogoppejcmaocaaZTopHomeg
import Derived.Test.YtogoppejcmaocaaZTopHomeh
/-! Part MTable -/
section
namespace Go.Proofs.Ytogoppejcmaocaa.Q
open Go.RowKit Go.Proofs.YtogoppejcmaocaaW.PrintWords Go.Proofs.YtogoppejcmaocaaW.PrintLast Go.Proofs.YtogoppejcmaocaaW.PrintMore
set_option linter.unusedVariables false
set_option linter.unusedSectionVars false
set_option linter.unusedSimpArgs false
/-! ### the reference's table -/
def TT (tab : List (List Int)) (p q : Nat) : Int := rd (rd_L1 tab (p : Int)) (q : Int)
structure Shape (tab : List (List Int)) (n : Nat) : Prop where
  len : tab.length = n
  row : ∀ p, p < n → (rd_L1 tab (p : Int)).length = n
theorem rdL_set {l : List (List Int)} {i j : Nat} {v : List Int} (hj : j < l.length) : rd_L1 (l.set i v) (j : Int) = if i = j then v else rd_L1 l (j : Int) := by
  rw [rdLE (by rw [List.length_set]; exact hj), rdLE hj, List.getElem_set]
theorem rdS_set {l : List Int} {i j : Nat} {v : Int} (hj : j < l.length) : rd (l.set i v) (j : Int) = if i = j then v else rd l (j : Int) := by
  rw [rdE (by rw [List.length_set]; exact hj), rdE hj, List.getElem_set]
theorem Shape.put {tab : List (List Int)} {n p q : Nat} {v : Int} (h : Shape tab n) (hp : p < n) : Shape (tab.set p ((rd_L1 tab (p : Int)).set q v)) n := by
  refine ⟨by rw [List.length_set]; exact h.len, fun s hs => ?_⟩
  rw [rdL_set (by rw [h.len]; exact hs)]
  split
  · rw [List.length_set]; exact h.row p hp
  · exact h.row s hs
theorem TT_put {tab : List (List Int)} {n p q a b : Nat} {v : Int} (h : Shape tab n) (ha : a < n) (hb : b < n) (hp : p < n) : TT (tab.set p ((rd_L1 tab (p : Int)).set q v)) a b = if p = a ∧ q = b then v else TT tab a b := by
  unfold TT
  rw [rdL_set (by rw [h.len]; exact ha)]
  by_cases e : p = a
  · subst e
    rw [if_pos rfl, rdS_set (by rw [h.row p hp]; exact hb)]
    by_cases e2 : q = b
    · rw [if_pos e2, if_pos ⟨rfl, e2⟩]
    · rw [if_neg e2, if_neg (fun h => e2 h.2)]
  · rw [if_neg e, if_neg (fun h => e h.1)]
/-- What an entry says once the words of fewer than kk letters are known. -/
def Ent (f : Nat → Nat → Nat) (m : Nat) (tab : List (List Int)) (kk p q : Nat) : Prop := (∃ d : Nat, d < kk ∧ TT tab p q = (d : Int) ∧ MDist f m p q d) ∨ (TT tab p q = -1 ∧ ∀ d, d < kk → ¬ MDist f m p q d)
def bef (p q p0 q0 : Nat) : Prop := p < p0 ∨ p = p0 ∧ q < q0
instance (p q p0 q0 : Nat) : Decidable (bef p q p0 q0) := inferInstanceAs (Decidable (_ ∨ _))
theorem bef_next (p q : Nat) : bef p q p (q + 1) := Or.inr ⟨rfl, Nat.lt_succ_self q⟩
theorem ite_iff {c d : Prop} [Decidable c] [Decidable d] (h : c ↔ d) {a b : Nat} : (if c then a else b) = if d then a else b := by
  by_cases hc : c
  · rw [if_pos hc, if_pos (h.1 hc)]
  · rw [if_neg hc, if_neg fun hd => hc (h.2 hd)]
structure InPass (f : Nat → Nat → Nat) (m n : Nat) (tab : List (List Int)) (kk p0 q0 : Nat) (more : Bool) : Prop where
  shape : Shape tab n
  ent : ∀ p q, p < n → q < n → Ent f m tab (if bef p q p0 q0 then kk + 1 else kk) p q
  more : more = true ↔ ∃ p q, p < n ∧ q < n ∧ bef p q p0 q0 ∧ MDist f m p q kk
theorem InPass.test {f : Nat → Nat → Nat} {m n kk p0 q0 : Nat} {tab : List (List Int)} {more : Bool} (h : InPass f m n tab (kk + 1) p0 q0 more) {u v : Nat} (hu : u < n) (hv : v < n) : TT tab u v = (kk : Int) ↔ MDist f m u v kk := by
  have h1 : kk < (if bef u v p0 q0 then kk + 1 + 1 else kk + 1) := by split <;> omega
  rcases h.ent u v hu hv with ⟨d, h2, h3, h4⟩ | ⟨h2, h3⟩
  · rw [h3]
    refine ⟨fun e => ?_, fun e => by rw [h4.uniq e]⟩
    have e2 : d = kk := by omega
    exact e2 ▸ h4
  · rw [h2]
    exact ⟨fun e => by omega, fun e => absurd e (h3 kk h1)⟩
section
variable {rows : List (List Int)} {n m : Nat} (V : VA rows n m)
include V
theorem no_less {p q kk d : Nat} (h : ∀ d, d < kk + 1 → ¬ MDist (nx rows) m p q d) {x e : Nat} (hx : x < m) (he : MDist (nx rows) m (nx rows p x) (nx rows q x) e) : kk ≤ e := by
  obtain ⟨d, hd⟩ := Mg.dist (Mg.step hx he.mg)
  obtain ⟨⟨w, h1, h2, h3⟩, _⟩ := he
  have h4 := hd.2 (x :: w) (Wd.cons hx h1) h3
  simp only [List.length_cons] at h4
  rcases Nat.lt_or_ge d (kk + 1) with h5 | h5
  · exact absurd hd (h d h5)
  · omega
theorem cell_loop {tab : List (List Int)} {kk p q : Nat} (hp : p < n) (hq : q < n) {more : Bool} (hkk : kk ≤ 1000000) (h : InPass (nx rows) m n tab (kk + 1) p q more) (hT : TT tab p q = -1) (hno : ∀ d, d < kk + 1 → ¬ MDist (nx rows) m p q d) :
    ∀ (e x : Nat), x + e = m → (∀ y, y < x → ¬ MDist (nx rows) m (nx rows p y) (nx rows q y) kk) → ∃ tab' more', InPass (nx rows) m n tab' (kk + 1) p (q + 1) more' ∧ ∀ res, Ev (fun k => mizmazeref03_Table.l4 k (n : Int) tab' ((kk + 1 : Nat) : Int) more' (p : Int) ((q + 1 : Nat) : Int) rows) res → Ev (fun k => mizmazeref03_Table.l5 k (n : Int) tab ((kk + 1 : Nat) : Int) more (p : Int) (q : Int) (x : Int) rows) res := by
  have hn60 := V.n60
  have hm6 := V.m6
  have hTr : rd (rd_L1 tab (p : Int)) (q : Int) = -1 := hT
  have hl5 : ∀ k (x : Nat), x < m → mizmazeref03_Table.l5 (k + 1) (n : Int) tab ((kk + 1 : Nat) : Int) more (p : Int) (q : Int) (x : Int) rows = mizmazeref03_Table.j6 k (n : Int) tab ((kk + 1 : Nat) : Int) more (p : Int) (q : Int) (x : Int) true rows := by
    intro k x hx
    rw [mizmazeref03_Table.l5, if_pos (by omega), if_pos (by rw [h.shape.len]; omega), if_pos (by omega), if_pos (by rw [h.shape.row p hp]; omega), hTr, if_pos (by omega), V.letters, Option.bind_some, decide_eq_true (by omega)]
  have hl5e : ∀ k, mizmazeref03_Table.l5 (k + 1) (n : Int) tab ((kk + 1 : Nat) : Int) more (p : Int) (q : Int) (m : Int) rows = mizmazeref03_Table.j6 k (n : Int) tab ((kk + 1 : Nat) : Int) more (p : Int) (q : Int) (m : Int) false rows := by
    intro k
    rw [mizmazeref03_Table.l5, if_pos (by omega), if_pos (by rw [h.shape.len]; omega), if_pos (by omega), if_pos (by rw [h.shape.row p hp]; omega), hTr, if_pos (by omega), V.letters, Option.bind_some, decide_eq_false (by omega)]
  intro e
  induction e with
  | zero =>
    intro x hx hy
    obtain rfl : x = m := by omega
    have hnk : ¬ MDist (nx rows) x p q (kk + 1) := fun hd => by
      obtain ⟨_, ⟨y, hy1, hy2⟩, _⟩ := hd.pred
      exact hy y hy1 hy2
    refine ⟨tab, more, ⟨h.shape, fun a b ha hb => ?_, ?_⟩, fun res hres => ?_⟩
    · by_cases hab : a = p ∧ b = q
      · obtain ⟨rfl, rfl⟩ := hab
        rw [if_pos (bef_next _ _)]
        refine Or.inr ⟨hT, fun d hd => ?_⟩
        rcases Nat.lt_or_ge d (kk + 1) with h1 | h1
        · exact hno d h1
        · obtain rfl : d = kk + 1 := by omega
          exact hnk
      · have e : bef a b p (q + 1) ↔ bef a b p q := by unfold bef; omega
        have := h.ent a b ha hb
        rwa [ite_iff e]
    · rw [h.more]
      constructor
      · rintro ⟨a, b, h1, h2, h3, h4⟩; exact ⟨a, b, h1, h2, by unfold bef at h3 ⊢; omega, h4⟩
      · rintro ⟨a, b, h1, h2, h3, h4⟩
        refine ⟨a, b, h1, h2, ?_, h4⟩
        by_cases hab : a = p ∧ b = q
        · obtain ⟨rfl, rfl⟩ := hab; exact absurd h4 hnk
        · unfold bef at h3 ⊢; omega
    · refine Ev.step (fun k => hl5e k) (Ev.step (fun k => ?_) hres)
      rw [mizmazeref03_Table.j6, if_neg (by decide), wrapS (by omega)]
  | succ e ih =>
    intro x hx hy
    have hxm : x < m := by omega
    have ha := V.nxLt hp hxm
    have hb := V.nxLt hq hxm
    have hj : ∀ k, mizmazeref03_Table.j6 (k + 1) (n : Int) tab ((kk + 1 : Nat) : Int) more (p : Int) (q : Int) (x : Int) true rows = if TT tab (nx rows p x) (nx rows q x) = (kk : Int) then mizmazeref03_Table.l5 k (n : Int) (tab.set p ((rd_L1 tab (p : Int)).set q ((kk + 1 : Nat) : Int))) ((kk + 1 : Nat) : Int) true (p : Int) (q : Int) ((x + 1 : Nat) : Int) rows else mizmazeref03_Table.l5 k (n : Int) tab ((kk + 1 : Nat) : Int) more (p : Int) (q : Int) ((x + 1 : Nat) : Int) rows := by
      intro k
      rw [mizmazeref03_Table.j6, if_pos rfl, if_pos (by omega), if_pos (by rw [V.len]; omega), if_pos (by omega), if_pos (by rw [V.row p hp]; omega), V.nxE hp hxm, if_pos (by omega), if_pos (by rw [h.shape.len]; omega), if_pos (by omega), if_pos (by rw [V.len]; omega), if_pos (by rw [V.row q hq]; omega), V.nxE hq hxm, if_pos (by omega), if_pos (by rw [h.shape.row _ ha]; omega),
        wrapI (by omega) (by omega), show (((kk + 1 : Nat) : Int) - 1) = (kk : Int) by omega]
      by_cases ht : TT tab (nx rows p x) (nx rows q x) = (kk : Int)
      · rw [if_pos ht, if_pos (show rd (rd_L1 tab (nx rows p x : Nat)) (nx rows q x : Nat) = (kk : Int) from ht), if_pos (by rw [h.shape.len]; omega), if_pos (by rw [h.shape.row p hp]; omega), wrapS (by omega)]
        simp only [Int.toNat_natCast]
      · rw [if_neg ht, if_neg (show ¬ rd (rd_L1 tab (nx rows p x : Nat)) (nx rows q x : Nat) = (kk : Int) from ht), wrapS (by omega)]
    by_cases ht : TT tab (nx rows p x) (nx rows q x) = (kk : Int)
    · have hd := (h.test ha hb).1 ht
      have hpq : p ≠ q := by
        rintro rfl
        exact hno 0 (by omega) (MDist.zero _ _ _)
      have hD : MDist (nx rows) m p q (kk + 1) := MDist.succ hpq hxm hd fun y e hy he => no_less V (d := 0) hno hy he
      refine ⟨_, true, ⟨h.shape.put (q := q) (v := ((kk + 1 : Nat) : Int)) hp, fun a b ha hb => ?_, ?_⟩, fun res hres => ?_⟩
      · unfold Ent
        rw [TT_put h.shape ha hb hp]
        by_cases hab : p = a ∧ q = b
        · rw [if_pos hab]
          obtain ⟨rfl, rfl⟩ := hab
          rw [if_pos (bef_next _ _)]
          exact Or.inl ⟨kk + 1, by omega, rfl, hD⟩
        · rw [if_neg hab]
          have e : bef a b p (q + 1) ↔ bef a b p q := by unfold bef; omega
          have := h.ent a b ha hb
          rwa [ite_iff e]
      · exact ⟨fun _ => ⟨p, q, hp, hq, Or.inr ⟨rfl, by omega⟩, hD⟩, fun _ => rfl⟩
      · refine Ev.step (fun k => hl5 k x hxm) (Ev.step (fun k => by rw [hj, if_pos ht]) (Ev.step (f := fun k => mizmazeref03_Table.j6 k (n : Int) (tab.set p ((rd_L1 tab (p : Int)).set q ((kk + 1 : Nat) : Int))) ((kk + 1 : Nat) : Int) true (p : Int) (q : Int) ((x + 1 : Nat) : Int) false rows) (fun k => ?_) (Ev.step (fun k => ?_) hres)))
        · have hs := h.shape.put (q := q) (v := ((kk + 1 : Nat) : Int)) hp
          have hv : rd (rd_L1 (tab.set p ((rd_L1 tab (p : Int)).set q ((kk + 1 : Nat) : Int))) (p : Int)) (q : Int) = ((kk + 1 : Nat) : Int) := by
            have := TT_put (q := q) (v := ((kk + 1 : Nat) : Int)) h.shape hp hq hp
            rw [if_pos ⟨rfl, rfl⟩] at this; exact this
          rw [mizmazeref03_Table.l5, if_pos (by omega), if_pos (by rw [hs.len]; omega), if_pos (by omega), if_pos (by rw [hs.row p hp]; omega), hv, if_neg (by omega)]
        · rw [mizmazeref03_Table.j6, if_neg (by decide), wrapS (by omega)]
    · obtain ⟨tab', more', h1, h2⟩ := ih (x + 1) (by omega) fun y hy2 hyd => by
        rcases Nat.lt_or_ge y x with h3 | h3
        · exact hy y h3 hyd
        · obtain rfl : y = x := by omega
          exact ht ((h.test ha hb).2 hyd)
      exact ⟨tab', more', h1, fun res hres => Ev.step (fun k => hl5 k x hxm) (Ev.step (fun k => by rw [hj, if_neg ht]) (h2 res hres))⟩
theorem cell {tab : List (List Int)} {kk p q : Nat} (hp : p < n) (hq : q < n) {more : Bool} (hkk : kk ≤ 1000000) (h : InPass (nx rows) m n tab (kk + 1) p q more) :
    ∃ tab' more', InPass (nx rows) m n tab' (kk + 1) p (q + 1) more' ∧ ∀ res, Ev (fun k => mizmazeref03_Table.l4 k (n : Int) tab' ((kk + 1 : Nat) : Int) more' (p : Int) ((q + 1 : Nat) : Int) rows) res → Ev (fun k => mizmazeref03_Table.l4 k (n : Int) tab ((kk + 1 : Nat) : Int) more (p : Int) (q : Int) rows) res := by
  have hn60 := V.n60
  have e0 : ¬ bef p q p q := by unfold bef; omega
  have hent := h.ent p q hp hq
  rw [if_neg e0] at hent
  have h4 : ∀ k, mizmazeref03_Table.l4 (k + 1) (n : Int) tab ((kk + 1 : Nat) : Int) more (p : Int) (q : Int) rows = mizmazeref03_Table.l5 k (n : Int) tab ((kk + 1 : Nat) : Int) more (p : Int) (q : Int) ((0 : Nat) : Int) rows := fun k => by
    rw [mizmazeref03_Table.l4, if_pos (by omega)]; rfl
  rcases hent with ⟨d, h1, h2, h3⟩ | ⟨h1, h2⟩
  · refine ⟨tab, more, ⟨h.shape, fun a b ha hb => ?_, ?_⟩, fun res hres => ?_⟩
    · by_cases hab : a = p ∧ b = q
      · obtain ⟨rfl, rfl⟩ := hab
        rw [if_pos (bef_next _ _)]
        exact Or.inl ⟨d, by omega, h2, h3⟩
      · have e : bef a b p (q + 1) ↔ bef a b p q := by unfold bef; omega
        have := h.ent a b ha hb
        rwa [ite_iff e]
    · rw [h.more]
      constructor
      · rintro ⟨a, b, k1, k2, k3, k4⟩; exact ⟨a, b, k1, k2, by unfold bef at k3 ⊢; omega, k4⟩
      · rintro ⟨a, b, k1, k2, k3, k4⟩
        refine ⟨a, b, k1, k2, ?_, k4⟩
        by_cases hab : a = p ∧ b = q
        · obtain ⟨rfl, rfl⟩ := hab; have := h3.uniq k4; omega
        · unfold bef at k3 ⊢; omega
    · have h2' : rd (rd_L1 tab (p : Int)) (q : Int) = (d : Int) := h2
      refine Ev.step (fun k => h4 k) (Ev.step (f := fun k => mizmazeref03_Table.j6 k (n : Int) tab ((kk + 1 : Nat) : Int) more (p : Int) (q : Int) ((0 : Nat) : Int) false rows) (fun k => ?_) (Ev.step (fun k => ?_) hres))
      · rw [mizmazeref03_Table.l5, if_pos (by omega), if_pos (by rw [h.shape.len]; omega), if_pos (by omega), if_pos (by rw [h.shape.row p hp]; omega), h2', if_neg (by omega)]
      · rw [mizmazeref03_Table.j6, if_neg (by decide), wrapS (by omega)]
  · obtain ⟨tab', more', k1, k2⟩ := cell_loop V hp hq hkk h h1 h2 m 0 (by omega) fun y hy => by omega
    exact ⟨tab', more', k1, fun res hres => Ev.step (fun k => h4 k) (k2 res hres)⟩
/-- What the table says in the end. -/
structure TabOk (f : Nat → Nat → Nat) (m n : Nat) (tab : List (List Int)) : Prop where
  shape : Shape tab n
  ent : ∀ p q, p < n → q < n → (∃ d : Nat, TT tab p q = (d : Int) ∧ MDist f m p q d) ∨ (TT tab p q = -1 ∧ ¬ Mg f m p q)
omit V in
end
end Go.Proofs.Ytogoppejcmaocaa.Q
end
