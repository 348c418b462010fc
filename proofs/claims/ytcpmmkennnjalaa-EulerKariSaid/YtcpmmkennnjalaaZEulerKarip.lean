/- In an Eulerian automaton of at most MaxSmall states that has a reset word, Extend of each set that is neither empty nor contains all states is a word of at most n - 1 letters whose preimage has more states. (text 16 of 44) -/
import Derived.Test.YtcpmmkennnjalaaZEulerKarim
import Derived.Test.YtcpmmkennnjalaaZEulerKaril
import Derived.Test.YtcpmmkennnjalaaZEulerKarin
section
namespace Go.Proofs.Ytcpmmkennnjalaa.Q
open Go.RowKit Go.Proofs.YtcpmmkennnjalaaW.PrintWords Go.Proofs.YtcpmmkennnjalaaW.PrintLast Go.Proofs.YtcpmmkennnjalaaW.PrintMore
set_option linter.unusedVariables false
theorem Least.short {rows : List (List Int)} {n m s t : Nat} {w : List Nat} (h : Least (nx rows) m s t w) (V : VA rows n m) (hs : s < n) : w.length < n := by
  obtain ⟨z, hz1, hz2, hz3, _⟩ := short_word (fun s x => V.nxLt) _ w s (Nat.le_refl _) hs h.wd
  rcases Nat.lt_or_ge z.length w.length with h1 | h1
  · have := code_len V.m0 hz1 h.wd h1
    have := h.le z hz1 (hz2.trans h.ends); omega
  · omega
theorem toI_rd {w : List Nat} {i : Nat} (h : i < w.length) : rd (toI w) (i : Int) = ((w[i] : Nat) : Int) := by
  rw [rdE (by rw [toI_len]; exact h)]; simp [toI]
theorem inB_toI {m : Nat} {w : List Nat} : inB (m : Int) (toI w) = true ↔ Wd m w := by
  unfold inB toI
  rw [List.all_eq_true]
  constructor
  · intro h x hx
    have := h (x : Int) (List.mem_map.2 ⟨x, hx, rfl⟩)
    simp at this; omega
  · intro h x hx
    obtain ⟨y, hy, rfl⟩ := List.mem_map.1 hx
    have := h y hy
    simp; omega
/-- A word of the program is a word. -/
theorem toI_of {m : Nat} {l : List Int} (h : inB (m : Int) l = true) : ∃ w, Wd m w ∧ l = toI w := by
  refine ⟨l.map Int.toNat, ?_, ?_⟩
  · intro x hx
    obtain ⟨y, hy, rfl⟩ := List.mem_map.1 hx
    unfold inB at h; rw [List.all_eq_true] at h
    have := h y hy; simp at this; omega
  · unfold toI
    rw [List.map_map]
    symm
    rw [List.map_congr_left (g := id) (fun y hy => by
      unfold inB at h; rw [List.all_eq_true] at h
      have := h y hy; simp at this ⊢; omega)]
    simp
theorem auto_lead {rows : List (List Int)} {n m s : Nat} (V : VA rows n m) (hs : s < n) {w : List Nat} (hw : Wd m w) (hl : w.length ≤ 1000000) : Ev (fun k => auto_Lead.f k rows (s : Int) (toI w)) ((run (nx rows) s w : Nat) : Int) := by
  have hlen := V.len
  have key : ∀ (d i u : Nat), i + d = w.length → u < n → Ev (fun k => auto_Lead.l0 k (u : Int) (toI w) (w.length : Int) (i : Int) rows) ((run (nx rows) u (w.drop i) : Nat) : Int) := by
    intro d
    induction d with
    | zero =>
      intro i u hi hu
      refine Ev.next ?_
      simp only [auto_Lead.l0, if_neg (by omega : ¬ (i : Int) < (w.length : Int))]
      rw [List.drop_eq_nil_of_le (by omega)]
      exact Ev.now _
    | succ d ih =>
      intro i u hi hu
      have hil : i < w.length := by omega
      have hx := hw w[i] (List.getElem_mem hil)
      have hrow := V.row u hu
      refine Ev.next ?_
      simp only [auto_Lead.l0, if_pos (by omega : (i : Int) < (w.length : Int)), if_pos (by omega : (0 : Int) ≤ (i : Int)), toI_len, if_pos (by omega : (0 : Int) ≤ (u : Int)), if_pos (by omega : (u : Int) < (rows.length : Int)), toI_rd hil, if_pos (by omega : (0 : Int) ≤ ((w[i] : Nat) : Int)), if_pos (by omega : ((w[i] : Nat) : Int) < ((rd_L1 rows (u : Int)).length : Int)), V.nxE hu hx, wrapS (by omega : i + 1 ≤ 9223372036854775807)]
      rw [List.drop_eq_getElem_cons hil]
      exact ih (i + 1) _ (by omega) (V.nxLt hu hx)
  unfold auto_Lead.f
  rw [toI_len]
  exact key w.length 0 s (by omega) hs
theorem auto_letters {rows : List (List Int)} {n m : Nat} (V : VA rows n m) : auto_Letters.f rows = some (m : Int) := by
  unfold auto_Letters.f
  have := V.n0; have := V.len; have := V.row 0 V.n0
  rw [if_pos (by omega)]; congr 1; exact congrArg _ this
theorem auto_word {rows : List (List Int)} {n m : Nat} (V : VA rows n m) (l : List Int) : auto_Word.f rows l = some (decide (l.length ≤ 40000) && inB (m : Int) l) := by
  unfold auto_Word.f
  by_cases h : l.length ≤ 40000
  · rw [if_pos (by omega), auto_letters V, decide_eq_true h]
    simp only [Option.bind_some, auto_within_int.f, Bool.true_and]
  · rw [if_neg (by omega), decide_eq_false h, Bool.false_and]
end Go.Proofs.Ytcpmmkennnjalaa.Q
end
section
namespace Go.Proofs.Ytcpmmkennnjalaa.Q
open Go.RowKit Go.Proofs.YtcpmmkennnjalaaW.PrintWords Go.Proofs.YtcpmmkennnjalaaW.PrintLast Go.Proofs.YtcpmmkennnjalaaW.PrintMore
set_option linter.unusedVariables false
set_option linter.unusedSectionVars false
set_option linter.unusedSimpArgs false
/-! ### the reference's table -/
section
variable {rows : List (List Int)} {n m : Nat} (V : VA rows n m)
include V
theorem cell_loop {tab : List (List Int)} {kk p q : Nat} (hp : p < n) (hq : q < n) {more : Bool} (hkk : kk ≤ 1000000) (h : InPass (nx rows) m n tab (kk + 1) p q more) (hT : TT tab p q = -1) (hno : ∀ d, d < kk + 1 → ¬ MDist (nx rows) m p q d) :
    ∀ (e x : Nat), x + e = m → (∀ y, y < x → ¬ MDist (nx rows) m (nx rows p y) (nx rows q y) kk) → ∃ tab' more', InPass (nx rows) m n tab' (kk + 1) p (q + 1) more' ∧ ∀ res, Ev (fun k => mizmazeref03_Table.l4 k (n : Int) tab' ((kk + 1 : Nat) : Int) more' (p : Int) ((q + 1 : Nat) : Int) rows) res → Ev (fun k => mizmazeref03_Table.l5 k (n : Int) tab ((kk + 1 : Nat) : Int) more (p : Int) (q : Int) (x : Int) rows) res := by
  have hn60 := V.n60
  have hm6 := V.m6
  have hTr : rd (rd_L1 tab (p : Int)) (q : Int) = -1 := hT
  have hl5 : ∀ k (x : Nat), x < m → mizmazeref03_Table.l5 (k + 1) (n : Int) tab ((kk + 1 : Nat) : Int) more (p : Int) (q : Int) (x : Int) rows = mizmazeref03_Table.j6 k (n : Int) tab ((kk + 1 : Nat) : Int) more (p : Int) (q : Int) (x : Int) true rows := by
    intro k x hx
    rw [mizmazeref03_Table.l5, if_pos (by omega), if_pos (by rw [h.shape.len]; omega), if_pos (by omega), if_pos (by rw [h.shape.row p hp]; omega), hTr, if_pos (by omega), V.letters, Option.bind_some, decide_eq_true (by omega)]
  have hl5e : ∀ k, mizmazeref03_Table.l5 (k + 1) (n : Int) tab ((kk + 1 : Nat) : Int) more (p : Int) (q : Int) (m : Int) rows = mizmazeref03_Table.j6 k (n : Int) tab ((kk + 1 : Nat) : Int) more (p : Int) (q : Int) (m : Int) false rows := by
    intro k
    rw [mizmazeref03_Table.l5, if_pos (by omega), if_pos (by rw [h.shape.len]; omega), if_pos (by omega), if_pos (by rw [h.shape.row p hp]; omega), hTr, if_pos (by omega), V.letters, Option.bind_some, decide_eq_false (by omega)]
  intro e
  induction e with
  | zero =>
    intro x hx hy
    obtain rfl : x = m := by omega
    have hnk : ¬ MDist (nx rows) x p q (kk + 1) := fun hd => by
      obtain ⟨_, ⟨y, hy1, hy2⟩, _⟩ := hd.pred
      exact hy y hy1 hy2
    refine ⟨tab, more, ⟨h.shape, fun a b ha hb => ?_, ?_⟩, fun res hres => ?_⟩
    · by_cases hab : a = p ∧ b = q
      · obtain ⟨rfl, rfl⟩ := hab
        rw [if_pos (bef_next _ _)]
        refine Or.inr ⟨hT, fun d hd => ?_⟩
        rcases Nat.lt_or_ge d (kk + 1) with h1 | h1
        · exact hno d h1
        · obtain rfl : d = kk + 1 := by omega
          exact hnk
      · have e : bef a b p (q + 1) ↔ bef a b p q := by unfold bef; omega
        have := h.ent a b ha hb
        rwa [ite_iff e]
    · rw [h.more]
      constructor
      · rintro ⟨a, b, h1, h2, h3, h4⟩; exact ⟨a, b, h1, h2, by unfold bef at h3 ⊢; omega, h4⟩
      · rintro ⟨a, b, h1, h2, h3, h4⟩
        refine ⟨a, b, h1, h2, ?_, h4⟩
        by_cases hab : a = p ∧ b = q
        · obtain ⟨rfl, rfl⟩ := hab; exact absurd h4 hnk
        · unfold bef at h3 ⊢; omega
    · refine Ev.step (fun k => hl5e k) (Ev.step (fun k => ?_) hres)
      rw [mizmazeref03_Table.j6, if_neg (by decide), wrapS (by omega)]
  | succ e ih =>
    intro x hx hy
    have hxm : x < m := by omega
    have ha := V.nxLt hp hxm
    have hb := V.nxLt hq hxm
    have hj : ∀ k, mizmazeref03_Table.j6 (k + 1) (n : Int) tab ((kk + 1 : Nat) : Int) more (p : Int) (q : Int) (x : Int) true rows = if TT tab (nx rows p x) (nx rows q x) = (kk : Int) then mizmazeref03_Table.l5 k (n : Int) (tab.set p ((rd_L1 tab (p : Int)).set q ((kk + 1 : Nat) : Int))) ((kk + 1 : Nat) : Int) true (p : Int) (q : Int) ((x + 1 : Nat) : Int) rows else mizmazeref03_Table.l5 k (n : Int) tab ((kk + 1 : Nat) : Int) more (p : Int) (q : Int) ((x + 1 : Nat) : Int) rows := by
      intro k
      rw [mizmazeref03_Table.j6, if_pos rfl, if_pos (by omega), if_pos (by rw [V.len]; omega), if_pos (by omega), if_pos (by rw [V.row p hp]; omega), V.nxE hp hxm, if_pos (by omega), if_pos (by rw [h.shape.len]; omega), if_pos (by omega), if_pos (by rw [V.len]; omega), if_pos (by rw [V.row q hq]; omega), V.nxE hq hxm, if_pos (by omega), if_pos (by rw [h.shape.row _ ha]; omega),
        wrapI (by omega) (by omega), show (((kk + 1 : Nat) : Int) - 1) = (kk : Int) by omega]
      by_cases ht : TT tab (nx rows p x) (nx rows q x) = (kk : Int)
      · rw [if_pos ht, if_pos (show rd (rd_L1 tab (nx rows p x : Nat)) (nx rows q x : Nat) = (kk : Int) from ht), if_pos (by rw [h.shape.len]; omega), if_pos (by rw [h.shape.row p hp]; omega), wrapS (by omega)]
        simp only [Int.toNat_natCast]
      · rw [if_neg ht, if_neg (show ¬ rd (rd_L1 tab (nx rows p x : Nat)) (nx rows q x : Nat) = (kk : Int) from ht), wrapS (by omega)]
    by_cases ht : TT tab (nx rows p x) (nx rows q x) = (kk : Int)
    · have hd := (h.test ha hb).1 ht
      have hpq : p ≠ q := by
        rintro rfl
        exact hno 0 (by omega) (MDist.zero _ _ _)
      have hD : MDist (nx rows) m p q (kk + 1) := MDist.succ hpq hxm hd fun y e hy he => no_less V (d := 0) hno hy he
      refine ⟨_, true, ⟨h.shape.put (q := q) (v := ((kk + 1 : Nat) : Int)) hp, fun a b ha hb => ?_, ?_⟩, fun res hres => ?_⟩
      · unfold Ent
        rw [TT_put h.shape ha hb hp]
        by_cases hab : p = a ∧ q = b
        · rw [if_pos hab]
          obtain ⟨rfl, rfl⟩ := hab
          rw [if_pos (bef_next _ _)]
          exact Or.inl ⟨kk + 1, by omega, rfl, hD⟩
        · rw [if_neg hab]
          have e : bef a b p (q + 1) ↔ bef a b p q := by unfold bef; omega
          have := h.ent a b ha hb
          rwa [ite_iff e]
      · exact ⟨fun _ => ⟨p, q, hp, hq, Or.inr ⟨rfl, by omega⟩, hD⟩, fun _ => rfl⟩
      · refine Ev.step (fun k => hl5 k x hxm) (Ev.step (fun k => by rw [hj, if_pos ht]) (Ev.step (f := fun k => mizmazeref03_Table.j6 k (n : Int) (tab.set p ((rd_L1 tab (p : Int)).set q ((kk + 1 : Nat) : Int))) ((kk + 1 : Nat) : Int) true (p : Int) (q : Int) ((x + 1 : Nat) : Int) false rows) (fun k => ?_) (Ev.step (fun k => ?_) hres)))
        · have hs := h.shape.put (q := q) (v := ((kk + 1 : Nat) : Int)) hp
          have hv : rd (rd_L1 (tab.set p ((rd_L1 tab (p : Int)).set q ((kk + 1 : Nat) : Int))) (p : Int)) (q : Int) = ((kk + 1 : Nat) : Int) := by
            have := TT_put (q := q) (v := ((kk + 1 : Nat) : Int)) h.shape hp hq hp
            rw [if_pos ⟨rfl, rfl⟩] at this; exact this
          rw [mizmazeref03_Table.l5, if_pos (by omega), if_pos (by rw [hs.len]; omega), if_pos (by omega), if_pos (by rw [hs.row p hp]; omega), hv, if_neg (by omega)]
        · rw [mizmazeref03_Table.j6, if_neg (by decide), wrapS (by omega)]
    · obtain ⟨tab', more', h1, h2⟩ := ih (x + 1) (by omega) fun y hy2 hyd => by
        rcases Nat.lt_or_ge y x with h3 | h3
        · exact hy y h3 hyd
        · obtain rfl : y = x := by omega
          exact ht ((h.test ha hb).2 hyd)
      exact ⟨tab', more', h1, fun res hres => Ev.step (fun k => hl5 k x hxm) (Ev.step (fun k => by rw [hj, if_neg ht]) (h2 res hres))⟩
theorem cell {tab : List (List Int)} {kk p q : Nat} (hp : p < n) (hq : q < n) {more : Bool} (hkk : kk ≤ 1000000) (h : InPass (nx rows) m n tab (kk + 1) p q more) :
    ∃ tab' more', InPass (nx rows) m n tab' (kk + 1) p (q + 1) more' ∧ ∀ res, Ev (fun k => mizmazeref03_Table.l4 k (n : Int) tab' ((kk + 1 : Nat) : Int) more' (p : Int) ((q + 1 : Nat) : Int) rows) res → Ev (fun k => mizmazeref03_Table.l4 k (n : Int) tab ((kk + 1 : Nat) : Int) more (p : Int) (q : Int) rows) res := by
  have hn60 := V.n60
  have e0 : ¬ bef p q p q := by unfold bef; omega
  have hent := h.ent p q hp hq
  rw [if_neg e0] at hent
  have h4 : ∀ k, mizmazeref03_Table.l4 (k + 1) (n : Int) tab ((kk + 1 : Nat) : Int) more (p : Int) (q : Int) rows = mizmazeref03_Table.l5 k (n : Int) tab ((kk + 1 : Nat) : Int) more (p : Int) (q : Int) ((0 : Nat) : Int) rows := fun k => by
    rw [mizmazeref03_Table.l4, if_pos (by omega)]; rfl
  rcases hent with ⟨d, h1, h2, h3⟩ | ⟨h1, h2⟩
  · refine ⟨tab, more, ⟨h.shape, fun a b ha hb => ?_, ?_⟩, fun res hres => ?_⟩
    · by_cases hab : a = p ∧ b = q
      · obtain ⟨rfl, rfl⟩ := hab
        rw [if_pos (bef_next _ _)]
        exact Or.inl ⟨d, by omega, h2, h3⟩
      · have e : bef a b p (q + 1) ↔ bef a b p q := by unfold bef; omega
        have := h.ent a b ha hb
        rwa [ite_iff e]
    · rw [h.more]
      constructor
      · rintro ⟨a, b, k1, k2, k3, k4⟩; exact ⟨a, b, k1, k2, by unfold bef at k3 ⊢; omega, k4⟩
      · rintro ⟨a, b, k1, k2, k3, k4⟩
        refine ⟨a, b, k1, k2, ?_, k4⟩
        by_cases hab : a = p ∧ b = q
        · obtain ⟨rfl, rfl⟩ := hab; have := h3.uniq k4; omega
        · unfold bef at k3 ⊢; omega
    · have h2' : rd (rd_L1 tab (p : Int)) (q : Int) = (d : Int) := h2
      refine Ev.step (fun k => h4 k) (Ev.step (f := fun k => mizmazeref03_Table.j6 k (n : Int) tab ((kk + 1 : Nat) : Int) more (p : Int) (q : Int) ((0 : Nat) : Int) false rows) (fun k => ?_) (Ev.step (fun k => ?_) hres))
      · rw [mizmazeref03_Table.l5, if_pos (by omega), if_pos (by rw [h.shape.len]; omega), if_pos (by omega), if_pos (by rw [h.shape.row p hp]; omega), h2', if_neg (by omega)]
      · rw [mizmazeref03_Table.j6, if_neg (by decide), wrapS (by omega)]
  · obtain ⟨tab', more', k1, k2⟩ := cell_loop V hp hq hkk h h1 h2 m 0 (by omega) fun y hy => by omega
    exact ⟨tab', more', k1, fun res hres => Ev.step (fun k => h4 k) (k2 res hres)⟩
/-- What the table says in the end. -/
structure TabOk (f : Nat → Nat → Nat) (m n : Nat) (tab : List (List Int)) : Prop where
  shape : Shape tab n
  ent : ∀ p q, p < n → q < n → (∃ d : Nat, TT tab p q = (d : Int) ∧ MDist f m p q d) ∨ (TT tab p q = -1 ∧ ¬ Mg f m p q)
end
end Go.Proofs.Ytcpmmkennnjalaa.Q
end
section
namespace Go.Proofs.Ytcpmmkennnjalaa.Pure
open Go.RowKit Go.Proofs.YtcpmmkennnjalaaW.PrintWords Go.Proofs.YtcpmmkennnjalaaW.PrintLast Go.Proofs.YtcpmmkennnjalaaW.PrintMore Go.Proofs.Ytcpmmkennnjalaa.Q
set_option linter.unusedVariables false
set_option linter.unusedSimpArgs false
/-- how often a state is entered -/
def inn (rows : List (List Int)) (t : Nat) : Nat := (rows.map fun r => r.count (t : Int)).sum
section
variable {rows : List (List Int)} {n m : Nat} (V : VA rows n m)
include V
end
/-! ### the program's count -/
theorem incR_get : ∀ (row c : List Int) (B : Nat), (∀ x ∈ row, 0 ≤ x ∧ x < (c.length : Int)) → (∀ t : Nat, 0 ≤ rd c (t : Int) ∧ rd c (t : Int) ≤ (B : Int)) → B + row.length ≤ 1000000 → ∀ t : Nat, rd (incR c row) (t : Int) = rd c (t : Int) + ((row.count (t : Int) : Nat) : Int)
  | [], c, B, _, _, _, t => by simp [incR]
  | x :: row, c, B, hx, hc, hB, t => by
    obtain ⟨h0, h1⟩ := hx x List.mem_cons_self
    obtain ⟨i, rfl⟩ := Int.eq_ofNat_of_zero_le h0
    have hi : i < c.length := by omega
    have hci := hc i
    simp only [List.length_cons] at hB
    have hw : wrap64 (rd c (i : Int) + 1) = rd c (i : Int) + 1 := wrapI (by omega) (by omega)
    have hset : ∀ u : Nat, rd (c.set i (rd c (i : Int) + 1)) (u : Int) = if u = i then rd c (i : Int) + 1 else rd c (u : Int) := fun u => by
      rw [rdN, rdN, rdN, List.getD_eq_getElem?_getD, List.getElem?_set, List.getD_eq_getElem?_getD]
      by_cases hu : i = u
      · subst hu; rw [if_pos rfl, if_pos hi, if_pos rfl, Option.getD_some]
      · rw [if_neg hu, if_neg (fun h => hu h.symm), List.getD_eq_getElem?_getD]
    have ih := incR_get row (c.set i (rd c (i : Int) + 1)) (B + 1) (fun y hy => by rw [List.length_set]; exact hx y (List.mem_cons_of_mem _ hy)) (fun u => by
      rw [hset u]
      have := hc u
      split <;> omega) (by omega) t
    show rd (incR (c.set ((i : Int).toNat) (wrap64 (rd c (i : Int) + 1))) row) (t : Int) = _
    rw [Int.toNat_natCast, hw, ih, hset t]
    by_cases ht : t = i
    · subst ht; rw [if_pos rfl, List.count_cons_self]; omega
    · rw [if_neg ht, List.count_cons_of_ne (by omega)]
theorem incL_get {n : Nat} : ∀ (rows : List (List Int)) (c : List Int) (B : Nat), c.length = n → (∀ r ∈ rows, r.length ≤ 6 ∧ ∀ x ∈ r, 0 ≤ x ∧ x < (n : Int)) → (∀ t : Nat, 0 ≤ rd c (t : Int) ∧ rd c (t : Int) ≤ (B : Int)) → B + 6 * rows.length ≤ 1000000 → ∀ t : Nat, rd (rows.foldl incR c) (t : Int) = rd c (t : Int) + ((inn rows t : Nat) : Int)
  | [], c, B, _, _, _, _, t => by simp [inn]
  | r :: rows, c, B, hl, hr, hc, hB, t => by
    obtain ⟨h1, h2⟩ := hr r List.mem_cons_self
    simp only [List.length_cons] at hB
    have e := incR_get r c B (fun x hx => by rw [hl]; exact h2 x hx) hc (by omega)
    have ih := incL_get rows (incR c r) (B + 6) (by rw [incR_len, hl]) (fun r' hr' => hr r' (List.mem_cons_of_mem _ hr')) (fun u => by
      have h3 := hc u
      have h4 : r.count (u : Int) ≤ r.length := List.count_le_length
      rw [e u]; omega) (by omega) t
    show rd (rows.foldl incR (incR c r)) (t : Int) = _
    rw [ih, e t]
    unfold inn
    rw [List.map_cons, List.sum_cons]; omega
section
variable {rows : List (List Int)} {n m : Nat} (V : VA rows n m)
include V
theorem eul_val {b : Bool} (hb : b = true ↔ ∀ t, t < n → inn rows t = m) : euler_eulerian.f rows = some b := by
  have hlen := V.len
  unfold euler_eulerian.f
  rw [if_pos (validB_of V)]
  have hL : auto_Letters.f rows = some (m : Int) := by
    have h : (rd_L1 rows 0).length = m := V.row 0 V.n0
    unfold auto_Letters.f
    have h0 := V.n0
    rw [if_pos (by omega), h]
  rw [hL, Option.bind_some, hlen]
  have hin : ∀ r ∈ rows, r.length ≤ 6 ∧ ∀ x ∈ r, 0 ≤ x ∧ x < (n : Int) := fun r hr => by
    obtain ⟨s, hs, rfl⟩ := List.getElem_of_mem hr
    have hm6 := V.m6
    have h1 := V.row s (by omega)
    have h2 := V.ent s (by omega)
    rw [rdLE hs] at h1 h2
    refine ⟨by omega, fun x hx => ?_⟩
    obtain ⟨i, hi, rfl⟩ := List.getElem_of_mem hx
    exact inB_iff.1 h2 i hi
  have hz : ∀ t : Nat, rd (List.replicate n (0 : Int)) (t : Int) = 0 := fun t => by
    rw [rdN, List.getD_eq_getElem?_getD, List.getElem?_replicate]
    split <;> rfl
  have h60 := V.n60
  have key := incL_get (n := n) rows (List.replicate n 0) 0 List.length_replicate hin (fun t => by rw [hz t]; omega) (by omega)
  have hcl : (incL n rows).length = n := incL_len n rows
  have hany : (incL n rows).any (fun x => x != (m : Int)) = !b := by
    rw [Bool.eq_iff_iff, List.any_eq_true, Bool.not_eq_true']
    constructor
    · rintro ⟨x, hx, hne⟩
      obtain ⟨t, ht, rfl⟩ := List.getElem_of_mem hx
      refine Bool.eq_false_iff.2 fun h => ?_
      have e := key t
      rw [hz t, hb.1 h t (by omega)] at e
      have e2 : rd (incL n rows) (t : Int) = (incL n rows)[t] := rdE ht
      have e3 : rd (incL n rows) (t : Int) = 0 + (m : Int) := e
      rw [← e2, e3] at hne
      simp at hne
    · intro h
      have hnot : ¬ ∀ t, t < n → inn rows t = m := fun h2 => by rw [hb.2 h2] at h; cases h
      obtain ⟨t, ht⟩ := Classical.not_forall.1 hnot
      obtain ⟨ht1, ht2⟩ := Classical.not_imp.1 ht
      have e : rd (incL n rows) (t : Int) = 0 + ((inn rows t : Nat) : Int) := by have := key t; rw [hz t] at this; exact this
      have e2 : rd (incL n rows) (t : Int) = (incL n rows)[t]'(by omega) := rdE (by omega)
      refine ⟨(incL n rows)[t]'(by omega), List.getElem_mem _, ?_⟩
      rw [← e2, e]
      simp; omega
  rw [hany, Bool.not_not]
end
end Go.Proofs.Ytcpmmkennnjalaa.Pure
end
section
namespace Go.Proofs.Ytcpmmkennnjalaa.Q
open Go.RowKit Go.Proofs.YtcpmmkennnjalaaW.PrintWords Go.Proofs.YtcpmmkennnjalaaW.PrintLast Go.Proofs.YtcpmmkennnjalaaW.PrintMore
set_option linter.unusedVariables false
/-- A set of states in order. -/
theorem auto_set_yes {rows : List (List Int)} {n m : Nat} (V : VA rows n m) {q : List Nat} (hq : ∀ x ∈ q, x < n) (hs : q.Pairwise (· < ·)) (hl : q.length ≤ 1000000) : Ev (fun k => auto_Set.f k rows (toI q)) true := by
  have hlen := V.len
  unfold auto_Set.f
  rw [toI_len]
  have key : ∀ d i : Nat, i + d = q.length → Ev (fun k => auto_Set.l0 k (toI q) (toI q) (q.length : Int) (i : Int) rows) true := by
    intro d
    induction d with
    | zero =>
      intro i hi
      refine Ev.next ?_
      simp only [auto_Set.l0, if_neg (by omega : ¬ (i : Int) < (q.length : Int))]
      exact Ev.now _
    | succ d ih =>
      intro i hi
      have hil : i < q.length := by omega
      have hx := hq q[i] (List.getElem_mem hil)
      refine Ev.next ?_
      simp only [auto_Set.l0, if_pos (by omega : (i : Int) < (q.length : Int)), if_pos (by omega : (0 : Int) ≤ (i : Int)), toI_len, toI_rd hil, auto_state, Option.bind_some, decide_eq_true (by omega : (0 : Int) ≤ ((q[i] : Nat) : Int) ∧ ((q[i] : Nat) : Int) < (rows.length : Int)), if_true, wrapS (by omega : i + 1 ≤ 9223372036854775807)]
      by_cases h0 : i = 0
      · simp only [if_neg (by omega : ¬ (i : Int) > 0)]
        exact ih (i + 1) (by omega)
      · have hw : wrap64 ((i : Int) - 1) = ((i - 1 : Nat) : Int) := by rw [wrapI (by omega) (by omega)]; omega
        have hlt : q[i - 1] < q[i] := List.pairwise_iff_getElem.1 hs (i - 1) i (by omega) hil (by omega)
        simp only [if_pos (by omega : (i : Int) > 0), hw, if_pos (by omega : (0 : Int) ≤ ((i - 1 : Nat) : Int)), if_pos (by omega : ((i - 1 : Nat) : Int) < (q.length : Int)), toI_rd (by omega : i - 1 < q.length), if_neg (by omega : ¬ ((q[i - 1] : Nat) : Int) ≥ ((q[i] : Nat) : Int))]
        exact ih (i + 1) (by omega)
  exact key q.length 0 (by omega)
end Go.Proofs.Ytcpmmkennnjalaa.Q
end
section
namespace Go.Proofs.Ytcpmmkennnjalaa.Pure
open Go.RowKit Go.Proofs.YtcpmmkennnjalaaW.PrintWords Go.Proofs.YtcpmmkennnjalaaW.PrintLast Go.Proofs.YtcpmmkennnjalaaW.PrintMore Go.Proofs.Ytcpmmkennnjalaa.Q
set_option linter.unusedVariables false
set_option linter.unusedSimpArgs false
theorem mem_toIE {z : Nat} {l : List Nat} : (z : Int) ∈ toI l ↔ z ∈ l := by
  unfold toI
  rw [List.mem_map]
  constructor
  · rintro ⟨y, hy, e⟩
    obtain rfl : y = z := Int.ofNat.inj e
    exact hy
  · exact fun h => ⟨z, h, rfl⟩
section
variable {rows : List (List Int)} {n m : Nat} (V : VA rows n m)
include V
end
end Go.Proofs.Ytcpmmkennnjalaa.Pure
end
