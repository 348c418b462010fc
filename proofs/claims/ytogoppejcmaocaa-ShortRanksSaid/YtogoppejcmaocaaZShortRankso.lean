/- The law ShortRanks holds: Rank returns the least number of states to which a word leads, and the first shortest word that leads to no more, or the documented error, for any automaton; no bound on the argument beyond its type's. (text 15 of 30) -/
import Derived.Test.YtogoppejcmaocaaZShortRanksh
import Derived.Test.YtogoppejcmaocaaZShortRanksm
import Derived.Test.YtogoppejcmaocaaZShortRanksg
import Derived.Test.YtogoppejcmaocaaZShortRanksn
/-! Part MRefImg -/
section
namespace Go.Proofs.Ytogoppejcmaocaa.Q
open Go.RowKit Go.Proofs.YtogoppejcmaocaaW.PrintWords Go.Proofs.YtogoppejcmaocaaW.PrintLast Go.Proofs.YtogoppejcmaocaaW.PrintMore
set_option linter.unusedVariables false
set_option linter.unusedSectionVars false
set_option linter.unusedSimpArgs false
/-! ### reference 1: words and images -/
theorem ref_run {rows : List (List Int)} {n m s : Nat} (V : VA rows n m) (hs : s < n) {w : List Nat} (hw : Wd m w) (hl : w.length ≤ 1000000) : Ev (fun k => mizmazeref01_Run.f k rows (s : Int) (toI w)) ((run (nx rows) s w : Nat) : Int) := by
  have hlen := V.len
  have key : ∀ (d i s : Nat), i + d = w.length → s < n → Ev (fun k => mizmazeref01_Run.l0 k (s : Int) (toI w) (i : Int) rows) ((run (nx rows) s (w.drop i) : Nat) : Int) := by
    intro d
    induction d with
    | zero =>
      intro i s hi hs
      rw [List.drop_eq_nil_of_le (by omega)]
      refine Ev.step (f := fun _ => some (s : Int)) (fun k => ?_) (Ev.now _)
      rw [mizmazeref01_Run.l0, toI_len, if_neg (by omega)]
    | succ d ih =>
      intro i s hi hs
      have hil : i < w.length := by omega
      have hx := hw w[i] (List.getElem_mem hil)
      rw [List.drop_eq_getElem_cons hil]
      refine Ev.step (fun k => ?_) (ih (i + 1) _ (by omega) (V.nxLt hs hx))
      rw [mizmazeref01_Run.l0, toI_len, if_pos (by omega), if_pos (by omega), if_pos (by omega), if_pos (by omega), toI_rd hil, if_pos (by omega), V.row s hs, if_pos (by omega), V.nxE hs hx, wrapS (by omega)]
  have := key w.length 0 s (by omega) hs
  rw [List.drop_zero] at this
  exact this
theorem ref_ends {rows : List (List Int)} {n m : Nat} (V : VA rows n m) {w : List Nat} (hw : Wd m w) (hl : w.length ≤ 1000000) : Ev (fun k => mizmazeref01_Ends.f k rows (toI w)) (toI ((List.range n).map fun s => run (nx rows) s w)) := by
  have hlen := V.len; have h60 := V.n60
  have key : ∀ d i : Nat, i + d = n → Ev (fun k => mizmazeref01_Ends.l0 k (toI w) (toI ((List.range i).map fun s => run (nx rows) s w)) (i : Int) rows) (toI ((List.range n).map fun s => run (nx rows) s w)) := by
    intro d
    induction d with
    | zero =>
      intro i hi
      obtain rfl : i = n := by omega
      refine Ev.step (f := fun _ => some (toI ((List.range i).map fun s => run (nx rows) s w))) (fun k => ?_) (Ev.now _)
      rw [mizmazeref01_Ends.l0, hlen, if_neg (by omega)]
    | succ d ih =>
      intro i hi
      refine Ev.step (f := fun k => (mizmazeref01_Run.f k rows (i : Int) (toI w)).bind fun t => mizmazeref01_Ends.l0 k (toI w) (toI ((List.range i).map fun s => run (nx rows) s w) ++ [t]) ((i + 1 : Nat) : Int) rows) (fun k => ?_) (Ev.bind (ref_run V (by omega) hw hl) ?_)
      · rw [mizmazeref01_Ends.l0, hlen, if_pos (by omega), toI_len, List.length_map, List.length_range, wrapS (by omega)]
        simp only [if_pos (show i < 17592186044416 by omega)]
      · have e : toI ((List.range i).map fun s => run (nx rows) s w) ++ [((run (nx rows) i w : Nat) : Int)] = toI ((List.range (i + 1)).map fun s => run (nx rows) s w) := by
          rw [← toI_snoc, List.range_succ, List.map_append]; rfl
        rw [e]; exact ih (i + 1) (by omega)
  exact key n 0 (by omega)
/-- The states to which a word leads from the states of a set, in order. -/
def imgL (f : Nat → Nat → Nat) (n : Nat) (q w : List Nat) : List Nat := (List.range n).filter fun t => decide (t ∈ q.map fun s => run f s w)
theorem imgL_mem {f : Nat → Nat → Nat} {n t : Nat} {q w : List Nat} : t ∈ imgL f n q w ↔ t < n ∧ ∃ s ∈ q, run f s w = t := by
  unfold imgL
  rw [List.mem_filter, List.mem_range, decide_eq_true_eq, List.mem_map]
theorem imgL_srt (f : Nat → Nat → Nat) (n : Nat) (q w : List Nat) : (imgL f n q w).Pairwise (· < ·) := List.Pairwise.filter _ List.pairwise_lt_range
theorem ref_image {rows : List (List Int)} {n m : Nat} (V : VA rows n m) {q w : List Nat} (hq : ∀ x ∈ q, x < n) (hql : q.length ≤ 1000000) (hw : Wd m w) (hl : w.length ≤ 1000000) : Ev (fun k => mizmazeref01_Image.f k rows (toI q) (toI w)) (toI (imgL (nx rows) n q w)) := by
  have hlen := V.len; have h60 := V.n60
  have key1 : ∀ d i : Nat, i + d = n → Ev (fun k => mizmazeref01_Image.l1 k (toI (q.map fun s => run (nx rows) s w)) (toI ((List.range i).filter fun t => decide (t ∈ q.map fun s => run (nx rows) s w))) (i : Int) rows) (toI (imgL (nx rows) n q w)) := by
    intro d
    induction d with
    | zero =>
      intro i hi
      obtain rfl : i = n := by omega
      refine Ev.step (f := fun _ => some (toI (imgL (nx rows) i q w))) (fun k => ?_) (Ev.now _)
      rw [mizmazeref01_Image.l1, hlen, if_neg (by omega)]; rfl
    | succ d ih =>
      intro i hi
      have hfl : ((List.range i).filter fun t => decide (t ∈ q.map fun s => run (nx rows) s w)).length ≤ i := by
        have := List.length_filter_le (fun t => decide (t ∈ q.map fun s => run (nx rows) s w)) (List.range i)
        rwa [List.length_range] at this
      have hmem : (decide ((i : Int) ∈ toI (q.map fun s => run (nx rows) s w))) = decide (i ∈ q.map fun s => run (nx rows) s w) := by
        rw [decide_eq_decide]
        unfold toI
        rw [List.mem_map]
        constructor
        · rintro ⟨x, hx, he⟩; have : x = i := by omega
          exact this ▸ hx
        · intro h; exact ⟨i, h, rfl⟩
      have hs := ih (i + 1) (by omega)
      rw [List.range_succ, List.filter_append] at hs
      refine Ev.step (f := fun k => (mizmazeref01_Has.f k (toI (q.map fun s => run (nx rows) s w)) (i : Int)).bind _) (fun k => by rw [mizmazeref01_Image.l1, hlen, if_pos (by omega)]) (Ev.bind (ref_has _ _ (by rw [toI_len, List.length_map]; omega)) ?_)
      rw [hmem, wrapS (by omega)]
      by_cases h : i ∈ q.map fun s => run (nx rows) s w
      · simp only [decide_eq_true h, if_true, toI_len, if_pos (show ((List.range i).filter fun t => decide (t ∈ q.map fun s => run (nx rows) s w)).length < 17592186044416 by omega)]
        rw [← toI_snoc]
        rw [List.filter_cons_of_pos (by simpa using h), List.filter_nil] at hs
        exact hs
      · simp only [decide_eq_false h, Bool.false_eq_true, if_false]
        rw [List.filter_cons_of_neg (by simpa using h), List.filter_nil, List.append_nil] at hs
        exact hs
  have key0 : ∀ d i : Nat, i + d = q.length → Ev (fun k => mizmazeref01_Image.l0 k (toI q) (toI ((List.range n).map fun s => run (nx rows) s w)) (toI ((q.take i).map fun s => run (nx rows) s w)) (i : Int) rows) (toI (imgL (nx rows) n q w)) := by
    intro d
    induction d with
    | zero =>
      intro i hi
      rw [List.take_of_length_le (by omega)]
      refine Ev.step (fun k => ?_) (key1 n 0 (by omega))
      rw [mizmazeref01_Image.l0, toI_len, if_neg (by omega)]; rfl
    | succ d ih =>
      intro i hi
      have hil : i < q.length := by omega
      have hx := hq q[i] (List.getElem_mem hil)
      have htl : (q.take i).length = i := by rw [List.length_take]; omega
      have hr : rd (toI ((List.range n).map fun s => run (nx rows) s w)) ((q[i] : Nat) : Int) = ((run (nx rows) q[i] w : Nat) : Int) := by
        rw [toI_rd (by simpa using hx)]; simp
      refine Ev.step (fun k => ?_) (ih (i + 1) (by omega))
      rw [mizmazeref01_Image.l0, toI_len, if_pos (by omega), if_pos (by omega), toI_rd hil, if_pos (by omega), toI_len, List.length_map, List.length_range, if_pos (by omega), toI_len, List.length_map, htl, if_pos (by omega), hr, wrapS (by omega), ← toI_snoc, List.take_succ_eq_append_getElem hil, List.map_append]
      rfl
  unfold mizmazeref01_Image.f
  exact Ev.bind (ref_ends V hw hl) (key0 q.length 0 (by omega))
end Go.Proofs.Ytogoppejcmaocaa.Q
end
/-! Part MTable -/
section
namespace Go.Proofs.Ytogoppejcmaocaa.Q
open Go.RowKit Go.Proofs.YtogoppejcmaocaaW.PrintWords Go.Proofs.YtogoppejcmaocaaW.PrintLast Go.Proofs.YtogoppejcmaocaaW.PrintMore
set_option linter.unusedVariables false
set_option linter.unusedSectionVars false
set_option linter.unusedSimpArgs false
/-! ### the reference's table -/
def TT (tab : List (List Int)) (p q : Nat) : Int := rd (rd_L1 tab (p : Int)) (q : Int)
structure Shape (tab : List (List Int)) (n : Nat) : Prop where
  len : tab.length = n
  row : ∀ p, p < n → (rd_L1 tab (p : Int)).length = n
theorem rdL_set {l : List (List Int)} {i j : Nat} {v : List Int} (hj : j < l.length) : rd_L1 (l.set i v) (j : Int) = if i = j then v else rd_L1 l (j : Int) := by
  rw [rdLE (by rw [List.length_set]; exact hj), rdLE hj, List.getElem_set]
theorem rdS_set {l : List Int} {i j : Nat} {v : Int} (hj : j < l.length) : rd (l.set i v) (j : Int) = if i = j then v else rd l (j : Int) := by
  rw [rdE (by rw [List.length_set]; exact hj), rdE hj, List.getElem_set]
theorem Shape.put {tab : List (List Int)} {n p q : Nat} {v : Int} (h : Shape tab n) (hp : p < n) : Shape (tab.set p ((rd_L1 tab (p : Int)).set q v)) n := by
  refine ⟨by rw [List.length_set]; exact h.len, fun s hs => ?_⟩
  rw [rdL_set (by rw [h.len]; exact hs)]
  split
  · rw [List.length_set]; exact h.row p hp
  · exact h.row s hs
theorem TT_put {tab : List (List Int)} {n p q a b : Nat} {v : Int} (h : Shape tab n) (ha : a < n) (hb : b < n) (hp : p < n) : TT (tab.set p ((rd_L1 tab (p : Int)).set q v)) a b = if p = a ∧ q = b then v else TT tab a b := by
  unfold TT
  rw [rdL_set (by rw [h.len]; exact ha)]
  by_cases e : p = a
  · subst e
    rw [if_pos rfl, rdS_set (by rw [h.row p hp]; exact hb)]
    by_cases e2 : q = b
    · rw [if_pos e2, if_pos ⟨rfl, e2⟩]
    · rw [if_neg e2, if_neg (fun h => e2 h.2)]
  · rw [if_neg e, if_neg (fun h => e h.1)]
/-- What an entry says once the words of fewer than kk letters are known. -/
def Ent (f : Nat → Nat → Nat) (m : Nat) (tab : List (List Int)) (kk p q : Nat) : Prop := (∃ d : Nat, d < kk ∧ TT tab p q = (d : Int) ∧ MDist f m p q d) ∨ (TT tab p q = -1 ∧ ∀ d, d < kk → ¬ MDist f m p q d)
def bef (p q p0 q0 : Nat) : Prop := p < p0 ∨ p = p0 ∧ q < q0
instance (p q p0 q0 : Nat) : Decidable (bef p q p0 q0) := inferInstanceAs (Decidable (_ ∨ _))
theorem bef_next (p q : Nat) : bef p q p (q + 1) := Or.inr ⟨rfl, Nat.lt_succ_self q⟩
theorem ite_iff {c d : Prop} [Decidable c] [Decidable d] (h : c ↔ d) {a b : Nat} : (if c then a else b) = if d then a else b := by
  by_cases hc : c
  · rw [if_pos hc, if_pos (h.1 hc)]
  · rw [if_neg hc, if_neg fun hd => hc (h.2 hd)]
structure InPass (f : Nat → Nat → Nat) (m n : Nat) (tab : List (List Int)) (kk p0 q0 : Nat) (more : Bool) : Prop where
  shape : Shape tab n
  ent : ∀ p q, p < n → q < n → Ent f m tab (if bef p q p0 q0 then kk + 1 else kk) p q
  more : more = true ↔ ∃ p q, p < n ∧ q < n ∧ bef p q p0 q0 ∧ MDist f m p q kk
theorem InPass.test {f : Nat → Nat → Nat} {m n kk p0 q0 : Nat} {tab : List (List Int)} {more : Bool} (h : InPass f m n tab (kk + 1) p0 q0 more) {u v : Nat} (hu : u < n) (hv : v < n) : TT tab u v = (kk : Int) ↔ MDist f m u v kk := by
  have h1 : kk < (if bef u v p0 q0 then kk + 1 + 1 else kk + 1) := by split <;> omega
  rcases h.ent u v hu hv with ⟨d, h2, h3, h4⟩ | ⟨h2, h3⟩
  · rw [h3]
    refine ⟨fun e => ?_, fun e => by rw [h4.uniq e]⟩
    have e2 : d = kk := by omega
    exact e2 ▸ h4
  · rw [h2]
    exact ⟨fun e => by omega, fun e => absurd e (h3 kk h1)⟩
section
variable {rows : List (List Int)} {n m : Nat} (V : VA rows n m)
include V
theorem no_less {p q kk d : Nat} (h : ∀ d, d < kk + 1 → ¬ MDist (nx rows) m p q d) {x e : Nat} (hx : x < m) (he : MDist (nx rows) m (nx rows p x) (nx rows q x) e) : kk ≤ e := by
  obtain ⟨d, hd⟩ := Mg.dist (Mg.step hx he.mg)
  obtain ⟨⟨w, h1, h2, h3⟩, _⟩ := he
  have h4 := hd.2 (x :: w) (Wd.cons hx h1) h3
  simp only [List.length_cons] at h4
  rcases Nat.lt_or_ge d (kk + 1) with h5 | h5
  · exact absurd hd (h d h5)
  · omega
theorem cell_loop {tab : List (List Int)} {kk p q : Nat} (hp : p < n) (hq : q < n) {more : Bool} (hkk : kk ≤ 1000000) (h : InPass (nx rows) m n tab (kk + 1) p q more) (hT : TT tab p q = -1) (hno : ∀ d, d < kk + 1 → ¬ MDist (nx rows) m p q d) :
    ∀ (e x : Nat), x + e = m → (∀ y, y < x → ¬ MDist (nx rows) m (nx rows p y) (nx rows q y) kk) → ∃ tab' more', InPass (nx rows) m n tab' (kk + 1) p (q + 1) more' ∧ ∀ res, Ev (fun k => mizmazeref03_Table.l4 k (n : Int) tab' ((kk + 1 : Nat) : Int) more' (p : Int) ((q + 1 : Nat) : Int) rows) res → Ev (fun k => mizmazeref03_Table.l5 k (n : Int) tab ((kk + 1 : Nat) : Int) more (p : Int) (q : Int) (x : Int) rows) res := by
  have hn60 := V.n60
  have hm6 := V.m6
  have hTr : rd (rd_L1 tab (p : Int)) (q : Int) = -1 := hT
  have hl5 : ∀ k (x : Nat), x < m → mizmazeref03_Table.l5 (k + 1) (n : Int) tab ((kk + 1 : Nat) : Int) more (p : Int) (q : Int) (x : Int) rows = mizmazeref03_Table.j6 k (n : Int) tab ((kk + 1 : Nat) : Int) more (p : Int) (q : Int) (x : Int) true rows := by
    intro k x hx
    rw [mizmazeref03_Table.l5, if_pos (by omega), if_pos (by rw [h.shape.len]; omega), if_pos (by omega), if_pos (by rw [h.shape.row p hp]; omega), hTr, if_pos (by omega), V.letters, Option.bind_some, decide_eq_true (by omega)]
  have hl5e : ∀ k, mizmazeref03_Table.l5 (k + 1) (n : Int) tab ((kk + 1 : Nat) : Int) more (p : Int) (q : Int) (m : Int) rows = mizmazeref03_Table.j6 k (n : Int) tab ((kk + 1 : Nat) : Int) more (p : Int) (q : Int) (m : Int) false rows := by
    intro k
    rw [mizmazeref03_Table.l5, if_pos (by omega), if_pos (by rw [h.shape.len]; omega), if_pos (by omega), if_pos (by rw [h.shape.row p hp]; omega), hTr, if_pos (by omega), V.letters, Option.bind_some, decide_eq_false (by omega)]
  intro e
  induction e with
  | zero =>
    intro x hx hy
    obtain rfl : x = m := by omega
    have hnk : ¬ MDist (nx rows) x p q (kk + 1) := fun hd => by
      obtain ⟨_, ⟨y, hy1, hy2⟩, _⟩ := hd.pred
      exact hy y hy1 hy2
    refine ⟨tab, more, ⟨h.shape, fun a b ha hb => ?_, ?_⟩, fun res hres => ?_⟩
    · by_cases hab : a = p ∧ b = q
      · obtain ⟨rfl, rfl⟩ := hab
        rw [if_pos (bef_next _ _)]
        refine Or.inr ⟨hT, fun d hd => ?_⟩
        rcases Nat.lt_or_ge d (kk + 1) with h1 | h1
        · exact hno d h1
        · obtain rfl : d = kk + 1 := by omega
          exact hnk
      · have e : bef a b p (q + 1) ↔ bef a b p q := by unfold bef; omega
        have := h.ent a b ha hb
        rwa [ite_iff e]
    · rw [h.more]
      constructor
      · rintro ⟨a, b, h1, h2, h3, h4⟩; exact ⟨a, b, h1, h2, by unfold bef at h3 ⊢; omega, h4⟩
      · rintro ⟨a, b, h1, h2, h3, h4⟩
        refine ⟨a, b, h1, h2, ?_, h4⟩
        by_cases hab : a = p ∧ b = q
        · obtain ⟨rfl, rfl⟩ := hab; exact absurd h4 hnk
        · unfold bef at h3 ⊢; omega
    · refine Ev.step (fun k => hl5e k) (Ev.step (fun k => ?_) hres)
      rw [mizmazeref03_Table.j6, if_neg (by decide), wrapS (by omega)]
  | succ e ih =>
    intro x hx hy
    have hxm : x < m := by omega
    have ha := V.nxLt hp hxm
    have hb := V.nxLt hq hxm
    have hj : ∀ k, mizmazeref03_Table.j6 (k + 1) (n : Int) tab ((kk + 1 : Nat) : Int) more (p : Int) (q : Int) (x : Int) true rows = if TT tab (nx rows p x) (nx rows q x) = (kk : Int) then mizmazeref03_Table.l5 k (n : Int) (tab.set p ((rd_L1 tab (p : Int)).set q ((kk + 1 : Nat) : Int))) ((kk + 1 : Nat) : Int) true (p : Int) (q : Int) ((x + 1 : Nat) : Int) rows else mizmazeref03_Table.l5 k (n : Int) tab ((kk + 1 : Nat) : Int) more (p : Int) (q : Int) ((x + 1 : Nat) : Int) rows := by
      intro k
      rw [mizmazeref03_Table.j6, if_pos rfl, if_pos (by omega), if_pos (by rw [V.len]; omega), if_pos (by omega), if_pos (by rw [V.row p hp]; omega), V.nxE hp hxm, if_pos (by omega), if_pos (by rw [h.shape.len]; omega), if_pos (by omega), if_pos (by rw [V.len]; omega), if_pos (by rw [V.row q hq]; omega), V.nxE hq hxm, if_pos (by omega), if_pos (by rw [h.shape.row _ ha]; omega),
        wrapI (by omega) (by omega), show (((kk + 1 : Nat) : Int) - 1) = (kk : Int) by omega]
      by_cases ht : TT tab (nx rows p x) (nx rows q x) = (kk : Int)
      · rw [if_pos ht, if_pos (show rd (rd_L1 tab (nx rows p x : Nat)) (nx rows q x : Nat) = (kk : Int) from ht), if_pos (by rw [h.shape.len]; omega), if_pos (by rw [h.shape.row p hp]; omega), wrapS (by omega)]
        simp only [Int.toNat_natCast]
      · rw [if_neg ht, if_neg (show ¬ rd (rd_L1 tab (nx rows p x : Nat)) (nx rows q x : Nat) = (kk : Int) from ht), wrapS (by omega)]
    by_cases ht : TT tab (nx rows p x) (nx rows q x) = (kk : Int)
    · have hd := (h.test ha hb).1 ht
      have hpq : p ≠ q := by
        rintro rfl
        exact hno 0 (by omega) (MDist.zero _ _ _)
      have hD : MDist (nx rows) m p q (kk + 1) := MDist.succ hpq hxm hd fun y e hy he => no_less V (d := 0) hno hy he
      refine ⟨_, true, ⟨h.shape.put (q := q) (v := ((kk + 1 : Nat) : Int)) hp, fun a b ha hb => ?_, ?_⟩, fun res hres => ?_⟩
      · unfold Ent
        rw [TT_put h.shape ha hb hp]
        by_cases hab : p = a ∧ q = b
        · rw [if_pos hab]
          obtain ⟨rfl, rfl⟩ := hab
          rw [if_pos (bef_next _ _)]
          exact Or.inl ⟨kk + 1, by omega, rfl, hD⟩
        · rw [if_neg hab]
          have e : bef a b p (q + 1) ↔ bef a b p q := by unfold bef; omega
          have := h.ent a b ha hb
          rwa [ite_iff e]
      · exact ⟨fun _ => ⟨p, q, hp, hq, Or.inr ⟨rfl, by omega⟩, hD⟩, fun _ => rfl⟩
      · refine Ev.step (fun k => hl5 k x hxm) (Ev.step (fun k => by rw [hj, if_pos ht]) (Ev.step (f := fun k => mizmazeref03_Table.j6 k (n : Int) (tab.set p ((rd_L1 tab (p : Int)).set q ((kk + 1 : Nat) : Int))) ((kk + 1 : Nat) : Int) true (p : Int) (q : Int) ((x + 1 : Nat) : Int) false rows) (fun k => ?_) (Ev.step (fun k => ?_) hres)))
        · have hs := h.shape.put (q := q) (v := ((kk + 1 : Nat) : Int)) hp
          have hv : rd (rd_L1 (tab.set p ((rd_L1 tab (p : Int)).set q ((kk + 1 : Nat) : Int))) (p : Int)) (q : Int) = ((kk + 1 : Nat) : Int) := by
            have := TT_put (q := q) (v := ((kk + 1 : Nat) : Int)) h.shape hp hq hp
            rw [if_pos ⟨rfl, rfl⟩] at this; exact this
          rw [mizmazeref03_Table.l5, if_pos (by omega), if_pos (by rw [hs.len]; omega), if_pos (by omega), if_pos (by rw [hs.row p hp]; omega), hv, if_neg (by omega)]
        · rw [mizmazeref03_Table.j6, if_neg (by decide), wrapS (by omega)]
    · obtain ⟨tab', more', h1, h2⟩ := ih (x + 1) (by omega) fun y hy2 hyd => by
        rcases Nat.lt_or_ge y x with h3 | h3
        · exact hy y h3 hyd
        · obtain rfl : y = x := by omega
          exact ht ((h.test ha hb).2 hyd)
      exact ⟨tab', more', h1, fun res hres => Ev.step (fun k => hl5 k x hxm) (Ev.step (fun k => by rw [hj, if_neg ht]) (h2 res hres))⟩
theorem cell {tab : List (List Int)} {kk p q : Nat} (hp : p < n) (hq : q < n) {more : Bool} (hkk : kk ≤ 1000000) (h : InPass (nx rows) m n tab (kk + 1) p q more) :
    ∃ tab' more', InPass (nx rows) m n tab' (kk + 1) p (q + 1) more' ∧ ∀ res, Ev (fun k => mizmazeref03_Table.l4 k (n : Int) tab' ((kk + 1 : Nat) : Int) more' (p : Int) ((q + 1 : Nat) : Int) rows) res → Ev (fun k => mizmazeref03_Table.l4 k (n : Int) tab ((kk + 1 : Nat) : Int) more (p : Int) (q : Int) rows) res := by
  have hn60 := V.n60
  have e0 : ¬ bef p q p q := by unfold bef; omega
  have hent := h.ent p q hp hq
  rw [if_neg e0] at hent
  have h4 : ∀ k, mizmazeref03_Table.l4 (k + 1) (n : Int) tab ((kk + 1 : Nat) : Int) more (p : Int) (q : Int) rows = mizmazeref03_Table.l5 k (n : Int) tab ((kk + 1 : Nat) : Int) more (p : Int) (q : Int) ((0 : Nat) : Int) rows := fun k => by
    rw [mizmazeref03_Table.l4, if_pos (by omega)]; rfl
  rcases hent with ⟨d, h1, h2, h3⟩ | ⟨h1, h2⟩
  · refine ⟨tab, more, ⟨h.shape, fun a b ha hb => ?_, ?_⟩, fun res hres => ?_⟩
    · by_cases hab : a = p ∧ b = q
      · obtain ⟨rfl, rfl⟩ := hab
        rw [if_pos (bef_next _ _)]
        exact Or.inl ⟨d, by omega, h2, h3⟩
      · have e : bef a b p (q + 1) ↔ bef a b p q := by unfold bef; omega
        have := h.ent a b ha hb
        rwa [ite_iff e]
    · rw [h.more]
      constructor
      · rintro ⟨a, b, k1, k2, k3, k4⟩; exact ⟨a, b, k1, k2, by unfold bef at k3 ⊢; omega, k4⟩
      · rintro ⟨a, b, k1, k2, k3, k4⟩
        refine ⟨a, b, k1, k2, ?_, k4⟩
        by_cases hab : a = p ∧ b = q
        · obtain ⟨rfl, rfl⟩ := hab; have := h3.uniq k4; omega
        · unfold bef at k3 ⊢; omega
    · have h2' : rd (rd_L1 tab (p : Int)) (q : Int) = (d : Int) := h2
      refine Ev.step (fun k => h4 k) (Ev.step (f := fun k => mizmazeref03_Table.j6 k (n : Int) tab ((kk + 1 : Nat) : Int) more (p : Int) (q : Int) ((0 : Nat) : Int) false rows) (fun k => ?_) (Ev.step (fun k => ?_) hres))
      · rw [mizmazeref03_Table.l5, if_pos (by omega), if_pos (by rw [h.shape.len]; omega), if_pos (by omega), if_pos (by rw [h.shape.row p hp]; omega), h2', if_neg (by omega)]
      · rw [mizmazeref03_Table.j6, if_neg (by decide), wrapS (by omega)]
  · obtain ⟨tab', more', k1, k2⟩ := cell_loop V hp hq hkk h h1 h2 m 0 (by omega) fun y hy => by omega
    exact ⟨tab', more', k1, fun res hres => Ev.step (fun k => h4 k) (k2 res hres)⟩
theorem row_loop {kk p : Nat} (hp : p < n) (hkk : kk ≤ 1000000) : ∀ (e q : Nat) (tab : List (List Int)) (more : Bool), q + e = n → InPass (nx rows) m n tab (kk + 1) p q more →
    ∃ tab' more', InPass (nx rows) m n tab' (kk + 1) (p + 1) 0 more' ∧ ∀ res, Ev (fun k => mizmazeref03_Table.l3 k (n : Int) tab' ((kk + 1 : Nat) : Int) more' ((p + 1 : Nat) : Int) rows) res → Ev (fun k => mizmazeref03_Table.l4 k (n : Int) tab ((kk + 1 : Nat) : Int) more (p : Int) (q : Int) rows) res := by
  have hn60 := V.n60
  intro e
  induction e with
  | zero =>
    intro q tab more hq h
    obtain rfl : q = n := by omega
    have eq : ∀ a b, b < q → (bef a b (p + 1) 0 ↔ bef a b p q) := fun a b hb => by unfold bef; omega
    refine ⟨tab, more, ⟨h.shape, fun a b ha hb => ?_, ?_⟩, fun res hres => Ev.step (fun k => ?_) hres⟩
    · have := h.ent a b ha hb
      rwa [ite_iff (eq a b hb)]
    · rw [h.more]
      constructor
      · rintro ⟨a, b, k1, k2, k3, k4⟩; exact ⟨a, b, k1, k2, (eq a b k2).2 k3, k4⟩
      · rintro ⟨a, b, k1, k2, k3, k4⟩; exact ⟨a, b, k1, k2, (eq a b k2).1 k3, k4⟩
    · rw [mizmazeref03_Table.l4, if_neg (by omega), wrapS (by omega)]
  | succ e ih =>
    intro q tab more hq h
    obtain ⟨tab1, more1, h1, h2⟩ := cell V hp (by omega) hkk h
    obtain ⟨tab2, more2, h3, h4⟩ := ih (q + 1) tab1 more1 (by omega) h1
    exact ⟨tab2, more2, h3, fun res hres => h2 res (h4 res hres)⟩
theorem pass_loop {kk : Nat} (hkk : kk ≤ 1000000) : ∀ (e p : Nat) (tab : List (List Int)) (more : Bool), p + e = n → InPass (nx rows) m n tab (kk + 1) p 0 more →
    ∃ tab' more', InPass (nx rows) m n tab' (kk + 1) n 0 more' ∧ ∀ res, Ev (fun k => mizmazeref03_Table.l2 k (n : Int) tab' ((kk + 2 : Nat) : Int) more' rows) res → Ev (fun k => mizmazeref03_Table.l3 k (n : Int) tab ((kk + 1 : Nat) : Int) more (p : Int) rows) res := by
  have hn60 := V.n60
  intro e
  induction e with
  | zero =>
    intro p tab more hp h
    obtain rfl : p = n := by omega
    refine ⟨tab, more, h, fun res hres => Ev.step (fun k => ?_) hres⟩
    rw [mizmazeref03_Table.l3, if_neg (by omega), wrapS (by omega)]
  | succ e ih =>
    intro p tab more hp h
    obtain ⟨tab1, more1, h1, h2⟩ := row_loop V (p := p) (by omega) hkk n 0 tab more (by omega) h
    obtain ⟨tab2, more2, h3, h4⟩ := ih (p + 1) tab1 more1 (by omega) h1
    refine ⟨tab2, more2, h3, fun res hres => Ev.step (fun k => ?_) (h2 res (h4 res hres))⟩
    rw [mizmazeref03_Table.l3, if_pos (by omega)]; rfl
/-- What the table says in the end. -/
structure TabOk (f : Nat → Nat → Nat) (m n : Nat) (tab : List (List Int)) : Prop where
  shape : Shape tab n
  ent : ∀ p q, p < n → q < n → (∃ d : Nat, TT tab p q = (d : Int) ∧ MDist f m p q d) ∨ (TT tab p q = -1 ∧ ¬ Mg f m p q)
omit V in
theorem far_none {f : Nat → Nat → Nat} {m n : Nat} (hf : ∀ s x, s < n → x < m → f s x < n) {kk : Nat} (h : ∀ p q, p < n → q < n → ¬ MDist f m p q kk) : ∀ (d p q : Nat), p < n → q < n → MDist f m p q d → d < kk := by
  intro d
  induction d with
  | zero =>
    intro p q hp hq hd
    rcases Nat.eq_zero_or_pos kk with rfl | h0
    · exact absurd hd (h p q hp hq)
    · exact h0
  | succ d ih =>
    intro p q hp hq hd
    obtain ⟨_, ⟨x, hx, hd'⟩, _⟩ := hd.pred
    have := ih _ _ (hf p x hp hx) (hf q x hq hx) hd'
    rcases Nat.lt_or_ge (d + 1) kk with h1 | h1
    · exact h1
    · obtain rfl : kk = d + 1 := by omega
      exact absurd hd (h p q hp hq)
theorem passes : ∀ (e kk : Nat) (tab : List (List Int)), kk + e = n * n + 1 → Shape tab n → (∀ p q, p < n → q < n → Ent (nx rows) m tab (kk + 1) p q) →
    ∃ tab', TabOk (nx rows) m n tab' ∧ Ev (fun k => mizmazeref03_Table.l2 k (n : Int) tab ((kk + 1 : Nat) : Int) true rows) tab' := by
  have hn60 := V.n60
  have hnn : n * n ≤ 3600 := Nat.mul_le_mul hn60 hn60
  intro e
  induction e with
  | zero =>
    intro kk tab hk hs he
    obtain ⟨tab', more', h1, h2⟩ := pass_loop V (kk := kk) (by omega) n 0 tab false (by omega) ⟨hs, fun p q hp hq => by rw [if_neg (by unfold bef; omega)]; exact he p q hp hq, ⟨fun h => by simp at h, fun ⟨p, q, _, _, h3, _⟩ => by unfold bef at h3; omega⟩⟩
    have hb : ∀ p q, p < n → bef p q n 0 := fun p q hp => Or.inl hp
    have hm : more' = false := by
      cases hmm : more' with
      | false => rfl
      | true =>
        obtain ⟨p, q, hp, hq, _, hd⟩ := h1.more.1 hmm
        have := hd.lt (fun s x => V.nxLt) hp hq
        omega
    subst hm
    refine ⟨tab', ⟨h1.shape, fun p q hp hq => ?_⟩, ?_⟩
    · have := h1.ent p q hp hq
      rw [if_pos (hb p q hp)] at this
      rcases this with ⟨d, _, h3, h4⟩ | ⟨h3, h4⟩
      · exact Or.inl ⟨d, h3, h4⟩
      · refine Or.inr ⟨h3, fun hmg => ?_⟩
        obtain ⟨d, hd⟩ := hmg.dist
        have := hd.lt (fun s x => V.nxLt) hp hq
        exact h4 d (by omega) hd
    · refine Ev.step (fun k => ?_) (h2 _ (Ev.step (fun k => ?_) (Ev.now tab')))
      · rw [mizmazeref03_Table.l2, if_pos rfl]; rfl
      · rw [mizmazeref03_Table.l2, if_neg (by decide)]
  | succ e ih =>
    intro kk tab hk hs he
    obtain ⟨tab', more', h1, h2⟩ := pass_loop V (kk := kk) (by omega) n 0 tab false (by omega) ⟨hs, fun p q hp hq => by rw [if_neg (by unfold bef; omega)]; exact he p q hp hq, ⟨fun h => by simp at h, fun ⟨p, q, _, _, h3, _⟩ => by unfold bef at h3; omega⟩⟩
    have hb : ∀ p q, p < n → bef p q n 0 := fun p q hp => Or.inl hp
    have he' : ∀ p q, p < n → q < n → Ent (nx rows) m tab' (kk + 2) p q := fun p q hp hq => by
      have := h1.ent p q hp hq
      rwa [if_pos (hb p q hp)] at this
    cases more' with
    | true =>
      obtain ⟨tab2, h3, h4⟩ := ih (kk + 1) tab' (by omega) h1.shape he'
      refine ⟨tab2, h3, Ev.step (fun k => ?_) (h2 _ h4)⟩
      rw [mizmazeref03_Table.l2, if_pos rfl]; rfl
    | false =>
      have hno : ∀ p q, p < n → q < n → ¬ MDist (nx rows) m p q (kk + 1) := fun p q hp hq hd => by
        have := h1.more.2 ⟨p, q, hp, hq, hb p q hp, hd⟩
        cases this
      refine ⟨tab', ⟨h1.shape, fun p q hp hq => ?_⟩, ?_⟩
      · rcases he' p q hp hq with ⟨d, _, h3, h4⟩ | ⟨h3, h4⟩
        · exact Or.inl ⟨d, h3, h4⟩
        · refine Or.inr ⟨h3, fun hmg => ?_⟩
          obtain ⟨d, hd⟩ := hmg.dist
          have := far_none (fun s x => V.nxLt) hno d p q hp hq hd
          exact h4 d (by omega) hd
      · refine Ev.step (fun k => ?_) (h2 _ (Ev.step (fun k => ?_) (Ev.now tab')))
        · rw [mizmazeref03_Table.l2, if_pos rfl]; rfl
        · rw [mizmazeref03_Table.l2, if_neg (by decide)]
/-- The first table. -/
theorem first_row {tab : List (List Int)} {p : Nat} (hp : p < n) (ht : tab.length = p) (res : List (List Int)) : ∀ (e q : Nat) (row : List Int), q + e = n → row.length = n → (∀ j, j < n → rd row (j : Int) = if j < q ∧ j ≠ p then -1 else 0) →
    (∀ row' : List Int, row'.length = n → (∀ j, j < n → rd row' (j : Int) = if j ≠ p then -1 else 0) → Ev (fun k => mizmazeref03_Table.l0 k (n : Int) (tab ++ [row']) ((p + 1 : Nat) : Int) rows) res) →
    Ev (fun k => mizmazeref03_Table.l1 k (n : Int) tab (p : Int) row (q : Int) rows) res := by
  have hn60 := V.n60
  intro e
  induction e with
  | zero =>
    intro q row hq hl hr hk
    obtain rfl : q = n := by omega
    refine Ev.step (fun k => ?_) (hk row hl fun j hj => by rw [hr j hj]; by_cases h : j = p <;> simp [h, hj])
    rw [mizmazeref03_Table.l1, if_neg (by omega), if_pos (by omega), wrapS (by omega)]
  | succ e ih =>
    intro q row hq hl hr hk
    by_cases hqp : q = p
    · subst hqp
      refine Ev.step (fun k => ?_) (ih (q + 1) row (by omega) hl (fun j hj => by
        rw [hr j hj]
        by_cases h1 : j = q
        · simp [h1]
        · rcases Nat.lt_or_ge j q with h2 | h2
          · rw [if_pos ⟨h2, h1⟩, if_pos ⟨by omega, h1⟩]
          · rw [if_neg (by omega), if_neg (by omega)]) hk)
      rw [mizmazeref03_Table.l1, if_pos (by omega), if_pos (by omega), wrapS (by omega)]
    · refine Ev.step (fun k => ?_) (ih (q + 1) (row.set q (-1)) (by omega) (by rw [List.length_set]; exact hl) (fun j hj => by
        rw [rdS_set (by omega), hr j hj]
        by_cases h1 : q = j
        · subst h1; rw [if_pos rfl, if_pos ⟨by omega, hqp⟩]
        · rw [if_neg h1]
          rcases Nat.lt_or_ge j q with h2 | h2
          · by_cases h3 : j = p
            · rw [if_neg (by omega), if_neg (by omega)]
            · rw [if_pos ⟨h2, h3⟩, if_pos ⟨by omega, h3⟩]
          · rw [if_neg (by omega), if_neg (by omega)]) hk)
      rw [mizmazeref03_Table.l1, if_pos (by omega), if_neg (by omega), if_pos (by omega), if_pos (by omega), wrapS (by omega)]
      simp only [Int.toNat_natCast]
theorem rows_snoc {tab : List (List Int)} {row : List Int} {j : Nat} : rd_L1 (tab ++ [row]) (j : Int) = if j < tab.length then rd_L1 tab (j : Int) else if j = tab.length then row else [] := by
  rw [rdLN, rdLN]
  rcases Nat.lt_trichotomy j tab.length with h | h | h
  · rw [if_pos h, List.getD_eq_getElem?_getD, List.getElem?_append_left h, ← List.getD_eq_getElem?_getD]
  · rw [if_neg (by omega), if_pos h, List.getD_eq_getElem?_getD, h, List.getElem?_append_right (Nat.le_refl _)]; simp
  · rw [if_neg (by omega), if_neg (by omega), List.getD_eq_getElem?_getD, List.getElem?_eq_none (by simp; omega)]; rfl
theorem first_rows (res : List (List Int)) : ∀ (e p : Nat) (tab : List (List Int)), p + e = n → tab.length = p → (∀ s, s < p → (rd_L1 tab (s : Int)).length = n ∧ ∀ j, j < n → TT tab s j = if j ≠ s then -1 else 0) →
    (∀ tab' : List (List Int), Shape tab' n → (∀ s j, s < n → j < n → TT tab' s j = if j ≠ s then -1 else 0) → Ev (fun k => mizmazeref03_Table.l2 k (n : Int) tab' ((0 + 1 : Nat) : Int) true rows) res) →
    Ev (fun k => mizmazeref03_Table.l0 k (n : Int) tab (p : Int) rows) res := by
  have hn60 := V.n60
  intro e
  induction e with
  | zero =>
    intro p tab hp hl hr hk
    obtain rfl : p = n := by omega
    refine Ev.step (fun k => ?_) (hk tab ⟨hl, fun s hs => (hr s hs).1⟩ fun s j hs hj => (hr s hs).2 j hj)
    rw [mizmazeref03_Table.l0, if_neg (by omega)]; rfl
  | succ e ih =>
    intro p tab hp hl hr hk
    have hpn : p < n := by omega
    refine Ev.step (fun k => ?_) (first_row V hpn hl res n 0 (List.replicate n 0) (by omega) (by simp) (fun j hj => by
      rw [rdE (by simpa using hj), List.getElem_replicate, if_neg (by omega)]) fun row' h1 h2 => ih (p + 1) _ (by omega) (by simp [hl]) (fun s hs => ?_) hk)
    · rw [mizmazeref03_Table.l0, if_pos (by omega), if_pos (by omega), if_pos (by simp; omega)]
      simp only [Int.toNat_natCast]; rfl
    · unfold TT
      rw [rows_snoc V, hl]
      rcases Nat.lt_or_ge s p with h3 | h3
      · rw [if_pos h3]; exact hr s h3
      · obtain rfl : s = p := by omega
        rw [if_neg (by omega), if_pos rfl]
        exact ⟨h1, h2⟩
theorem ref_table : ∃ tab, TabOk (nx rows) m n tab ∧ Ev (fun k => mizmazeref03_Table.f k rows) tab := by
  have hn60 := V.n60
  have key : ∀ tab' : List (List Int), Shape tab' n → (∀ s j, s < n → j < n → TT tab' s j = if j ≠ s then -1 else 0) → ∃ tab, TabOk (nx rows) m n tab ∧ Ev (fun k => mizmazeref03_Table.l2 k (n : Int) tab' ((0 + 1 : Nat) : Int) true rows) tab := by
    intro tab' hs ht
    refine passes V (n * n + 1) 0 tab' (by omega) hs fun p q hp hq => ?_
    unfold Ent
    rw [ht p q hp hq]
    by_cases h : q = p
    · subst h
      exact Or.inl ⟨0, by omega, by simp, MDist.zero _ _ _⟩
    · refine Or.inr ⟨by rw [if_pos h], fun d hd hdd => ?_⟩
      obtain rfl : d = 0 := by omega
      exact h hdd.eq0.symm
  have hst : ∀ tab' tab'' : List (List Int), Shape tab' n → Shape tab'' n → (∀ s j, s < n → j < n → TT tab' s j = if j ≠ s then -1 else 0) → (∀ s j, s < n → j < n → TT tab'' s j = if j ≠ s then -1 else 0) → tab' = tab'' := by
    intro t1 t2 s1 s2 h1 h2
    refine List.ext_getElem (s1.len.trans s2.len.symm) fun i hi1 hi2 => ?_
    have hin : i < n := s1.len ▸ hi1
    have e1 := rdLE hi1
    have e2 := rdLE hi2
    rw [← e1, ← e2]
    refine List.ext_getElem ((s1.row i hin).trans (s2.row i hin).symm) fun j hj1 hj2 => ?_
    have hjn : j < n := s1.row i hin ▸ hj1
    have a := h1 i j hin hjn
    have b := h2 i j hin hjn
    unfold TT at a b
    rw [rdE hj1] at a; rw [rdE hj2] at b
    rw [a, b]
  have hex : ∃ t0 : List (List Int), Shape t0 n ∧ ∀ s j, s < n → j < n → TT t0 s j = if j ≠ s then -1 else 0 := by
    refine ⟨(List.range n).map fun s => (List.range n).map fun j => if j ≠ s then -1 else 0, ⟨by simp, fun p hp => ?_⟩, fun s j hs hj => ?_⟩
    · rw [rdLE (by simpa using hp)]; simp
    · unfold TT
      rw [rdLE (by simpa using hs), rdE (by simpa using hj)]; simp
  obtain ⟨t0, hs0, ht0⟩ := hex
  obtain ⟨tab, h1, h2⟩ := key t0 hs0 ht0
  refine ⟨tab, h1, ?_⟩
  unfold mizmazeref03_Table.f
  rw [V.len]
  exact first_rows V tab n 0 [] (by omega) rfl (fun s hs => by omega) fun tab' k1 k2 => by rw [hst tab' t0 k1 hs0 k2 ht0]; exact h2
end
end Go.Proofs.Ytogoppejcmaocaa.Q
end
