/- Part of the proof of TopRoad (text 11 of 33) -/
import Derived.Test.YtjgdalhdiohclaaZTopRoadi
import Derived.Test.YtjgdalhdiohclaaZTopRoadj
import Derived.Test.YtjgdalhdiohclaaZTopRoadh
import Derived.Test.YtjgdalhdiohclaaZTopRoadg
set_option linter.unusedVariables false
set_option linter.unusedSimpArgs false
set_option linter.unusedSectionVars false
section
namespace Go.Proofs.Ytjgdalhdiohclaa.Q
open Go.RowKit Go.Proofs.YtjgdalhdiohclaaW.PrintWords Go.Proofs.YtjgdalhdiohclaaW.PrintLast Go.Proofs.YtjgdalhdiohclaaW.PrintMore
end Go.Proofs.Ytjgdalhdiohclaa.Q
end
section
namespace Go.Proofs.Ytjgdalhdiohclaa.Q
open Go.RowKit Go.Proofs.YtjgdalhdiohclaaW.PrintWords Go.Proofs.YtjgdalhdiohclaaW.PrintLast Go.Proofs.YtjgdalhdiohclaaW.PrintMore
def left (l : List Bool) : Nat := l.count false
theorem left_set {l : List Bool} {u : Nat} (h : u < l.length) (hf : rdOf false l (u : Int) = false) : left (l.set u true) + 1 = left l := by
 induction l generalizing u with
 | nil => exact absurd h (by simp)
 | cons b l ih =>
  cases u with
  | zero =>
   have : b = false := hf
   subst this
   simp [left]
  | succ u =>
   have := ih (u := u) (by simpa using h) (by rw [rdBE (by simpa using h)]; rw [rdBE h] at hf; simpa using hf)
   simp only [left] at this
   cases b <;> simp [left] <;> omega
theorem net_reaches {rows : List (List Int)} {n m s : Nat} (V : VA rows n m) (hs : s < n) : ∃ l, Ev (fun k => net_reach.f k rows (s : Int)) l ∧ Is n l (Conn (nx rows) m s) := by
 have hlen := V.len; have h60 := V.n60; have h6 := V.m6
 have key : ∀ (d : Nat) (met : List Bool) (P : Nat → Prop) (s : Nat), s < n → left met ≤ d → Is n met P → ∃ l P', Ev (fun k => net_visit.f k rows met (s : Int)) l ∧ Is n l P' ∧ left l ≤ left met ∧ (∀ t, P t → P' t) ∧ P' s ∧ (∀ t, P' t → P t ∨ Conn (nx rows) m s t) ∧ (∀ t, P' t → P t ∨ ∀ x, x < m → P' (nx rows t x)) := by
  intro d
  induction d with
  | zero =>
   intro met P s hs hd hm
   have hh : rdOf false met (s : Int) = true := by
    cases h : rdOf false met (s : Int) with
    | true => rfl
    | false => have := left_set (by rw [hm.1]; exact hs) h; omega
   refine ⟨met, P, ?_, hm, Nat.le_refl _, fun _ h => h, (hm.2 s hs).1 hh, fun t h => Or.inl h, fun t h => Or.inl h⟩
   refine Ev.next ?_
   simp only [net_visit.f, if_pos (by omega : (0 : Int) ≤ (s : Int)), if_pos (by have := hm.1; omega : (s : Int) < (met.length : Int)), hh, if_true]
   exact Ev.now _
  | succ d ih =>
   intro met P s hs hd hm
   cases hh : rdOf false met (s : Int) with
   | true =>
    refine ⟨met, P, ?_, hm, Nat.le_refl _, fun _ h => h, (hm.2 s hs).1 hh, fun t h => Or.inl h, fun t h => Or.inl h⟩
    refine Ev.next ?_
    simp only [net_visit.f, if_pos (by omega : (0 : Int) ≤ (s : Int)), if_pos (by have := hm.1; omega : (s : Int) < (met.length : Int)), hh, if_true]
    exact Ev.now _
   | false =>
    have hcnt := left_set (by rw [hm.1]; exact hs) hh
    have hrow := V.row s hs
    have inner : ∀ (e x : Nat) (met1 : List Bool) (P1 : Nat → Prop), x + e = m → left met1 ≤ d → Is n met1 P1 → ∃ l P', Ev (fun k => net_visit.l0 k rows met1 (rd_L1 rows (s : Int)) (x : Int)) l ∧ Is n l P' ∧ left l ≤ left met1 ∧ (∀ t, P1 t → P' t) ∧ (∀ y, x ≤ y → y < m → P' (nx rows s y)) ∧ (∀ t, P' t → P1 t ∨ Conn (nx rows) m s t) ∧ (∀ t, P' t → P1 t ∨ ∀ x, x < m → P' (nx rows t x)) := by
     intro e
     induction e with
     | zero =>
      intro x met1 P1 hx hd1 hm1
      refine ⟨met1, P1, ?_, hm1, Nat.le_refl _, fun _ h => h, fun y h1 h2 => by omega, fun t h => Or.inl h, fun t h => Or.inl h⟩
      refine Ev.next ?_
      simp only [net_visit.l0, if_neg (by omega : ¬ (x : Int) < ((rd_L1 rows (s : Int)).length : Int))]
      exact Ev.now _
     | succ e ih2 =>
      intro x met1 P1 hx hd1 hm1
      have hxm : x < m := by omega
      obtain ⟨l1, P2, a1, a2, a3, a4, a5, a6, a7⟩ := ih met1 P1 (nx rows s x) (V.nxLt hs hxm) hd1 hm1
      obtain ⟨l2, P3, b1, b2, b3, b4, b5, b6, b7⟩ := ih2 (x + 1) l1 P2 (by omega) (by omega) a2
      refine ⟨l2, P3, ?_, b2, by omega, fun t h => b4 t (a4 t h), ?_, ?_, ?_⟩
      ·refine Ev.next ?_
       simp only [net_visit.l0, if_pos (by omega : (x : Int) < ((rd_L1 rows (s : Int)).length : Int)), if_pos (by omega : (0 : Int) ≤ (x : Int)), V.nxE hs hxm, wrapS (by omega : x + 1 ≤ 9223372036854775807)]
       exact Ev.bind a1 b1
      ·intro y h1 h2
       by_cases hy : y = x
       ·subst hy; exact b4 _ a5
       ·exact b5 y (by omega) h2
      ·intro t h
       rcases b6 t h with h | h
       ·rcases a6 t h with h | h
        ·exact Or.inl h
        ·exact Or.inr ((Conn.step hxm).trans h)
       ·exact Or.inr h
      ·intro t h
       rcases b7 t h with h | h
       ·rcases a7 t h with h | h
        ·exact Or.inl h
        ·exact Or.inr fun x hx => b4 _ (h x hx)
       ·exact Or.inr h
    obtain ⟨l, P', a1, a2, a3, a4, a5, a6, a7⟩ := inner m 0 (met.set s true) _ (by omega) (by omega) (hm.set (u := s))
    refine ⟨l, P', ?_, a2, by omega, fun t h => a4 t (Or.inl h), a4 s (Or.inr rfl), ?_, ?_⟩
    ·refine Ev.next ?_
     simp only [net_visit.f, if_pos (by omega : (0 : Int) ≤ (s : Int)), if_pos (by have := hm.1; omega : (s : Int) < (met.length : Int)), hh, Bool.false_eq_true, if_false, if_pos (by omega : (s : Int) < (rows.length : Int)), Int.toNat_natCast]
     exact a1
    ·intro t h
     rcases a6 t h with (h | rfl) | h
     ·exact Or.inl h
     ·exact Or.inr (Conn.refl _ _ _)
     ·exact Or.inr h
    ·intro t h
     rcases a7 t h with (h | rfl) | h
     ·exact Or.inl h
     ·exact Or.inr fun x hx => a5 x (Nat.zero_le x) hx
     ·exact Or.inr h
 obtain ⟨l, P', a1, a2, a3, a4, a5, a6, a7⟩ := key _ _ _ s hs (Nat.le_refl _) (Is.none (n := n))
 refine ⟨l, ?_, a2.imp fun t ht => ⟨fun h => (a6 t h).elim False.elim id, fun h => h.closed (P := P') a5 fun u x hu hx => (a7 u hu).elim False.elim fun h => h x hx⟩⟩
 unfold net_reach.f
 simp only [if_pos (by omega : rows.length ≤ 281474976710656)]
 rw [hlen]
 exact a1
end Go.Proofs.Ytjgdalhdiohclaa.Q
end
section
namespace Go.Proofs.Ytjgdalhdiohclaa.Q
open Go.RowKit Go.Proofs.YtjgdalhdiohclaaW.PrintWords Go.Proofs.YtjgdalhdiohclaaW.PrintLast Go.Proofs.YtjgdalhdiohclaaW.PrintMore
def SC (f : Nat → Nat → Nat) (n m : Nat) : Prop := ∀ s, s < n → ∀ t, t < n → Conn f m s t
theorem slices_contains_false {n : Nat} {l : List Bool} {P : Nat → Prop} (h : Is n l P) (hn : n ≤ 1000000) : ∃ b, Ev (fun k => slices_Contains_bool_bool.f k l false) b ∧ (b = false ↔ ∀ t, t < n → P t) := by
 have hl := h.1
 have key : ∀ d i : Nat, i + d = n → ∃ z : Int, Ev (fun k => slices_Index_bool_bool.l0 k l false (l.length : Int) (i : Int)) z ∧ (z < 0 ↔ ∀ t, i ≤ t → t < n → P t) := by
  intro d
  induction d with
  | zero =>
   intro i hi
   refine ⟨-1, ?_, by simp; intro t h1 h2; omega⟩
   refine Ev.next ?_
   simp only [slices_Index_bool_bool.l0, if_neg (by omega : ¬ (i : Int) < (l.length : Int))]
   exact Ev.now _
  | succ d ih =>
   intro i hi
   have hin : i < n := by omega
   cases hc : rdOf false l (i : Int) with
   | false =>
    refine ⟨(i : Int), ?_, ⟨fun h => by omega, fun h2 => ?_⟩⟩
    ·refine Ev.next ?_
     simp only [slices_Index_bool_bool.l0, if_pos (by omega : (i : Int) < (l.length : Int)), if_pos (by omega : (0 : Int) ≤ (i : Int)), hc, BEq.rfl, if_true]
     exact Ev.now _
    ·have := (h.2 i hin).2 (h2 i (Nat.le_refl i) hin); rw [hc] at this; simp at this
   | true =>
    obtain ⟨z, h1, h2⟩ := ih (i + 1) (by omega)
    refine ⟨z, ?_, h2.trans ⟨fun h3 t h4 h5 => ?_, fun h3 t h4 h5 => h3 t (by omega) h5⟩⟩
    ·refine Ev.next ?_
     simp only [slices_Index_bool_bool.l0, if_pos (by omega : (i : Int) < (l.length : Int)), if_pos (by omega : (0 : Int) ≤ (i : Int)), hc, (by decide : (false == true) = false), Bool.false_eq_true, if_false, wrapS (by omega : i + 1 ≤ 9223372036854775807)]
     exact h1
    ·by_cases e : t = i
     ·subst e; exact (h.2 t h5).1 hc
     ·exact h3 t (by omega) h5
 obtain ⟨z, h1, h2⟩ := key n 0 (by omega)
 refine ⟨decide (z ≥ 0), ?_, ?_⟩
 ·unfold slices_Contains_bool_bool.f
  refine Ev.bind (a := z) ?_ (Ev.now _)
  unfold slices_Index_bool_bool.f; exact h1
 ·rw [decide_eq_false_iff_not]
  exact ⟨fun h3 t ht => h2.1 (by omega) t (Nat.zero_le t) ht, fun h3 => by have := h2.2 fun t _ ht => h3 t ht; omega⟩
theorem net_connects {rows : List (List Int)} {n m : Nat} (V : VA rows n m) {r : Bool} (hr : r = true ↔ SC (nx rows) n m) : Ev (fun k => net_connected.f k rows) r := by
 have hlen := V.len; have h60 := V.n60
 have hall : ∀ s, s < n → ∃ b l, Ev (fun k => net_reach.f k rows (s : Int)) l ∧ Ev (fun k => slices_Contains_bool_bool.f k l false) b ∧ (b = false ↔ ∀ t, t < n → Conn (nx rows) m s t) := fun s hs => by
  obtain ⟨l, h1, h2⟩ := net_reaches V hs
  obtain ⟨b, h3, h4⟩ := slices_contains_false h2 (by omega)
  exact ⟨b, l, h1, h3, h4⟩
 unfold net_connected.f
 rw [hlen]
 refine @Ev.every Bool (fun k i => net_connected.l0 k (n : Int) (i : Int) rows) n true false r (fun s => @decide (∀ t, t < n → Conn (nx rows) m s t) (Classical.propDecidable _)) ?_ ?_ ?_ ?_ ?_
 ·intro h; exact hr.2 fun s hs t ht => (@of_decide_eq_true _ (Classical.propDecidable _) (h s hs)) t ht
 ·intro s hs h; rw [Bool.eq_false_iff]; intro h2; exact (@of_decide_eq_false _ (Classical.propDecidable _) h) (hr.1 h2 s hs)
 ·intro s hs hp h
  obtain ⟨b, l, h1, h2, h3⟩ := hall s hs
  obtain rfl := h3.2 (@of_decide_eq_true _ (Classical.propDecidable _) hp)
  refine Ev.next ?_
  simp only [net_connected.l0, if_pos (by omega : (s : Int) < (n : Int)), wrapS (by omega : s + 1 ≤ 9223372036854775807)]
  refine Ev.bind h1 (Ev.bind h2 ?_)
  simp only [Bool.false_eq_true, if_false]; exact h
 ·intro s hs hp
  obtain ⟨b, l, h1, h2, h3⟩ := hall s hs
  obtain rfl : b = true := by
   cases hb : b with
   | true => rfl
   | false => exact absurd (h3.1 hb) (@of_decide_eq_false _ (Classical.propDecidable _) hp)
  refine Ev.next ?_
  simp only [net_connected.l0, if_pos (by omega : (s : Int) < (n : Int))]
  refine Ev.bind h1 (Ev.bind h2 ?_)
  simp only [if_true]; exact Ev.now _
 ·refine Ev.next ?_
  simp only [net_connected.l0, if_neg (by omega : ¬ (n : Int) < (n : Int))]
  exact Ev.now _
theorem connected_says {rows : List (List Int)} {n m : Nat} (V : VA rows n m) {b : Bool} (h : b = true ↔ SC (nx rows) n m) : Ev (fun k => net_Connected.f k rows) (b, 0) := by
 unfold net_Connected.f
 simp only [auto_Valid.f, validB_of V, Option.bind_some, if_true]
 exact Ev.bind (net_connects V h) (Ev.now _)
end Go.Proofs.Ytjgdalhdiohclaa.Q
end
section
namespace Go.Proofs.Ytjgdalhdiohclaa.Q
open Go.RowKit Go.Proofs.YtjgdalhdiohclaaW.PrintWords Go.Proofs.YtjgdalhdiohclaaW.PrintLast Go.Proofs.YtjgdalhdiohclaaW.PrintMore
theorem rdI_put {l : List Int} {i j : Nat} {v : Int} (hj : j < l.length) : rd (l.set i v) (j : Int) = if i = j then v else rd l (j : Int) := by
 rw [rdE (by rw [List.length_set]; exact hj), rdE hj, List.getElem_set]
def Walk (f : Nat → Nat → Nat) (m k s t : Nat) : Prop := ∃ w, Wd m w ∧ w.length = k ∧ run f s w = t
theorem Walk.refl (f : Nat → Nat → Nat) (m s : Nat) : Walk f m 0 s s := ⟨[], Wd.nil m, rfl, rfl⟩
theorem Walk.trans {f : Nat → Nat → Nat} {m j k s t u : Nat} (h : Walk f m j s t) (h2 : Walk f m k t u) : Walk f m (j + k) s u := by
 obtain ⟨v, a1, a2, rfl⟩ := h; obtain ⟨w, b1, b2, rfl⟩ := h2
 exact ⟨v ++ w, a1.app b1, by rw [List.length_append]; omega, run_app f v w s⟩
theorem Walk.one {f : Nat → Nat → Nat} {m x s : Nat} (h : x < m) : Walk f m 1 s (f s x) := ⟨[x], Wd.one h, rfl, rfl⟩
def toI' (w : List Nat) : List Int := w.map fun (x : Nat) => (x : Int)
structure Lens (f : Nat → Nat → Nat) (m n : Nat) (out : List Int) (met : List Bool) (q : List Nat) (i x : Nat) : Prop where
 len : out.length = n
 met : Is n met (· ∈ q)
 st : q[0]? = some 0
 lt : ∀ t ∈ q, t < n
 nd : q.Nodup
 ok : ∀ (j t : Nat), q[j]? = some t → ∃ d : Nat, d ≤ j ∧ rd out (t : Int) = (d : Int) ∧ Walk f m d 0 t
 zero : rd out 0 = 0
 done : ∀ (j t y : Nat), q[j]? = some t → y < m → (j < i ∨ j = i ∧ y < x) → f t y ∈ q
theorem net_lens {rows : List (List Int)} {n m : Nat} (V : VA rows n m) : ∃ out, Ev (fun k => net_lengths.f k rows) out ∧ out.length = n ∧ rd out 0 = 0 ∧ ∀ t, Conn (nx rows) m 0 t → ∃ d : Nat, d < n ∧ rd out (t : Int) = (d : Int) ∧ Walk (nx rows) m d 0 t := by
 have hlen := V.len; have h60 := V.n60; have h6 := V.m6; have hn0 := V.n0
 have qlen : ∀ {out met q i x}, Lens (nx rows) m n out met q i x → q.length ≤ n := fun L => nodup_le n _ L.nd L.lt
 have stop : ∀ (i : Nat) (out : List Int) (met : List Bool) (q : List Nat), q.length ≤ i → Lens (nx rows) m n out met q i 0 → ∃ r, Ev (fun k => net_lengths.l0 k out met (toI' q) (i : Int) rows) r ∧ r.length = n ∧ rd r 0 = 0 ∧ ∀ t, Conn (nx rows) m 0 t → ∃ d : Nat, d < n ∧ rd r (t : Int) = (d : Int) ∧ Walk (nx rows) m d 0 t := by
  intro i out met q hi L
  refine ⟨out, ?_, L.len, L.zero, fun t ht => ?_⟩
  ·refine Ev.next ?_
   simp only [net_lengths.l0, toI', List.length_map, if_neg (by omega : ¬ (i : Int) < (q.length : Int))]
   exact Ev.now _
  ·have hm : t ∈ q := ht.closed (P := (· ∈ q)) (List.mem_of_getElem? L.st) fun u x hu hx => by
    obtain ⟨j, hj⟩ := List.mem_iff_getElem?.1 hu
    exact L.done j u x hj hx (Or.inl (by have := (List.getElem?_eq_some_iff.1 hj).1; omega))
   obtain ⟨j, hj⟩ := List.mem_iff_getElem?.1 hm
   obtain ⟨d, h1, h2, h3⟩ := L.ok j t hj
   exact ⟨d, by have := (List.getElem?_eq_some_iff.1 hj).1; have := qlen L; omega, h2, h3⟩
 have key : ∀ (g i : Nat) (out : List Int) (met : List Bool) (q : List Nat), i + g = n + 1 → Lens (nx rows) m n out met q i 0 → ∃ r, Ev (fun k => net_lengths.l0 k out met (toI' q) (i : Int) rows) r ∧ r.length = n ∧ rd r 0 = 0 ∧ ∀ t, Conn (nx rows) m 0 t → ∃ d : Nat, d < n ∧ rd r (t : Int) = (d : Int) ∧ Walk (nx rows) m d 0 t := by
  intro g
  induction g with
  | zero => intro i out met q hi L; exact stop i out met q (by have := qlen L; omega) L
  | succ g ih =>
   intro i out met q hi L
   by_cases hq : q.length ≤ i
   ·exact stop i out met q hq L
   ·have hiq : i < q.length := by omega
    have he : q[i]? = some q[i] := List.getElem?_eq_getElem hiq
    generalize q[i] = s at he
    have hs := L.lt s (List.mem_of_getElem? he)
    have hrow := V.row s hs
    have hrd : ∀ q' : List Nat, q'[i]? = some s → rd (toI' q') (i : Int) = (s : Int) := by
     intro q' h
     have := (List.getElem?_eq_some_iff.1 h)
     rw [rdE (by unfold toI'; rw [List.length_map]; exact this.1)]
     simp only [toI', List.getElem_map]; rw [this.2]
    have inner : ∀ (e x : Nat) (out : List Int) (met : List Bool) (q : List Nat), x + e = m → q[i]? = some s → Lens (nx rows) m n out met q i x → ∃ r, Ev (fun k => net_lengths.l1 k out met (toI' q) (i : Int) (rd_L1 rows (s : Int)) ((rd_L1 rows (s : Int)).length : Int) (x : Int) rows) r ∧ r.length = n ∧ rd r 0 = 0 ∧ ∀ t, Conn (nx rows) m 0 t → ∃ d : Nat, d < n ∧ rd r (t : Int) = (d : Int) ∧ Walk (nx rows) m d 0 t := by
     intro e
     induction e with
     | zero =>
      intro x out met q hx he L
      obtain rfl : x = m := by omega
      obtain ⟨r, h1, h2⟩ := ih (i + 1) out met q (by omega) ⟨L.len, L.met, L.st, L.lt, L.nd, L.ok, L.zero, fun j t y hj hy hd => L.done j t y hj hy (by omega)⟩
      refine ⟨r, ?_, h2⟩
      refine Ev.next ?_
      simp only [net_lengths.l1, if_neg (by omega : ¬ (x : Int) < ((rd_L1 rows (s : Int)).length : Int)), wrapS (by omega : i + 1 ≤ 9223372036854775807)]
      exact h1
     | succ e ih2 =>
      intro x out met q hx he L
      have hxm : x < m := by omega
      have hu := V.nxLt hs hxm
      have hiq := (List.getElem?_eq_some_iff.1 he).1
      have hml := L.met.1; have hol := L.len; have hql := qlen L
      have hqi : (toI' q).length = q.length := by unfold toI'; rw [List.length_map]
      by_cases hin : nx rows s x ∈ q
      ·obtain ⟨r, h1, h2⟩ := ih2 (x + 1) out met q (by omega) he ⟨L.len, L.met, L.st, L.lt, L.nd, L.ok, L.zero, fun j t y hj hy hd => by
        by_cases h3 : j < i ∨ j = i ∧ y < x
        ·exact L.done j t y hj hy h3
        ·obtain rfl : j = i := by omega
         obtain rfl : y = x := by omega
         rw [he] at hj; obtain rfl := Option.some.inj hj; exact hin⟩
       refine ⟨r, ?_, h2⟩
       refine Ev.next ?_
       simp only [net_lengths.l1, if_pos (by omega : (x : Int) < ((rd_L1 rows (s : Int)).length : Int)), if_pos (by omega : (0 : Int) ≤ (x : Int)), V.nxE hs hxm, if_pos (by omega : (0 : Int) ≤ ((nx rows s x : Nat) : Int)), if_pos (by omega : ((nx rows s x : Nat) : Int) < (met.length : Int)), (L.met.2 _ hu).2 hin, if_true, wrapS (by omega : x + 1 ≤ 9223372036854775807)]
       exact h1
      ·obtain ⟨d, hd1, hd2, hd3⟩ := L.ok i s he
       have hrdo : ∀ t, t < n → rd (out.set (nx rows s x) ((d + 1 : Nat) : Int)) (t : Int) = if nx rows s x = t then ((d + 1 : Nat) : Int) else rd out (t : Int) := fun t ht => rdI_put (by omega)
       have h0m : (0 : Nat) ∈ q := List.mem_of_getElem? L.st
       have ap : ∀ (j t : Nat), (q ++ [nx rows s x])[j]? = some t → (q[j]? = some t ∧ j < q.length) ∨ (j = q.length ∧ t = nx rows s x) := by
        intro j a h
        rcases Nat.lt_trichotomy j q.length with h1 | h1 | h1
        ·rw [List.getElem?_append_left h1] at h; exact Or.inl ⟨h, h1⟩
        ·subst h1; rw [List.getElem?_append_right (Nat.le_refl _)] at h; simp at h; exact Or.inr ⟨rfl, h.symm⟩
        ·rw [List.getElem?_eq_none (by rw [List.length_append]; simp; omega)] at h; exact absurd h (by simp)
       have L2 : Lens (nx rows) m n (out.set (nx rows s x) ((d + 1 : Nat) : Int)) (met.set (nx rows s x) true) (q ++ [nx rows s x]) i (x + 1) := by
        refine ⟨by rw [List.length_set]; exact hol, (L.met.set).imp fun t _ => ?_, ?_, ?_, ?_, ?_, ?_, ?_⟩
        ·rw [List.mem_append, List.mem_singleton]; exact ⟨fun h => h.elim Or.inl fun h => Or.inr h.symm, fun h => h.elim Or.inl fun h => Or.inr h.symm⟩
        ·rw [List.getElem?_append_left (by omega)]; exact L.st
        ·intro t ht
         rcases List.mem_append.1 ht with h | h
         ·exact L.lt t h
         ·rw [List.mem_singleton.1 h]; exact hu
        ·rw [List.nodup_append]
         refine ⟨L.nd, by simp, fun a ha b hb h => ?_⟩
         rw [List.mem_singleton.1 hb] at h; exact hin (h ▸ ha)
        ·intro j t hj
         rcases ap j t hj with ⟨h1, h2⟩ | ⟨rfl, rfl⟩
         ·obtain ⟨d', a1, a2, a3⟩ := L.ok j t h1
          have hne : nx rows s x ≠ t := fun h => hin (h ▸ List.mem_of_getElem? h1)
          exact ⟨d', a1, by rw [hrdo t (L.lt t (List.mem_of_getElem? h1)), if_neg hne]; exact a2, a3⟩
         ·exact ⟨d + 1, by omega, by rw [hrdo _ hu, if_pos rfl], hd3.trans (Walk.one hxm)⟩
        ·have := hrdo 0 hn0
         rw [if_neg (fun h => hin (by rw [h]; exact h0m))] at this
         exact this.trans L.zero
        ·intro j t y hj hy hd
         rcases ap j t hj with ⟨h1, h2⟩ | ⟨rfl, _⟩
         ·by_cases h3 : j < i ∨ j = i ∧ y < x
          ·exact List.mem_append.2 (Or.inl (L.done j t y h1 hy h3))
          ·obtain rfl : j = i := by omega
           obtain rfl : y = x := by omega
           rw [he] at h1; obtain rfl := Option.some.inj h1; simp
         ·omega
       obtain ⟨r, h1, h2⟩ := ih2 (x + 1) _ _ _ (by omega) (by rw [List.getElem?_append_left hiq]; exact he) L2
       refine ⟨r, ?_, h2⟩
       refine Ev.next ?_
       have hmf : ¬ rdOf false met ((nx rows s x : Nat) : Int) = true := fun h => hin ((L.met.2 _ hu).1 h)
       have hap : toI' q ++ [((nx rows s x : Nat) : Int)] = toI' (q ++ [nx rows s x]) := by simp [toI']
       have hwd : wrap64 ((d : Int) + 1) = ((d + 1 : Nat) : Int) := wrapS (by omega)
       simp only [net_lengths.l1, if_pos (by omega : (x : Int) < ((rd_L1 rows (s : Int)).length : Int)), if_pos (by omega : (0 : Int) ≤ (x : Int)), V.nxE hs hxm, if_pos (by omega : (0 : Int) ≤ ((nx rows s x : Nat) : Int)), if_pos (by omega : ((nx rows s x : Nat) : Int) < (met.length : Int)), if_neg hmf, if_pos (by omega : (0 : Int) ≤ (i : Int)), if_pos (by omega : (i : Int) < ((toI' q).length : Int)), hrd q he, if_pos (by omega : (0 : Int) ≤ (s : Int)), if_pos (by omega : (s : Int) < (out.length : Int)), if_pos (by omega : ((nx rows s x : Nat) : Int) < (out.length : Int)), if_pos (by omega : (toI' q).length < 17592186044416), hd2, hwd, hap, Int.toNat_natCast, wrapS (by omega : x + 1 ≤ 9223372036854775807)]
       exact h1
    obtain ⟨r, h1, h2⟩ := inner m 0 out met q (by omega) he L
    refine ⟨r, ?_, h2⟩
    refine Ev.next ?_
    simp only [net_lengths.l0, if_pos (by unfold toI'; rw [List.length_map]; omega : (i : Int) < ((toI' q).length : Int)), if_pos (by omega : (0 : Int) ≤ (i : Int)), hrd q he, if_pos (by omega : (0 : Int) ≤ (s : Int)), if_pos (by omega : (s : Int) < (rows.length : Int))]
    exact h1
 have L0 : Lens (nx rows) m n (List.replicate n 0) ((List.replicate n false).set 0 true) [0] 0 0 := by
  have hz : rd (List.replicate n 0) 0 = 0 := by
   have := rdE (l := List.replicate n (0 : Int)) (i := 0) (by rw [List.length_replicate]; exact hn0)
   rw [List.getElem_replicate] at this; exact this
  refine ⟨List.length_replicate, (Is.none.set).imp fun t _ => by simp [eq_comm], rfl, by simp; exact hn0, by simp, fun j t hj => ?_, hz, fun j t y _ _ h => by omega⟩
  cases j with
  | zero => simp at hj; subst hj; exact ⟨0, Nat.le_refl 0, hz, Walk.refl _ _ _⟩
  | succ j => simp at hj
 obtain ⟨r, h1, h2⟩ := key (n + 1) 0 _ _ _ (by omega) L0
 refine ⟨r, ?_, h2⟩
 unfold net_lengths.f
 simp only [if_pos (by omega : (0 : Int) ≤ (rows.length : Int)), Int.toNat_natCast, if_pos (by omega : rows.length ≤ 35184372088832), if_pos (by omega : rows.length ≤ 281474976710656), Option.bind_some, List.length_replicate, if_pos (by omega : 0 < (rows.length : Int))]
 rw [hlen]
 exact h1
end Go.Proofs.Ytjgdalhdiohclaa.Q
end
section
namespace Go.Proofs.Ytjgdalhdiohclaa.Q
open Go.RowKit Go.Proofs.YtjgdalhdiohclaaW.PrintWords Go.Proofs.YtjgdalhdiohclaaW.PrintLast Go.Proofs.YtjgdalhdiohclaaW.PrintMore
theorem tmod_nat (a b : Nat) : Int.tmod (a : Int) (b : Int) = ((a % b : Nat) : Int) := by
 rw [Int.tmod_eq_emod_of_nonneg (Int.natCast_nonneg a)]; rfl
theorem net_gcd (b : Nat) : ∀ a : Nat, Ev (fun k => net_common.f k (a : Int) (b : Int)) ((Nat.gcd a b : Nat) : Int) := by
 unfold net_common.f
 induction b using Nat.strongRecOn with
 | _ b ih =>
  intro a
  refine Ev.next ?_
  by_cases h : b = 0
  ·subst h
   simp only [net_common.l0, if_neg (by omega : ¬ ((0 : Nat) : Int) > 0), Nat.gcd_zero_right]
   exact Ev.now _
  ·simp only [net_common.l0, if_pos (by omega : (b : Int) > 0), if_neg (by omega : ¬ (b : Int) = 0), tmod_nat]
   have := ih (a % b) (Nat.mod_lt _ (by omega)) b
   rwa [Nat.gcd_comm, ← Nat.gcd_rec, Nat.gcd_comm] at this
structure Numbered (f : Nat → Nat → Nat) (m n : Nat) (l : Nat → Nat) : Prop where
 zero : l 0 = 0
 lt : ∀ t, t < n → l t < n
 walk : ∀ t, t < n → Walk f m (l t) 0 t
structure Off (f : Nat → Nat → Nat) (m n : Nat) (l : Nat → Nat) (d : Nat) : Prop where
 dvd : ∀ s x, s < n → x < m → (d : Int) ∣ (l s : Int) + 1 - (l (f s x) : Int)
 max : ∀ g : Nat, (∀ s x, s < n → x < m → (g : Int) ∣ (l s : Int) + 1 - (l (f s x) : Int)) → g ∣ d
theorem Off.walk {f : Nat → Nat → Nat} {m n d : Nat} {l : Nat → Nat} (hf : ∀ s x, s < n → x < m → f s x < n) (h : ∀ s x, s < n → x < m → (d : Int) ∣ (l s : Int) + 1 - (l (f s x) : Int)) : ∀ (w : List Nat) (s : Nat), s < n → Wd m w → (d : Int) ∣ (l s : Int) + (w.length : Int) - (l (run f s w) : Int) := by
 intro w
 induction w with
 | nil => intro s hs _; simp [run]
 | cons x w ih =>
  intro s hs hw
  have h1 := h s x hs (hw x List.mem_cons_self)
  have h2 := ih (f s x) (hf s x hs (hw x List.mem_cons_self)) (fun y hy => hw y (List.mem_cons_of_mem _ hy))
  have h3 := Int.dvd_add h1 h2
  have e : ((l s : Int) + 1 - (l (f s x) : Int)) + ((l (f s x) : Int) + (w.length : Int) - (l (run f (f s x) w) : Int)) = (l s : Int) + ((x :: w).length : Int) - (l (run f s (x :: w)) : Int) := by
   rw [List.length_cons]; show _ = (l s : Int) + ((w.length + 1 : Nat) : Int) - (l (run f (f s x) w) : Int); omega
  rwa [e] at h3
structure Per (f : Nat → Nat → Nat) (m n d : Nat) : Prop where
 dvd : ∀ k, Walk f m k 0 0 → d ∣ k
 max : ∀ g : Nat, (∀ k, 1 ≤ k → k ≤ 3 * n → Walk f m k 0 0 → g ∣ k) → g ∣ d
theorem back_short {rows : List (List Int)} {n m : Nat} (V : VA rows n m) (hc : SC (nx rows) n m) {s t : Nat} (hs : s < n) (ht : t < n) : ∃ k, k < n ∧ Walk (nx rows) m k s t := by
 obtain ⟨w, h1, h2⟩ := hc s hs t ht
 obtain ⟨v, h3, h4, h5, _⟩ := short_word (fun s x => V.nxLt) _ w s (Nat.le_refl _) hs h1
 exact ⟨v.length, h5, v, h3, rfl, h4.trans h2⟩
theorem Off.per {rows : List (List Int)} {n m d : Nat} {l : Nat → Nat} (V : VA rows n m) (hc : SC (nx rows) n m) (N : Numbered (nx rows) m n l) (O : Off (nx rows) m n l d) : Per (nx rows) m n d := by
 refine ⟨fun k ⟨w, h1, h2, h3⟩ => ?_, fun g hg => O.max g fun s x hs hx => ?_⟩
 ·have := Off.walk (fun s x => V.nxLt) O.dvd w 0 V.n0 h1
  rw [h3, h2, N.zero] at this
  simp at this; exact Int.ofNat_dvd.1 (by simpa using this)
 ·have ht := V.nxLt hs hx
  obtain ⟨k, hk, hw⟩ := back_short V hc ht V.n0
  have w1 := ((N.walk s hs).trans (Walk.one hx)).trans hw
  have w2 := (N.walk _ ht).trans hw
  have b1 := N.lt s hs; have b2 := N.lt _ ht
  have d1 := hg _ (by omega) (by omega) w1
  have d2 : g ∣ l (nx rows s x) + k := by
   by_cases h0 : l (nx rows s x) + k = 0
   ·rw [h0]; exact Nat.dvd_zero g
   ·exact hg _ (by omega) (by omega) w2
  have := Int.dvd_sub (Int.ofNat_dvd.2 d1) (Int.ofNat_dvd.2 d2)
  have e : ((l s + 1 + k : Nat) : Int) - ((l (nx rows s x) + k : Nat) : Int) = (l s : Int) + 1 - (l (nx rows s x) : Int) := by omega
  rwa [e] at this
theorem mx_abs {a b : Nat} (ha : a ≤ 100) (hb : b ≤ 100) : mx (wrap64 ((wrap64 ((a : Int) + 1)) - (b : Int))) (wrap64 (-(wrap64 ((wrap64 ((a : Int) + 1)) - (b : Int))))) = ((((a : Int) + 1 - (b : Int)).natAbs : Nat) : Int) := by
 have w1 : wrap64 ((a : Int) + 1) = (a : Int) + 1 := wrapI (by omega) (by omega)
 rw [w1]
 generalize hz : ((a : Int) + 1 - (b : Int)) = z
 rw [wrapI (by omega : -9223372036854775808 ≤ z) (by omega), wrapI (by omega : -9223372036854775808 ≤ -z) (by omega)]
 unfold mx; split <;> omega
theorem net_period {rows : List (List Int)} {n m : Nat} (V : VA rows n m) (hc : SC (nx rows) n m) : ∃ (d : Nat) (out : List Int) (l : Nat → Nat), Ev (fun k => net_period.f k rows) (d : Int) ∧ Ev (fun k => net_lengths.f k rows) out ∧ out.length = n ∧ (∀ t, t < n → rd out (t : Int) = (l t : Int)) ∧ Numbered (nx rows) m n l ∧ Off (nx rows) m n l d := by
 have hlen := V.len; have h60 := V.n60; have h6 := V.m6
 obtain ⟨out, h1, h2, h3, h4⟩ := net_lens V
 have hl : ∀ t, t < n → rd out (t : Int) = ((rd out (t : Int)).toNat : Int) ∧ (rd out (t : Int)).toNat < n ∧ Walk (nx rows) m (rd out (t : Int)).toNat 0 t := fun t ht => by
  obtain ⟨d, a1, a2, a3⟩ := h4 t (hc 0 V.n0 t ht)
  rw [a2]; exact ⟨by simp, by simpa using a1, by simpa using a3⟩
 generalize hL : (fun t : Nat => (rd out (t : Int)).toNat) = l
 have hl' : ∀ t, t < n → rd out (t : Int) = (l t : Int) ∧ l t < n ∧ Walk (nx rows) m (l t) 0 t := fun t ht => by rw [← hL]; exact hl t ht
 have hz : l 0 = 0 := by rw [← hL]; show (rd out ((0 : Nat) : Int)).toNat = 0; rw [show ((0 : Nat) : Int) = 0 from rfl, h3]; rfl
 have NN : Numbered (nx rows) m n l := ⟨hz, fun t ht => (hl' t ht).2.1, fun t ht => (hl' t ht).2.2⟩
 have states : ∀ (g s d : Nat), s + g = n → (∀ u y, u < s → y < m → (d : Int) ∣ (l u : Int) + 1 - (l (nx rows u y) : Int)) → (∀ h : Nat, (∀ u y, u < s → y < m → (h : Int) ∣ (l u : Int) + 1 - (l (nx rows u y) : Int)) → h ∣ d) → ∃ r : Nat, Ev (fun k => net_period.l0 k out (d : Int) rows (n : Int) (s : Int)) (r : Int) ∧ Off (nx rows) m n l r := by
  intro g
  induction g with
  | zero =>
   intro s d hs ha hb
   obtain rfl : s = n := by omega
   refine ⟨d, ?_, ha, hb⟩
   refine Ev.next ?_
   simp only [net_period.l0, if_neg (by omega : ¬ (s : Int) < (s : Int))]
   exact Ev.now _
  | succ g ih =>
   intro s d hs ha hb
   have hsn : s < n := by omega
   have hrow := V.row s hsn
   have letters : ∀ (e x d : Nat), x + e = m → (∀ u y, (u < s ∨ u = s ∧ y < x) → y < m → (d : Int) ∣ (l u : Int) + 1 - (l (nx rows u y) : Int)) → (∀ h : Nat, (∀ u y, (u < s ∨ u = s ∧ y < x) → y < m → (h : Int) ∣ (l u : Int) + 1 - (l (nx rows u y) : Int)) → h ∣ d) → ∃ r : Nat, Ev (fun k => net_period.l1 k out (d : Int) (s : Int) rows (n : Int) (s : Int) (rd_L1 rows (s : Int)) ((rd_L1 rows (s : Int)).length : Int) (x : Int)) (r : Int) ∧ Off (nx rows) m n l r := by
    intro e
    induction e with
    | zero =>
     intro x d hx ha hb
     obtain rfl : x = m := by omega
     obtain ⟨r, a1, a2⟩ := ih (s + 1) d (by omega) (fun u y hu hy => ha u y (by omega) hy) (fun h hh => hb h fun u y hu hy => hh u y (by omega) hy)
     refine ⟨r, ?_, a2⟩
     refine Ev.next ?_
     simp only [net_period.l1, if_neg (by omega : ¬ (x : Int) < ((rd_L1 rows (s : Int)).length : Int)), wrapS (by omega : s + 1 ≤ 9223372036854775807)]
     exact a1
    | succ e ih2 =>
     intro x d hx ha hb
     have hxm : x < m := by omega
     have hu := V.nxLt hsn hxm
     have e1 := hl' s hsn; have e2 := hl' _ hu
     have hmx := mx_abs (a := l s) (b := l (nx rows s x)) (by omega) (by omega)
     generalize hz : ((l s : Int) + 1 - (l (nx rows s x) : Int)) = z at hmx
     obtain ⟨r, a1, a2⟩ := ih2 (x + 1) (Nat.gcd d z.natAbs) (by omega) (fun u y hu' hy => by
      by_cases h : u < s ∨ u = s ∧ y < x
      ·exact Int.dvd_trans (Int.ofNat_dvd.2 (Nat.gcd_dvd_left _ _)) (ha u y h hy)
      ·obtain rfl : u = s := by omega
       obtain rfl : y = x := by omega
       rw [hz]; exact Int.ofNat_dvd_left.2 (Nat.gcd_dvd_right _ _)) (fun h hh => by
      refine Nat.dvd_gcd (hb h fun u y hu' hy => hh u y (by omega) hy) ?_
      have := hh s x (by omega) hxm
      rw [hz] at this; exact Int.ofNat_dvd_left.1 this)
     refine ⟨r, ?_, a2⟩
     refine Ev.next ?_
     simp only [net_period.l1, if_pos (by omega : (x : Int) < ((rd_L1 rows (s : Int)).length : Int)), if_pos (by omega : (0 : Int) ≤ (x : Int)), if_pos (by omega : (0 : Int) ≤ (s : Int)), if_pos (by omega : (s : Int) < (out.length : Int)), V.nxE hsn hxm, if_pos (by omega : (0 : Int) ≤ ((nx rows s x : Nat) : Int)), if_pos (by omega : ((nx rows s x : Nat) : Int) < (out.length : Int)), e1.1, e2.1, hmx, wrapS (by omega : x + 1 ≤ 9223372036854775807)]
     exact Ev.bind (net_gcd _ _) a1
   obtain ⟨r, a1, a2⟩ := letters m 0 d (by omega) (fun u y hu hy => ha u y (by omega) hy) (fun h hh => hb h fun u y hu hy => hh u y (by omega) hy)
   refine ⟨r, ?_, a2⟩
   refine Ev.next ?_
   simp only [net_period.l0, if_pos (by omega : (s : Int) < (n : Int)), if_pos (by omega : (0 : Int) ≤ (s : Int)), if_pos (by omega : (s : Int) < (rows.length : Int))]
   exact a1
 obtain ⟨d, a1, a2⟩ := states n 0 0 (by omega) (fun u y hu _ => by omega) (fun h _ => Nat.dvd_zero h)
 refine ⟨d, out, l, ?_, h1, h2, fun t ht => (hl' t ht).1, NN, a2⟩
 unfold net_period.f
 refine Ev.bind h1 ?_
 rw [hlen]; exact a1
theorem per_pos {rows : List (List Int)} {n m d : Nat} (V : VA rows n m) (hc : SC (nx rows) n m) (P : Per (nx rows) m n d) : 0 < d := by
 obtain ⟨k, hk, hw⟩ := back_short V hc (V.nxLt V.n0 V.m0) V.n0
 have h := P.dvd _ ((Walk.one V.m0).trans hw)
 rcases Nat.eq_zero_or_pos d with h0 | h0
 ·subst h0; have := Nat.eq_zero_of_zero_dvd h; omega
 ·exact h0
theorem VA.walkLt {rows : List (List Int)} {n m k s t : Nat} (V : VA rows n m) (hs : s < n) (h : Walk (nx rows) m k s t) : t < n := by
 obtain ⟨w, h1, _, rfl⟩ := h; exact V.runLt hs h1
end Go.Proofs.Ytjgdalhdiohclaa.Q
end
section
namespace Go.Proofs.Ytjgdalhdiohclaa.Q
open Go.RowKit Go.Proofs.YtjgdalhdiohclaaW.PrintWords Go.Proofs.YtjgdalhdiohclaaW.PrintLast Go.Proofs.YtjgdalhdiohclaaW.PrintMore
theorem period_no {rows : List (List Int)} {n m : Nat} (V : VA rows n m) (h : ¬ SC (nx rows) n m) : Ev (fun k => net_Period.f k rows) (0, 2) := by
 unfold net_Period.f
 simp only [auto_Valid.f, validB_of V, Option.bind_some, if_true]
 refine Ev.bind (net_connects V (r := false) (by simp [h])) ?_
 simp only [Bool.false_eq_true, if_false]
 exact Ev.now _
theorem period_only {rows : List (List Int)} {n m : Nat} (V : VA rows n m) (hc : SC (nx rows) n m) : ∃ (d : Nat) (l : Nat → Nat), Ev (fun k => net_Period.f k rows) ((d : Int), 0) ∧ 0 < d ∧ Numbered (nx rows) m n l ∧ Off (nx rows) m n l d ∧ Per (nx rows) m n d := by
 obtain ⟨d, out, l, h1, h2, h3, h4, h5, h6⟩ := net_period V hc
 have P := h6.per V hc h5
 refine ⟨d, l, ?_, per_pos V hc P, h5, h6, P⟩
 unfold net_Period.f
 simp only [auto_Valid.f, validB_of V, Option.bind_some, if_true]
 refine Ev.bind (net_connects V (r := true) (by simp [hc])) ?_
 simp only [if_true]
 exact Ev.bind h1 (Ev.now _)
end Go.Proofs.Ytjgdalhdiohclaa.Q
end
section
namespace Go.Proofs.Ytjgdalhdiohclaa.Q
open Go.RowKit Go.Proofs.YtjgdalhdiohclaaW.PrintWords Go.Proofs.YtjgdalhdiohclaaW.PrintLast Go.Proofs.YtjgdalhdiohclaaW.PrintMore
structure Col (f f' : Nat → Nat → Nat) (n m : Nat) : Prop where
 lt : ∀ s x, s < n → x < m → f s x < n
 fwd : ∀ s x, s < n → x < m → ∃ y, y < m ∧ f' s x = f s y
 bwd : ∀ s x, s < n → x < m → ∃ y, y < m ∧ f s x = f' s y
section
variable {f f' : Nat → Nat → Nat} {n m : Nat}
theorem Col.off (h : Col f f' n m) {d : Nat} {l : Nat → Nat} (ho : ∀ s x, s < n → x < m → (d : Int) ∣ (l s : Int) + 1 - (l (f s x) : Int)) : ∀ s x, s < n → x < m → (d : Int) ∣ (l s : Int) + 1 - (l (f' s x) : Int) := by
 intro s x hs hx
 obtain ⟨y, hy, e⟩ := h.fwd s x hs hx
 rw [e]; exact ho s y hs hy
end
theorem Col.of_perm {a b : List (List Int)} {n m : Nat} (V : VA a n m) (V' : VA b n m) (h : ∀ s, s < n → (rd_L1 b (s : Int)).Perm (rd_L1 a (s : Int))) : Col (nx a) (nx b) n m := by
 have key : ∀ {a b : List (List Int)}, VA a n m → VA b n m → (∀ s, s < n → (rd_L1 b (s : Int)).Perm (rd_L1 a (s : Int))) → ∀ s x, s < n → x < m → ∃ y, y < m ∧ nx b s x = nx a s y := by
  intro a b V V' h s x hs hx
  have r1 := V.row s hs
  have r2 := V'.row s hs
  have hm : (rd_L1 b (s : Int))[x]'(by omega) ∈ rd_L1 a (s : Int) := (h s hs).mem_iff.1 (List.getElem_mem _)
  obtain ⟨y, hy, e⟩ := List.getElem_of_mem hm
  refine ⟨y, by omega, ?_⟩
  unfold nx
  rw [rdE (by omega), rdE hy, e]
 exact ⟨fun s x hs hx => V.nxLt hs hx, key V V' h, key V' V fun s hs => (h s hs).symm⟩
theorem VA.of_rows {a b : List (List Int)} {n m : Nat} (V : VA a n m) (hl : b.length = n) (h : ∀ s, s < n → (rd_L1 b (s : Int)).Perm (rd_L1 a (s : Int))) : VA b n m := by
 refine ⟨hl, V.n0, V.n60, V.m0, V.m6, fun s hs => by rw [(h s hs).length_eq, V.row s hs], fun s hs => ?_⟩
 have := V.ent s hs
 unfold inB at this ⊢
 rw [List.all_eq_true] at this ⊢
 exact fun x hx => this x ((h s hs).mem_iff.1 hx)
theorem walk_on {rows : List (List Int)} {n m : Nat} (V : VA rows n m) : ∀ k, ∃ t, t < n ∧ Walk (nx rows) m k 0 t
 | 0 => ⟨0, V.n0, Walk.refl _ _ _⟩
 | k + 1 => by
  obtain ⟨t, h1, h2⟩ := walk_on V k
  exact ⟨_, V.nxLt h1 V.m0, h2.trans (Walk.one V.m0)⟩
theorem class_met {rows : List (List Int)} {n m d : Nat} {l : Nat → Nat} (V : VA rows n m) (h0 : l 0 = 0) (ho : ∀ s x, s < n → x < m → (d : Int) ∣ (l s : Int) + 1 - (l (nx rows s x) : Int)) (r : Nat) : ∃ t, t < n ∧ (d : Int) ∣ (r : Int) - (l t : Int) := by
 obtain ⟨t, ht, w, hw, hl, hr⟩ := walk_on V r
 have := Off.walk (fun s x hs hx => V.nxLt hs hx) ho w 0 V.n0 hw
 rw [hr, hl, h0] at this
 exact ⟨t, ht, by simpa using this⟩
theorem class_led {f : Nat → Nat → Nat} {n m d : Nat} {l : Nat → Nat} (hf : ∀ s x, s < n → x < m → f s x < n) (ho : ∀ s x, s < n → x < m → (d : Int) ∣ (l s : Int) + 1 - (l (f s x) : Int)) {w : List Nat} (hw : Wd m w) {r s t t' : Nat} (hr : r < d) (hs : s < d) (ht : t < n) (ht' : t' < n)
  (h1 : (d : Int) ∣ (r : Int) - (l t : Int)) (h2 : (d : Int) ∣ (s : Int) - (l t' : Int)) (he : run f t w = run f t' w) : r = s := by
 have a := Off.walk hf ho w t ht hw
 have b := Off.walk hf ho w t' ht' hw
 rw [he] at a
 have c := Int.dvd_sub (Int.dvd_add h1 a) (Int.dvd_add h2 b)
 have e : ((r : Int) - (l t : Int)) + ((l t : Int) + (w.length : Int) - (l (run f t' w) : Int)) - (((s : Int) - (l t' : Int)) + ((l t' : Int) + (w.length : Int) - (l (run f t' w) : Int))) = (r : Int) - (s : Int) := by omega
 rw [e] at c
 obtain ⟨z, hz⟩ := c
 rcases Int.lt_trichotomy z 0 with h | h | h
 ·have : (d : Int) * z ≤ (d : Int) * (-1) := Int.mul_le_mul_of_nonneg_left (by omega) (by omega)
  omega
 ·subst h; omega
 ·have : (d : Int) * 1 ≤ (d : Int) * z := Int.mul_le_mul_of_nonneg_left (by omega) (by omega)
  omega
theorem nodup_len5 {l1 l2 : List Int} (hn : l1.Nodup) (hs : ∀ x ∈ l1, x ∈ l2) : l1.length ≤ l2.length := by
 rcases Nat.lt_or_ge l2.length l1.length with h | h
 ·have := (perm_of_sub l1 l2 hn hs (by omega)).length_eq; omega
 ·exact h
theorem classes_many {f : Nat → Nat → Nat} {n m d : Nat} {l : Nat → Nat} (hf : ∀ s x, s < n → x < m → f s x < n) (ho : ∀ s x, s < n → x < m → (d : Int) ∣ (l s : Int) + 1 - (l (f s x) : Int)) (hm : ∀ r : Nat, ∃ t, t < n ∧ (d : Int) ∣ (r : Int) - (l t : Int))
  {w : List Nat} (hw : Wd m w) {I : List Int} (hI : ∀ t, t < n → ((run f t w : Nat) : Int) ∈ I) : d ≤ I.length := by
 have hch : ∀ r : Nat, ∃ t, t < n ∧ (d : Int) ∣ (r : Int) - (l t : Int) := hm
 let g : Nat → Nat := fun r => Classical.choose (hch r)
 have hg : ∀ r, g r < n ∧ (d : Int) ∣ (r : Int) - (l (g r) : Int) := fun r => Classical.choose_spec (hch r)
 have := nodup_len5 (l1 := (List.range d).map fun r => ((run f (g r) w : Nat) : Int)) (l2 := I) ?_ ?_
 ·simpa using this
 ·rw [List.nodup_iff_pairwise_ne, List.pairwise_map]
  refine List.Pairwise.imp_of_mem ?_ (List.nodup_iff_pairwise_ne.1 (List.nodup_range (n := d)))
  intro r s hr hs hne e
  exact hne (class_led hf ho hw (List.mem_range.1 hr) (List.mem_range.1 hs) (hg r).1 (hg s).1 (hg r).2 (hg s).2 (Int.ofNat.inj e))
 ·intro x hx
  obtain ⟨r, _, rfl⟩ := List.mem_map.1 hx
  exact hI _ (hg r).1
end Go.Proofs.Ytjgdalhdiohclaa.Q
end
section
namespace Go.Proofs.Ytjgdalhdiohclaa.Q
open Go.RowKit Go.Proofs.YtjgdalhdiohclaaW.PrintWords Go.Proofs.YtjgdalhdiohclaaW.PrintLast Go.Proofs.YtjgdalhdiohclaaW.PrintMore
end Go.Proofs.Ytjgdalhdiohclaa.Q
end
section
namespace Go.Proofs.Ytjgdalhdiohclaa.Q
def Steps (R : Nat → Nat → Prop) : Nat → Nat → Nat → Prop
 | 0, s, t => s = t
 | k + 1, s, t => ∃ u, R s u ∧ Steps R k u t
theorem Steps.trans {R : Nat → Nat → Prop} : ∀ {j k s t u}, Steps R j s t → Steps R k t u → Steps R (j + k) s u
 | 0, k, s, t, u, h, h2 => by cases h; rw [Nat.zero_add]; exact h2
 | j + 1, k, s, t, u, ⟨v, h1, h⟩, h2 => by rw [Nat.add_right_comm]; exact ⟨v, h1, h.trans h2⟩
theorem Steps.way {R : Nat → Nat → Prop} : ∀ {k s t}, Steps R k s t → ∃ p : Nat → Nat, p 0 = s ∧ p k = t ∧ ∀ i, i < k → R (p i) (p (i + 1))
 | 0, s, t, h => ⟨fun _ => s, rfl, h, fun i hi => by omega⟩
 | k + 1, s, t, ⟨u, h1, h⟩ => by
  obtain ⟨p, h2, h3, h4⟩ := h.way
  refine ⟨fun i => match i with | 0 => s | i + 1 => p i, rfl, h3, fun i hi => ?_⟩
  cases i with
  | zero => show R s (p 0); rw [h2]; exact h1
  | succ i => exact h4 i (by omega)
theorem way_steps {R : Nat → Nat → Prop} {p : Nat → Nat} {k : Nat} (h : ∀ i, i < k → R (p i) (p (i + 1))) : ∀ {d i j}, i + d = j → j ≤ k → Steps R d (p i) (p j)
 | 0, i, j, hij, hj => by
   obtain rfl : i = j := by omega
   rfl
 | d + 1, i, j, hij, hj => ⟨p (i + 1), h i (by omega), way_steps h (d := d) (by omega) hj⟩
theorem Steps.short {R : Nat → Nat → Prop} {n : Nat} (hR : ∀ s t, s < n → R s t → t < n) : ∀ (d k : Nat) {s t : Nat}, k ≤ d → s < n → Steps R k s t → ∃ j, j < n ∧ j ≤ k ∧ Steps R j s t := by
 intro d
 induction d with
 | zero => intro k s t hk hs h; exact ⟨k, by omega, Nat.le_refl _, h⟩
 | succ d ih =>
  intro k s t hk hs h
  by_cases hkn : k < n
  ·exact ⟨k, hkn, Nat.le_refl _, h⟩
  ·obtain ⟨p, h1, h2, h3⟩ := h.way
   have hp : ∀ i, i ≤ k → p i < n := by
    intro i
    induction i with
    | zero => intro _; rw [h1]; exact hs
    | succ i ihi => intro hi; exact hR _ _ (ihi (by omega)) (h3 i (by omega))
   obtain ⟨i, j, hij, hj, e⟩ := drawers (n := n) p fun i hi => hp i (by omega)
   have a := way_steps h3 (d := i) (i := 0) (j := i) (by omega) (by omega)
   have b := way_steps h3 (d := k - j) (i := j) (j := k) (by omega) (Nat.le_refl k)
   rw [h1, e] at a; rw [h2] at b
   obtain ⟨j', h5, h6, h7⟩ := ih (i + (k - j)) (by omega) hs (a.trans b)
   exact ⟨j', h5, by omega, h7⟩
theorem least_nat {P : Nat → Prop} : ∀ k, P k → ∃ g, P g ∧ g ≤ k ∧ ∀ j, P j → g ≤ j := by
 intro k
 induction k using Nat.strongRecOn with
 | _ k ih =>
  intro hk
  by_cases h : ∃ j, j < k ∧ P j
  ·obtain ⟨j, h1, h2⟩ := h
   obtain ⟨g, a, b, c⟩ := ih j h1 h2
   exact ⟨g, a, by omega, c⟩
  ·exact ⟨k, hk, Nat.le_refl k, fun j hj => by
    rcases Nat.lt_or_ge j k with h1 | h1
    ·exact absurd ⟨j, h1, hj⟩ h
    ·exact h1⟩
theorem Walk.cut {f : Nat → Nat → Nat} {m : Nat} {w : List Nat} {s i j : Nat} (hw : Wd m w) (hij : i ≤ j) (hj : j ≤ w.length) : Walk f m (j - i) (run f s (w.take i)) (run f s (w.take j)) := by
 refine ⟨(w.take j).drop i, fun x hx => hw x (List.mem_of_mem_take (List.mem_of_mem_drop hx)), by rw [List.length_drop, List.length_take]; omega, ?_⟩
 have h2 : w.take i = (w.take j).take i := by rw [List.take_take, Nat.min_eq_left hij]
 rw [h2, ← run_app, List.take_append_drop]
theorem remainders {S : Nat → Prop} {g : Nat} (hg : 0 < g) (h0 : S 0) (hadd : ∀ a b, S a → S b → S (a + b)) (hS : S g) (h1 : ∀ h : Nat, (∀ a, S a → h ∣ a) → h = 1) : ∀ r, ∃ a, S a ∧ a % g = r % g := by
 have hmul : ∀ q a, S a → S (q * a) := by
  intro q a ha
  induction q with
  | zero => rw [Nat.zero_mul]; exact h0
  | succ q ih => rw [Nat.succ_mul]; exact hadd _ _ ih ha
 obtain ⟨h, ⟨hpos, a, ha, hah⟩, _, hmin⟩ := least_nat (P := fun h => 0 < h ∧ ∃ a, S a ∧ a % g = h % g) g ⟨hg, g, hS, rfl⟩
 have hle : h ≤ g := hmin g ⟨hg, g, hS, rfl⟩
 have hd : ∀ b, S b → h ∣ b := by
  intro b hb
  rcases Nat.eq_zero_or_pos (b % h) with h2 | h2
  ·exact Nat.dvd_of_mod_eq_zero h2
  ·exfalso
   have hT : S (b + (b / h) * ((g - 1) * a)) := hadd _ _ hb (hmul _ _ (hmul _ _ ha))
   have e : (b + (b / h) * ((g - 1) * a)) % g = (b % h) % g := by
    have e1 : (b + (b / h) * ((g - 1) * a)) % g = (b + (b / h) * ((g - 1) * h)) % g := by
     rw [Nat.add_mod, Nat.mul_mod (b / h), Nat.mul_mod (g - 1), hah, ← Nat.mul_mod (g - 1), ← Nat.mul_mod (b / h), ← Nat.add_mod]
    have e2 : b + (b / h) * ((g - 1) * h) = b % h + ((b / h) * h) * g := by
     have e3 := Nat.div_add_mod b h
     have e4 : (b / h) * ((g - 1) * h) = (b / h * h) * (g - 1) := by rw [Nat.mul_comm (g - 1) h, Nat.mul_assoc]
     have e5 : (b / h * h) * g = (b / h * h) * (g - 1) + (b / h * h) := by
      obtain ⟨g', rfl⟩ : ∃ g', g = g' + 1 := ⟨g - 1, by omega⟩
      rw [Nat.add_sub_cancel, Nat.mul_succ]
     rw [e4, e5, Nat.mul_comm (b / h) h]; omega
    rw [e1, e2, Nat.add_mul_mod_self_right]
   have := hmin (b % h) ⟨h2, _, hT, e⟩
   have := Nat.mod_lt b hpos; omega
 have hone := h1 h hd
 subst hone
 intro r
 refine ⟨r * a, hmul r a ha, ?_⟩
 rw [Nat.mul_mod, hah, ← Nat.mul_mod, Nat.mul_one]
theorem primitive {rows : List (List Int)} {n m : Nat} (V : VA rows n m) (hc : SC (nx rows) n m) (P : Per (nx rows) m n 1) : ∀ k, (n - 1) * (n - 1) + 1 ≤ k → ∀ s t, s < n → t < n → Walk (nx rows) m k s t := by
 have hlt := fun s x => V.nxLt (s := s) (x := x)
 have gcd1 : ∀ v, v < n → ∀ h : Nat, (∀ k, Walk (nx rows) m k v v → h ∣ k) → h = 1 := by
  intro v hv h hh
  refine Nat.dvd_one.1 (P.max h fun k _ _ hk => ?_)
  obtain ⟨a, _, ha⟩ := back_short V hc hv V.n0
  obtain ⟨b, _, hb⟩ := back_short V hc V.n0 hv
  have h1 := hh _ ((ha.trans hk).trans hb)
  have h2 := hh _ (ha.trans hb)
  rw [Nat.add_right_comm] at h1
  exact (Nat.dvd_add_right h2).1 h1
 obtain ⟨kc, _, hkc⟩ := back_short V hc (V.nxLt V.n0 V.m0) V.n0
 obtain ⟨g, ⟨hg0, v0, hv0, w, hwd, hwl, hwr⟩, _, hgmin⟩ := least_nat (P := fun g => 0 < g ∧ ∃ v, v < n ∧ Walk (nx rows) m g v v) (1 + kc) ⟨by omega, 0, V.n0, (Walk.one V.m0).trans hkc⟩
 let c := fun i => run (nx rows) v0 (w.take i)
 have hcl : ∀ i, c i < n := fun i => V.runLt hv0 fun x hx => hwd x (List.mem_of_mem_take hx)
 have hc0 : c 0 = v0 := rfl
 have hcg : c g = v0 := by show run (nx rows) v0 (w.take g) = v0; rw [← hwl, List.take_length]; exact hwr
 have hcw : ∀ i j, i ≤ j → j ≤ g → Walk (nx rows) m (j - i) (c i) (c j) := fun i j hij hj => Walk.cut hwd hij (by omega)
 have hinj : ∀ i j, i < j → j < g → c i ≠ c j := by
  intro i j hij hj e
  have h := hcw i j (by omega) (by omega)
  rw [← e] at h
  have := hgmin (j - i) ⟨by omega, c i, hcl i, h⟩; omega
 have hgn : g ≤ n := by
  rcases Nat.lt_or_ge n g with h | h
  ·obtain ⟨i, j, hij, hj, e⟩ := drawers (n := n) c fun i _ => hcl i
   exact absurd e (hinj i j hij (by omega))
  ·exact h
 have round : ∀ i, i < g → Walk (nx rows) m g (c i) (c i) := by
  intro i hi
  have h0 : Walk (nx rows) m (i - 0) (c g) (c i) := by rw [hcg, ← hc0]; exact hcw 0 i (Nat.zero_le i) (by omega)
  have h := (hcw i g (by omega) (Nat.le_refl g)).trans h0
  have e : g - i + (i - 0) = g := by omega
  rwa [e] at h
 have along : ∀ (j i : Nat), i < g → ∃ i', i' < g ∧ Walk (nx rows) m j (c i) (c i') := by
  intro j
  induction j with
  | zero => intro i hi; exact ⟨i, hi, Walk.refl _ _ _⟩
  | succ j ih =>
   intro i hi
   obtain ⟨i', h1, h2⟩ := ih i hi
   have h3 := hcw i' (i' + 1) (by omega) (by omega)
   rw [Nat.add_sub_cancel_left] at h3
   by_cases h : i' + 1 = g
   ·refine ⟨0, hg0, ?_⟩
    have := h2.trans h3
    rw [h, hcg] at this; exact this
   ·exact ⟨i' + 1, by omega, h2.trans h3⟩
 have reach : ∀ u, u < n → ∃ i, i < g ∧ Walk (nx rows) m (n - g) u (c i) := by
  intro u hu
  obtain ⟨k1, _, hk1⟩ := back_short V hc hu hv0
  obtain ⟨k, ⟨i0, hi0, v, hvd, hvl, hvr⟩, _, hkmin⟩ := least_nat (P := fun k => ∃ i, i < g ∧ Walk (nx rows) m k u (c i)) k1 ⟨0, hg0, hc0 ▸ hk1⟩
  have hkn : k + g ≤ n := by
   have hnd : ((List.range k).map (fun i => run (nx rows) u (v.take i)) ++ (List.range g).map c).Nodup := by
    rw [List.nodup_append]
    refine ⟨?_, ?_, ?_⟩
    ·rw [List.nodup_iff_pairwise_ne, List.pairwise_map]
     refine List.Pairwise.imp_of_mem (R := fun a b => a < b) ?_ List.pairwise_lt_range
     intro a b ha hb hab e
     have hb' := List.mem_range.1 hb
     have h1 := Walk.cut (f := nx rows) (s := u) hvd (Nat.zero_le a) (by omega)
     have h2 := Walk.cut (f := nx rows) (s := u) hvd (i := b) (j := k) (by omega) (by omega)
     have h3 : run (nx rows) u (v.take k) = c i0 := by rw [← hvl, List.take_length]; exact hvr
     rw [h3, ← e] at h2
     have := hkmin _ ⟨i0, hi0, h1.trans h2⟩
     omega
    ·rw [List.nodup_iff_pairwise_ne, List.pairwise_map]
     refine List.Pairwise.imp_of_mem (R := fun a b => a < b) ?_ List.pairwise_lt_range
     intro a b ha hb hab
     exact hinj a b hab (List.mem_range.1 hb)
    ·intro x hx y hy e
     obtain ⟨a, ha, rfl⟩ := List.mem_map.1 hx
     obtain ⟨b, hb, rfl⟩ := List.mem_map.1 hy
     have ha' := List.mem_range.1 ha
     have h1 := Walk.cut (f := nx rows) (s := u) hvd (Nat.zero_le a) (by omega)
     have := hkmin (a - 0) ⟨b, List.mem_range.1 hb, by
      have e' : run (nx rows) u (v.take a) = c b := e
      rw [e'] at h1; exact h1⟩
     omega
   have := nodup_le n _ hnd (by
    intro x hx
    rcases List.mem_append.1 hx with h | h
    ·obtain ⟨a, _, rfl⟩ := List.mem_map.1 h
     exact V.runLt hu fun x hx => hvd x (List.mem_of_mem_take hx)
    ·obtain ⟨a, _, rfl⟩ := List.mem_map.1 h; exact hcl a)
   simpa using this
  obtain ⟨i', h1, h2⟩ := along (n - g - k) i0 hi0
  refine ⟨i', h1, ?_⟩
  have := Walk.trans (⟨v, hvd, hvl, hvr⟩ : Walk (nx rows) m k u (c i0)) h2
  have e : k + (n - g - k) = n - g := by omega
  rwa [e] at this
 have spread : ∀ i t, i < g → t < n → Walk (nx rows) m (g * (n - 1)) (c i) t := by
  intro i t hi ht
  obtain ⟨b, _, hb⟩ := back_short V hc (hcl i) ht
  obtain ⟨a, ha, hae⟩ := remainders (S := fun k => Walk (nx rows) m k (c i) (c i)) hg0 (Walk.refl _ _ _) (fun a b ha hb => ha.trans hb) (round i hi) (gcd1 _ (hcl i)) ((g - 1) * b)
  have hmul : (a + b) % g = 0 := by
   rw [Nat.add_mod, hae, ← Nat.add_mod]
   obtain ⟨g', rfl⟩ : ∃ g', g = g' + 1 := ⟨g - 1, by omega⟩
   rw [Nat.add_sub_cancel, ← Nat.succ_mul, Nat.mul_mod_right]
  obtain ⟨q, hq⟩ := Nat.dvd_of_mod_eq_zero hmul
  have hwalk := ha.trans hb
  rw [hq] at hwalk
  have toSteps : ∀ (q s t : Nat), Walk (nx rows) m (g * q) s t → Steps (fun s t => Walk (nx rows) m g s t) q s t := by
   intro q
   induction q with
   | zero =>
    intro s t ⟨z, h1, h2, h3⟩
    have hz : z.length = 0 := by simpa using h2
    rw [List.eq_nil_of_length_eq_zero hz] at h3; exact h3
   | succ q ih =>
    intro s t ⟨z, h1, h2, h3⟩
    rw [Nat.mul_succ] at h2
    refine ⟨run (nx rows) s (z.take g), ⟨z.take g, fun x hx => h1 x (List.mem_of_mem_take hx), by rw [List.length_take]; omega, rfl⟩, ih _ _ ⟨z.drop g, fun x hx => h1 x (List.mem_of_mem_drop hx), by rw [List.length_drop]; omega, ?_⟩⟩
    rw [← run_app, List.take_append_drop]; exact h3
  have ofSteps : ∀ (q s t : Nat), Steps (fun s t => Walk (nx rows) m g s t) q s t → Walk (nx rows) m (g * q) s t := by
   intro q
   induction q with
   | zero => intro s t h; cases h; exact Walk.refl _ _ _
   | succ q ih =>
    intro s t ⟨u, h1, h2⟩
    have := h1.trans (ih u t h2)
    rw [Nat.mul_succ, Nat.add_comm]; exact this
  obtain ⟨j, hj1, hj2, hj3⟩ := Steps.short (n := n) (fun s t hs h => V.walkLt hs h) q q (Nat.le_refl q) (hcl i) (toSteps q _ _ hwalk)
  have pad : ∀ e, Steps (fun s t => Walk (nx rows) m g s t) (e + j) (c i) t := by
   intro e
   induction e with
   | zero => rw [Nat.zero_add]; exact hj3
   | succ e ih => rw [Nat.add_right_comm]; exact ⟨c i, round i hi, ih⟩
  have := pad (n - 1 - j)
  have e : n - 1 - j + j = n - 1 := by omega
  rw [e] at this
  exact ofSteps _ _ _ this
 have hg1 : n = 1 ∨ g + 1 ≤ n := by
  rcases Nat.lt_or_ge g n with h | h
  ·exact Or.inr h
  ·left
   have hgn' : g = n := by omega
   refine gcd1 v0 hv0 n fun k hk => ?_
   have all : ∀ (d k v : Nat), k ≤ d → v < n → Walk (nx rows) m k v v → n ∣ k := by
    intro d
    induction d with
    | zero =>
      intro k v hk _ _; obtain rfl : k = 0 := by omega
      exact Nat.dvd_zero n
    | succ d ih =>
     intro k v hk hv ⟨z, h1, h2, h3⟩
     rcases Nat.eq_zero_or_pos k with h0 | h0
     ·subst h0; exact Nat.dvd_zero n
     ·have hkn := hgmin k ⟨h0, v, hv, z, h1, h2, h3⟩
      obtain ⟨i, j, hij, hj, e⟩ := drawers (n := n) (fun i => run (nx rows) v (z.take i)) fun i _ => V.runLt hv fun x hx => h1 x (List.mem_of_mem_take hx)
      have a := Walk.cut (f := nx rows) (s := v) h1 (i := i) (j := j) (by omega) (by omega)
      have e' : run (nx rows) v (z.take i) = run (nx rows) v (z.take j) := e
      rw [← e'] at a
      have hji := hgmin (j - i) ⟨by omega, _, V.runLt hv fun x hx => h1 x (List.mem_of_mem_take hx), a⟩
      have b := Walk.cut (f := nx rows) (s := v) h1 (i := 0) (j := i) (by omega) (by omega)
      have b2 := Walk.cut (f := nx rows) (s := v) h1 (i := j) (j := k) (by omega) (by omega)
      have e3 : run (nx rows) v (z.take k) = v := by rw [← h2, List.take_length]; exact h3
      rw [e3, ← e'] at b2
      have hrest := b.trans b2
      have h5 := ih (i - 0 + (k - j)) v (by omega) hv hrest
      have e6 : k = (i - 0 + (k - j)) + n := by omega
      rw [e6]; exact (Nat.dvd_add_right h5).2 (Nat.dvd_refl n)
   exact all k k v0 (Nat.le_refl k) hv0 hk
 have base : ∃ k0, k0 ≤ (n - 1) * (n - 1) + 1 ∧ ∀ s t, s < n → t < n → Walk (nx rows) m k0 s t := by
  refine ⟨n - g + g * (n - 1), ?_, fun s t hs ht => ?_⟩
  ·rcases hg1 with h | h
   ·subst h; simp
   ·obtain ⟨a, rfl⟩ : ∃ a, n = a + 2 := ⟨n - 2, by omega⟩
    have h2 : g * a ≤ (a + 1) * a := Nat.mul_le_mul_right a (by omega)
    have e1 : a + 2 - 1 = a + 1 := by omega
    rw [e1, Nat.mul_succ, Nat.mul_succ]
    have e2 : (a + 1) * a = a * (a + 1) := Nat.mul_comm _ _
    omega
  ·obtain ⟨i, hi, h⟩ := reach s hs
   exact h.trans (spread i t hi ht)
 obtain ⟨k0, hk0, hall⟩ := base
 have more : ∀ e, ∀ s t, s < n → t < n → Walk (nx rows) m (e + k0) s t := by
  intro e
  induction e with
  | zero => intro s t hs ht; rw [Nat.zero_add]; exact hall s t hs ht
  | succ e ih =>
   intro s t hs ht
   have := (Walk.one V.m0 (f := nx rows) (s := s)).trans (ih _ t (V.nxLt hs V.m0) ht)
   rwa [← Nat.add_assoc, Nat.add_comm 1 e] at this
 intro k hk s t hs ht
 have := more (k - k0) s t hs ht
 have e : k - k0 + k0 = k := by omega
 rwa [e] at this
end Go.Proofs.Ytjgdalhdiohclaa.Q
end
