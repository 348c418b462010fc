/- A colouring of a colouring is a colouring; whether an automaton is strongly connected, its period, its classes, its sinks and the number of its colourings are the same for all of them; Same holds both ways. (text 10 of 29) -/
import Derived.Test.YtjgdalhdiohclaaZColorAlikeh
import Derived.Test.YtjgdalhdiohclaaZColorAlikei
import Derived.Test.YtjgdalhdiohclaaZColorAlikeg
open Go.RowKit Go.Proofs.YtjgdalhdiohclaaW.PrintWords Go.Proofs.YtjgdalhdiohclaaW.PrintLast Go.Proofs.YtjgdalhdiohclaaW.PrintMore
/-! Part MReach -/
section
namespace Go.Proofs.Ytjgdalhdiohclaa.Q
set_option linter.unusedVariables false
end Go.Proofs.Ytjgdalhdiohclaa.Q
end
/-! Part MReachb -/
section
namespace Go.Proofs.Ytjgdalhdiohclaa.Q
set_option linter.unusedVariables false
theorem Is.put {n : Nat} {l : List Bool} {P : Nat → Prop} (h : Is n l P) {u : Nat} {b : Bool} : Is n (l.set u b) (fun t => if u = t then b = true else P t) := by
 refine ⟨by rw [List.length_set]; exact h.1, fun t ht => ?_⟩
 rw [rdB_set (by rw [h.1]; exact ht)]
 by_cases e : u = t
 ·simp [e]
 ·simp [e, h.2 t ht]
def left (l : List Bool) : Nat := l.count false
theorem left_set {l : List Bool} {u : Nat} (h : u < l.length) (hf : rdOf false l (u : Int) = false) : left (l.set u true) + 1 = left l := by
 induction l generalizing u with
 | nil => exact absurd h (by simp)
 | cons b l ih =>
  cases u with
  | zero =>
   have : b = false := hf
   subst this
   simp [left]
  | succ u =>
   have := ih (u := u) (by simpa using h) (by rw [rdBE (by simpa using h)]; rw [rdBE h] at hf; simpa using hf)
   simp only [left] at this
   cases b <;> simp [left] <;> omega
theorem net_reaches {rows : List (List Int)} {n m s : Nat} (V : VA rows n m) (hs : s < n) : ∃ l, Ev (fun k => net_reach.f k rows (s : Int)) l ∧ Is n l (Conn (nx rows) m s) := by
 have hlen := V.len; have h60 := V.n60; have h6 := V.m6
 have key : ∀ (d : Nat) (met : List Bool) (P : Nat → Prop) (s : Nat), s < n → left met ≤ d → Is n met P → ∃ l P', Ev (fun k => net_visit.f k rows met (s : Int)) l ∧ Is n l P' ∧ left l ≤ left met ∧ (∀ t, P t → P' t) ∧ P' s ∧ (∀ t, P' t → P t ∨ Conn (nx rows) m s t) ∧ (∀ t, P' t → P t ∨ ∀ x, x < m → P' (nx rows t x)) := by
  intro d
  induction d with
  | zero =>
   intro met P s hs hd hm
   have hh : rdOf false met (s : Int) = true := by
    cases h : rdOf false met (s : Int) with
    | true => rfl
    | false => have := left_set (by rw [hm.1]; exact hs) h; omega
   refine ⟨met, P, ?_, hm, Nat.le_refl _, fun _ h => h, (hm.2 s hs).1 hh, fun t h => Or.inl h, fun t h => Or.inl h⟩
   refine Ev.next ?_
   simp only [net_visit.f, if_pos (by omega : (0 : Int) ≤ (s : Int)), if_pos (by have := hm.1; omega : (s : Int) < (met.length : Int)), hh, if_true]
   exact Ev.now _
  | succ d ih =>
   intro met P s hs hd hm
   cases hh : rdOf false met (s : Int) with
   | true =>
    refine ⟨met, P, ?_, hm, Nat.le_refl _, fun _ h => h, (hm.2 s hs).1 hh, fun t h => Or.inl h, fun t h => Or.inl h⟩
    refine Ev.next ?_
    simp only [net_visit.f, if_pos (by omega : (0 : Int) ≤ (s : Int)), if_pos (by have := hm.1; omega : (s : Int) < (met.length : Int)), hh, if_true]
    exact Ev.now _
   | false =>
    have hcnt := left_set (by rw [hm.1]; exact hs) hh
    have hrow := V.row s hs
    have inner : ∀ (e x : Nat) (met1 : List Bool) (P1 : Nat → Prop), x + e = m → left met1 ≤ d → Is n met1 P1 → ∃ l P', Ev (fun k => net_visit.l0 k rows met1 (rd_L1 rows (s : Int)) (x : Int)) l ∧ Is n l P' ∧ left l ≤ left met1 ∧ (∀ t, P1 t → P' t) ∧ (∀ y, x ≤ y → y < m → P' (nx rows s y)) ∧ (∀ t, P' t → P1 t ∨ Conn (nx rows) m s t) ∧ (∀ t, P' t → P1 t ∨ ∀ x, x < m → P' (nx rows t x)) := by
     intro e
     induction e with
     | zero =>
      intro x met1 P1 hx hd1 hm1
      refine ⟨met1, P1, ?_, hm1, Nat.le_refl _, fun _ h => h, fun y h1 h2 => by omega, fun t h => Or.inl h, fun t h => Or.inl h⟩
      refine Ev.next ?_
      simp only [net_visit.l0, if_neg (by omega : ¬ (x : Int) < ((rd_L1 rows (s : Int)).length : Int))]
      exact Ev.now _
     | succ e ih2 =>
      intro x met1 P1 hx hd1 hm1
      have hxm : x < m := by omega
      obtain ⟨l1, P2, a1, a2, a3, a4, a5, a6, a7⟩ := ih met1 P1 (nx rows s x) (V.nxLt hs hxm) hd1 hm1
      obtain ⟨l2, P3, b1, b2, b3, b4, b5, b6, b7⟩ := ih2 (x + 1) l1 P2 (by omega) (by omega) a2
      refine ⟨l2, P3, ?_, b2, by omega, fun t h => b4 t (a4 t h), ?_, ?_, ?_⟩
      ·refine Ev.next ?_
       simp only [net_visit.l0, if_pos (by omega : (x : Int) < ((rd_L1 rows (s : Int)).length : Int)), if_pos (by omega : (0 : Int) ≤ (x : Int)), V.nxE hs hxm, wrapS (by omega : x + 1 ≤ 9223372036854775807)]
       exact Ev.bind a1 b1
      ·intro y h1 h2
       by_cases hy : y = x
       ·subst hy; exact b4 _ a5
       ·exact b5 y (by omega) h2
      ·intro t h
       rcases b6 t h with h | h
       ·rcases a6 t h with h | h
        ·exact Or.inl h
        ·exact Or.inr ((Conn.step hxm).trans h)
       ·exact Or.inr h
      ·intro t h
       rcases b7 t h with h | h
       ·rcases a7 t h with h | h
        ·exact Or.inl h
        ·exact Or.inr fun x hx => b4 _ (h x hx)
       ·exact Or.inr h
    obtain ⟨l, P', a1, a2, a3, a4, a5, a6, a7⟩ := inner m 0 (met.set s true) _ (by omega) (by omega) (hm.set (u := s))
    refine ⟨l, P', ?_, a2, by omega, fun t h => a4 t (Or.inl h), a4 s (Or.inr rfl), ?_, ?_⟩
    ·refine Ev.next ?_
     simp only [net_visit.f, if_pos (by omega : (0 : Int) ≤ (s : Int)), if_pos (by have := hm.1; omega : (s : Int) < (met.length : Int)), hh, Bool.false_eq_true, if_false, if_pos (by omega : (s : Int) < (rows.length : Int)), Int.toNat_natCast]
     exact a1
    ·intro t h
     rcases a6 t h with (h | rfl) | h
     ·exact Or.inl h
     ·exact Or.inr (Conn.refl _ _ _)
     ·exact Or.inr h
    ·intro t h
     rcases a7 t h with (h | rfl) | h
     ·exact Or.inl h
     ·exact Or.inr fun x hx => a5 x (Nat.zero_le x) hx
     ·exact Or.inr h
 obtain ⟨l, P', a1, a2, a3, a4, a5, a6, a7⟩ := key _ _ _ s hs (Nat.le_refl _) (Is.none (n := n))
 refine ⟨l, ?_, a2.imp fun t ht => ⟨fun h => (a6 t h).elim False.elim id, fun h => h.closed (P := P') a5 fun u x hu hx => (a7 u hu).elim False.elim fun h => h x hx⟩⟩
 unfold net_reach.f
 simp only [if_pos (by omega : rows.length ≤ 281474976710656)]
 rw [hlen]
 exact a1
end Go.Proofs.Ytjgdalhdiohclaa.Q
end
/-! Part MConn -/
section
namespace Go.Proofs.Ytjgdalhdiohclaa.Q
set_option linter.unusedVariables false
def SC (f : Nat → Nat → Nat) (n m : Nat) : Prop := ∀ s, s < n → ∀ t, t < n → Conn f m s t
theorem slices_contains_false {n : Nat} {l : List Bool} {P : Nat → Prop} (h : Is n l P) (hn : n ≤ 1000000) : ∃ b, Ev (fun k => slices_Contains_bool_bool.f k l false) b ∧ (b = false ↔ ∀ t, t < n → P t) := by
 have hl := h.1
 have key : ∀ d i : Nat, i + d = n → ∃ z : Int, Ev (fun k => slices_Index_bool_bool.l0 k l false (l.length : Int) (i : Int)) z ∧ (z < 0 ↔ ∀ t, i ≤ t → t < n → P t) := by
  intro d
  induction d with
  | zero =>
   intro i hi
   refine ⟨-1, ?_, by simp; intro t h1 h2; omega⟩
   refine Ev.next ?_
   simp only [slices_Index_bool_bool.l0, if_neg (by omega : ¬ (i : Int) < (l.length : Int))]
   exact Ev.now _
  | succ d ih =>
   intro i hi
   have hin : i < n := by omega
   cases hc : rdOf false l (i : Int) with
   | false =>
    refine ⟨(i : Int), ?_, ⟨fun h => by omega, fun h2 => ?_⟩⟩
    ·refine Ev.next ?_
     simp only [slices_Index_bool_bool.l0, if_pos (by omega : (i : Int) < (l.length : Int)), if_pos (by omega : (0 : Int) ≤ (i : Int)), hc, BEq.rfl, if_true]
     exact Ev.now _
    ·have := (h.2 i hin).2 (h2 i (Nat.le_refl i) hin); rw [hc] at this; simp at this
   | true =>
    obtain ⟨z, h1, h2⟩ := ih (i + 1) (by omega)
    refine ⟨z, ?_, h2.trans ⟨fun h3 t h4 h5 => ?_, fun h3 t h4 h5 => h3 t (by omega) h5⟩⟩
    ·refine Ev.next ?_
     simp only [slices_Index_bool_bool.l0, if_pos (by omega : (i : Int) < (l.length : Int)), if_pos (by omega : (0 : Int) ≤ (i : Int)), hc, (by decide : (false == true) = false), Bool.false_eq_true, if_false, wrapS (by omega : i + 1 ≤ 9223372036854775807)]
     exact h1
    ·by_cases e : t = i
     ·subst e; exact (h.2 t h5).1 hc
     ·exact h3 t (by omega) h5
 obtain ⟨z, h1, h2⟩ := key n 0 (by omega)
 refine ⟨decide (z ≥ 0), ?_, ?_⟩
 ·unfold slices_Contains_bool_bool.f
  refine Ev.bind (a := z) ?_ (Ev.now _)
  unfold slices_Index_bool_bool.f; exact h1
 ·rw [decide_eq_false_iff_not]
  exact ⟨fun h3 t ht => h2.1 (by omega) t (Nat.zero_le t) ht, fun h3 => by have := h2.2 fun t _ ht => h3 t ht; omega⟩
theorem net_connects {rows : List (List Int)} {n m : Nat} (V : VA rows n m) {r : Bool} (hr : r = true ↔ SC (nx rows) n m) : Ev (fun k => net_connected.f k rows) r := by
 have hlen := V.len; have h60 := V.n60
 have hall : ∀ s, s < n → ∃ b l, Ev (fun k => net_reach.f k rows (s : Int)) l ∧ Ev (fun k => slices_Contains_bool_bool.f k l false) b ∧ (b = false ↔ ∀ t, t < n → Conn (nx rows) m s t) := fun s hs => by
  obtain ⟨l, h1, h2⟩ := net_reaches V hs
  obtain ⟨b, h3, h4⟩ := slices_contains_false h2 (by omega)
  exact ⟨b, l, h1, h3, h4⟩
 unfold net_connected.f
 rw [hlen]
 refine @Ev.every Bool (fun k i => net_connected.l0 k (n : Int) (i : Int) rows) n true false r (fun s => @decide (∀ t, t < n → Conn (nx rows) m s t) (Classical.propDecidable _)) ?_ ?_ ?_ ?_ ?_
 ·intro h; exact hr.2 fun s hs t ht => (@of_decide_eq_true _ (Classical.propDecidable _) (h s hs)) t ht
 ·intro s hs h; rw [Bool.eq_false_iff]; intro h2; exact (@of_decide_eq_false _ (Classical.propDecidable _) h) (hr.1 h2 s hs)
 ·intro s hs hp h
  obtain ⟨b, l, h1, h2, h3⟩ := hall s hs
  obtain rfl := h3.2 (@of_decide_eq_true _ (Classical.propDecidable _) hp)
  refine Ev.next ?_
  simp only [net_connected.l0, if_pos (by omega : (s : Int) < (n : Int)), wrapS (by omega : s + 1 ≤ 9223372036854775807)]
  refine Ev.bind h1 (Ev.bind h2 ?_)
  simp only [Bool.false_eq_true, if_false]; exact h
 ·intro s hs hp
  obtain ⟨b, l, h1, h2, h3⟩ := hall s hs
  obtain rfl : b = true := by
   cases hb : b with
   | true => rfl
   | false => exact absurd (h3.1 hb) (@of_decide_eq_false _ (Classical.propDecidable _) hp)
  refine Ev.next ?_
  simp only [net_connected.l0, if_pos (by omega : (s : Int) < (n : Int))]
  refine Ev.bind h1 (Ev.bind h2 ?_)
  simp only [if_true]; exact Ev.now _
 ·refine Ev.next ?_
  simp only [net_connected.l0, if_neg (by omega : ¬ (n : Int) < (n : Int))]
  exact Ev.now _
theorem VA.of {rows : List (List Int)} (h : validB rows = true) : VA rows rows.length (rd_L1 rows 0).length := validB_iff.1 h
theorem connected_says {rows : List (List Int)} {n m : Nat} (V : VA rows n m) {b : Bool} (h : b = true ↔ SC (nx rows) n m) : Ev (fun k => net_Connected.f k rows) (b, 0) := by
 unfold net_Connected.f
 simp only [auto_Valid.f, validB_of V, Option.bind_some, if_true]
 exact Ev.bind (net_connects V h) (Ev.now _)
end Go.Proofs.Ytjgdalhdiohclaa.Q
end
/-! Part MLens -/
section
namespace Go.Proofs.Ytjgdalhdiohclaa.Q
set_option linter.unusedVariables false
theorem rdI_put {l : List Int} {i j : Nat} {v : Int} (hj : j < l.length) : rd (l.set i v) (j : Int) = if i = j then v else rd l (j : Int) := by
 rw [rdE (by rw [List.length_set]; exact hj), rdE hj, List.getElem_set]
def Walk (f : Nat → Nat → Nat) (m k s t : Nat) : Prop := ∃ w, Wd m w ∧ w.length = k ∧ run f s w = t
theorem Walk.refl (f : Nat → Nat → Nat) (m s : Nat) : Walk f m 0 s s := ⟨[], Wd.nil m, rfl, rfl⟩
theorem Walk.trans {f : Nat → Nat → Nat} {m j k s t u : Nat} (h : Walk f m j s t) (h2 : Walk f m k t u) : Walk f m (j + k) s u := by
 obtain ⟨v, a1, a2, rfl⟩ := h; obtain ⟨w, b1, b2, rfl⟩ := h2
 exact ⟨v ++ w, a1.app b1, by rw [List.length_append]; omega, run_app f v w s⟩
theorem Walk.one {f : Nat → Nat → Nat} {m x s : Nat} (h : x < m) : Walk f m 1 s (f s x) := ⟨[x], Wd.one h, rfl, rfl⟩
def toI' (w : List Nat) : List Int := w.map fun (x : Nat) => (x : Int)
structure Lens (f : Nat → Nat → Nat) (m n : Nat) (out : List Int) (met : List Bool) (q : List Nat) (i x : Nat) : Prop where
 len : out.length = n
 met : Is n met (· ∈ q)
 st : q[0]? = some 0
 lt : ∀ t ∈ q, t < n
 nd : q.Nodup
 ok : ∀ (j t : Nat), q[j]? = some t → ∃ d : Nat, d ≤ j ∧ rd out (t : Int) = (d : Int) ∧ Walk f m d 0 t
 zero : rd out 0 = 0
 done : ∀ (j t y : Nat), q[j]? = some t → y < m → (j < i ∨ j = i ∧ y < x) → f t y ∈ q
theorem net_lens {rows : List (List Int)} {n m : Nat} (V : VA rows n m) : ∃ out, Ev (fun k => net_lengths.f k rows) out ∧ out.length = n ∧ rd out 0 = 0 ∧ ∀ t, Conn (nx rows) m 0 t → ∃ d : Nat, d < n ∧ rd out (t : Int) = (d : Int) ∧ Walk (nx rows) m d 0 t := by
 have hlen := V.len; have h60 := V.n60; have h6 := V.m6; have hn0 := V.n0
 have qlen : ∀ {out met q i x}, Lens (nx rows) m n out met q i x → q.length ≤ n := fun L => nodup_le n _ L.nd L.lt
 have stop : ∀ (i : Nat) (out : List Int) (met : List Bool) (q : List Nat), q.length ≤ i → Lens (nx rows) m n out met q i 0 → ∃ r, Ev (fun k => net_lengths.l0 k out met (toI' q) (i : Int) rows) r ∧ r.length = n ∧ rd r 0 = 0 ∧ ∀ t, Conn (nx rows) m 0 t → ∃ d : Nat, d < n ∧ rd r (t : Int) = (d : Int) ∧ Walk (nx rows) m d 0 t := by
  intro i out met q hi L
  refine ⟨out, ?_, L.len, L.zero, fun t ht => ?_⟩
  ·refine Ev.next ?_
   simp only [net_lengths.l0, toI', List.length_map, if_neg (by omega : ¬ (i : Int) < (q.length : Int))]
   exact Ev.now _
  ·have hm : t ∈ q := ht.closed (P := (· ∈ q)) (List.mem_of_getElem? L.st) fun u x hu hx => by
    obtain ⟨j, hj⟩ := List.mem_iff_getElem?.1 hu
    exact L.done j u x hj hx (Or.inl (by have := (List.getElem?_eq_some_iff.1 hj).1; omega))
   obtain ⟨j, hj⟩ := List.mem_iff_getElem?.1 hm
   obtain ⟨d, h1, h2, h3⟩ := L.ok j t hj
   exact ⟨d, by have := (List.getElem?_eq_some_iff.1 hj).1; have := qlen L; omega, h2, h3⟩
 have key : ∀ (g i : Nat) (out : List Int) (met : List Bool) (q : List Nat), i + g = n + 1 → Lens (nx rows) m n out met q i 0 → ∃ r, Ev (fun k => net_lengths.l0 k out met (toI' q) (i : Int) rows) r ∧ r.length = n ∧ rd r 0 = 0 ∧ ∀ t, Conn (nx rows) m 0 t → ∃ d : Nat, d < n ∧ rd r (t : Int) = (d : Int) ∧ Walk (nx rows) m d 0 t := by
  intro g
  induction g with
  | zero => intro i out met q hi L; exact stop i out met q (by have := qlen L; omega) L
  | succ g ih =>
   intro i out met q hi L
   by_cases hq : q.length ≤ i
   ·exact stop i out met q hq L
   ·have hiq : i < q.length := by omega
    have he : q[i]? = some q[i] := List.getElem?_eq_getElem hiq
    generalize q[i] = s at he
    have hs := L.lt s (List.mem_of_getElem? he)
    have hrow := V.row s hs
    have hrd : ∀ q' : List Nat, q'[i]? = some s → rd (toI' q') (i : Int) = (s : Int) := by
     intro q' h
     have := (List.getElem?_eq_some_iff.1 h)
     rw [rdE (by unfold toI'; rw [List.length_map]; exact this.1)]
     simp only [toI', List.getElem_map]; rw [this.2]
    have inner : ∀ (e x : Nat) (out : List Int) (met : List Bool) (q : List Nat), x + e = m → q[i]? = some s → Lens (nx rows) m n out met q i x → ∃ r, Ev (fun k => net_lengths.l1 k out met (toI' q) (i : Int) (rd_L1 rows (s : Int)) ((rd_L1 rows (s : Int)).length : Int) (x : Int) rows) r ∧ r.length = n ∧ rd r 0 = 0 ∧ ∀ t, Conn (nx rows) m 0 t → ∃ d : Nat, d < n ∧ rd r (t : Int) = (d : Int) ∧ Walk (nx rows) m d 0 t := by
     intro e
     induction e with
     | zero =>
      intro x out met q hx he L
      obtain rfl : x = m := by omega
      obtain ⟨r, h1, h2⟩ := ih (i + 1) out met q (by omega) ⟨L.len, L.met, L.st, L.lt, L.nd, L.ok, L.zero, fun j t y hj hy hd => L.done j t y hj hy (by omega)⟩
      refine ⟨r, ?_, h2⟩
      refine Ev.next ?_
      simp only [net_lengths.l1, if_neg (by omega : ¬ (x : Int) < ((rd_L1 rows (s : Int)).length : Int)), wrapS (by omega : i + 1 ≤ 9223372036854775807)]
      exact h1
     | succ e ih2 =>
      intro x out met q hx he L
      have hxm : x < m := by omega
      have hu := V.nxLt hs hxm
      have hiq := (List.getElem?_eq_some_iff.1 he).1
      have hml := L.met.1; have hol := L.len; have hql := qlen L
      have hqi : (toI' q).length = q.length := by unfold toI'; rw [List.length_map]
      by_cases hin : nx rows s x ∈ q
      ·obtain ⟨r, h1, h2⟩ := ih2 (x + 1) out met q (by omega) he ⟨L.len, L.met, L.st, L.lt, L.nd, L.ok, L.zero, fun j t y hj hy hd => by
        by_cases h3 : j < i ∨ j = i ∧ y < x
        ·exact L.done j t y hj hy h3
        ·obtain rfl : j = i := by omega
         obtain rfl : y = x := by omega
         rw [he] at hj; obtain rfl := Option.some.inj hj; exact hin⟩
       refine ⟨r, ?_, h2⟩
       refine Ev.next ?_
       simp only [net_lengths.l1, if_pos (by omega : (x : Int) < ((rd_L1 rows (s : Int)).length : Int)), if_pos (by omega : (0 : Int) ≤ (x : Int)), V.nxE hs hxm, if_pos (by omega : (0 : Int) ≤ ((nx rows s x : Nat) : Int)), if_pos (by omega : ((nx rows s x : Nat) : Int) < (met.length : Int)), (L.met.2 _ hu).2 hin, if_true, wrapS (by omega : x + 1 ≤ 9223372036854775807)]
       exact h1
      ·obtain ⟨d, hd1, hd2, hd3⟩ := L.ok i s he
       have hrdo : ∀ t, t < n → rd (out.set (nx rows s x) ((d + 1 : Nat) : Int)) (t : Int) = if nx rows s x = t then ((d + 1 : Nat) : Int) else rd out (t : Int) := fun t ht => rdI_put (by omega)
       have h0m : (0 : Nat) ∈ q := List.mem_of_getElem? L.st
       have ap : ∀ (j t : Nat), (q ++ [nx rows s x])[j]? = some t → (q[j]? = some t ∧ j < q.length) ∨ (j = q.length ∧ t = nx rows s x) := by
        intro j a h
        rcases Nat.lt_trichotomy j q.length with h1 | h1 | h1
        ·rw [List.getElem?_append_left h1] at h; exact Or.inl ⟨h, h1⟩
        ·subst h1; rw [List.getElem?_append_right (Nat.le_refl _)] at h; simp at h; exact Or.inr ⟨rfl, h.symm⟩
        ·rw [List.getElem?_eq_none (by rw [List.length_append]; simp; omega)] at h; exact absurd h (by simp)
       have L2 : Lens (nx rows) m n (out.set (nx rows s x) ((d + 1 : Nat) : Int)) (met.set (nx rows s x) true) (q ++ [nx rows s x]) i (x + 1) := by
        refine ⟨by rw [List.length_set]; exact hol, (L.met.set).imp fun t _ => ?_, ?_, ?_, ?_, ?_, ?_, ?_⟩
        ·rw [List.mem_append, List.mem_singleton]; exact ⟨fun h => h.elim Or.inl fun h => Or.inr h.symm, fun h => h.elim Or.inl fun h => Or.inr h.symm⟩
        ·rw [List.getElem?_append_left (by omega)]; exact L.st
        ·intro t ht
         rcases List.mem_append.1 ht with h | h
         ·exact L.lt t h
         ·rw [List.mem_singleton.1 h]; exact hu
        ·rw [List.nodup_append]
         refine ⟨L.nd, by simp, fun a ha b hb h => ?_⟩
         rw [List.mem_singleton.1 hb] at h; exact hin (h ▸ ha)
        ·intro j t hj
         rcases ap j t hj with ⟨h1, h2⟩ | ⟨rfl, rfl⟩
         ·obtain ⟨d', a1, a2, a3⟩ := L.ok j t h1
          have hne : nx rows s x ≠ t := fun h => hin (h ▸ List.mem_of_getElem? h1)
          exact ⟨d', a1, by rw [hrdo t (L.lt t (List.mem_of_getElem? h1)), if_neg hne]; exact a2, a3⟩
         ·exact ⟨d + 1, by omega, by rw [hrdo _ hu, if_pos rfl], hd3.trans (Walk.one hxm)⟩
        ·have := hrdo 0 hn0
         rw [if_neg (fun h => hin (by rw [h]; exact h0m))] at this
         exact this.trans L.zero
        ·intro j t y hj hy hd
         rcases ap j t hj with ⟨h1, h2⟩ | ⟨rfl, _⟩
         ·by_cases h3 : j < i ∨ j = i ∧ y < x
          ·exact List.mem_append.2 (Or.inl (L.done j t y h1 hy h3))
          ·obtain rfl : j = i := by omega
           obtain rfl : y = x := by omega
           rw [he] at h1; obtain rfl := Option.some.inj h1; simp
         ·omega
       obtain ⟨r, h1, h2⟩ := ih2 (x + 1) _ _ _ (by omega) (by rw [List.getElem?_append_left hiq]; exact he) L2
       refine ⟨r, ?_, h2⟩
       refine Ev.next ?_
       have hmf : ¬ rdOf false met ((nx rows s x : Nat) : Int) = true := fun h => hin ((L.met.2 _ hu).1 h)
       have hap : toI' q ++ [((nx rows s x : Nat) : Int)] = toI' (q ++ [nx rows s x]) := by simp [toI']
       have hwd : wrap64 ((d : Int) + 1) = ((d + 1 : Nat) : Int) := wrapS (by omega)
       simp only [net_lengths.l1, if_pos (by omega : (x : Int) < ((rd_L1 rows (s : Int)).length : Int)), if_pos (by omega : (0 : Int) ≤ (x : Int)), V.nxE hs hxm, if_pos (by omega : (0 : Int) ≤ ((nx rows s x : Nat) : Int)), if_pos (by omega : ((nx rows s x : Nat) : Int) < (met.length : Int)), if_neg hmf, if_pos (by omega : (0 : Int) ≤ (i : Int)), if_pos (by omega : (i : Int) < ((toI' q).length : Int)), hrd q he, if_pos (by omega : (0 : Int) ≤ (s : Int)), if_pos (by omega : (s : Int) < (out.length : Int)), if_pos (by omega : ((nx rows s x : Nat) : Int) < (out.length : Int)), if_pos (by omega : (toI' q).length < 17592186044416), hd2, hwd, hap, Int.toNat_natCast, wrapS (by omega : x + 1 ≤ 9223372036854775807)]
       exact h1
    obtain ⟨r, h1, h2⟩ := inner m 0 out met q (by omega) he L
    refine ⟨r, ?_, h2⟩
    refine Ev.next ?_
    simp only [net_lengths.l0, if_pos (by unfold toI'; rw [List.length_map]; omega : (i : Int) < ((toI' q).length : Int)), if_pos (by omega : (0 : Int) ≤ (i : Int)), hrd q he, if_pos (by omega : (0 : Int) ≤ (s : Int)), if_pos (by omega : (s : Int) < (rows.length : Int))]
    exact h1
 have L0 : Lens (nx rows) m n (List.replicate n 0) ((List.replicate n false).set 0 true) [0] 0 0 := by
  have hz : rd (List.replicate n 0) 0 = 0 := by
   have := rdE (l := List.replicate n (0 : Int)) (i := 0) (by rw [List.length_replicate]; exact hn0)
   rw [List.getElem_replicate] at this; exact this
  refine ⟨List.length_replicate, (Is.none.set).imp fun t _ => by simp [eq_comm], rfl, by simp; exact hn0, by simp, fun j t hj => ?_, hz, fun j t y _ _ h => by omega⟩
  cases j with
  | zero => simp at hj; subst hj; exact ⟨0, Nat.le_refl 0, hz, Walk.refl _ _ _⟩
  | succ j => simp at hj
 obtain ⟨r, h1, h2⟩ := key (n + 1) 0 _ _ _ (by omega) L0
 refine ⟨r, ?_, h2⟩
 unfold net_lengths.f
 simp only [if_pos (by omega : (0 : Int) ≤ (rows.length : Int)), Int.toNat_natCast, if_pos (by omega : rows.length ≤ 35184372088832), if_pos (by omega : rows.length ≤ 281474976710656), Option.bind_some, List.length_replicate, if_pos (by omega : 0 < (rows.length : Int))]
 rw [hlen]
 exact h1
end Go.Proofs.Ytjgdalhdiohclaa.Q
end
/-! Part MPeriod -/
section
namespace Go.Proofs.Ytjgdalhdiohclaa.Q
set_option linter.unusedVariables false
theorem tmod_nat (a b : Nat) : Int.tmod (a : Int) (b : Int) = ((a % b : Nat) : Int) := by
 rw [Int.tmod_eq_emod_of_nonneg (Int.natCast_nonneg a)]; rfl
theorem net_gcd (b : Nat) : ∀ a : Nat, Ev (fun k => net_common.f k (a : Int) (b : Int)) ((Nat.gcd a b : Nat) : Int) := by
 unfold net_common.f
 induction b using Nat.strongRecOn with
 | _ b ih =>
  intro a
  refine Ev.next ?_
  by_cases h : b = 0
  ·subst h
   simp only [net_common.l0, if_neg (by omega : ¬ ((0 : Nat) : Int) > 0), Nat.gcd_zero_right]
   exact Ev.now _
  ·simp only [net_common.l0, if_pos (by omega : (b : Int) > 0), if_neg (by omega : ¬ (b : Int) = 0), tmod_nat]
   have := ih (a % b) (Nat.mod_lt _ (by omega)) b
   rwa [Nat.gcd_comm, ← Nat.gcd_rec, Nat.gcd_comm] at this
structure Numbered (f : Nat → Nat → Nat) (m n : Nat) (l : Nat → Nat) : Prop where
 zero : l 0 = 0
 lt : ∀ t, t < n → l t < n
 walk : ∀ t, t < n → Walk f m (l t) 0 t
structure Off (f : Nat → Nat → Nat) (m n : Nat) (l : Nat → Nat) (d : Nat) : Prop where
 dvd : ∀ s x, s < n → x < m → (d : Int) ∣ (l s : Int) + 1 - (l (f s x) : Int)
 max : ∀ g : Nat, (∀ s x, s < n → x < m → (g : Int) ∣ (l s : Int) + 1 - (l (f s x) : Int)) → g ∣ d
theorem Off.walk {f : Nat → Nat → Nat} {m n d : Nat} {l : Nat → Nat} (hf : ∀ s x, s < n → x < m → f s x < n) (h : ∀ s x, s < n → x < m → (d : Int) ∣ (l s : Int) + 1 - (l (f s x) : Int)) : ∀ (w : List Nat) (s : Nat), s < n → Wd m w → (d : Int) ∣ (l s : Int) + (w.length : Int) - (l (run f s w) : Int) := by
 intro w
 induction w with
 | nil => intro s hs _; simp [run]
 | cons x w ih =>
  intro s hs hw
  have h1 := h s x hs (hw x List.mem_cons_self)
  have h2 := ih (f s x) (hf s x hs (hw x List.mem_cons_self)) (fun y hy => hw y (List.mem_cons_of_mem _ hy))
  have h3 := Int.dvd_add h1 h2
  have e : ((l s : Int) + 1 - (l (f s x) : Int)) + ((l (f s x) : Int) + (w.length : Int) - (l (run f (f s x) w) : Int)) = (l s : Int) + ((x :: w).length : Int) - (l (run f s (x :: w)) : Int) := by
   rw [List.length_cons]; show _ = (l s : Int) + ((w.length + 1 : Nat) : Int) - (l (run f (f s x) w) : Int); omega
  rwa [e] at h3
structure Per (f : Nat → Nat → Nat) (m n d : Nat) : Prop where
 dvd : ∀ k, Walk f m k 0 0 → d ∣ k
 max : ∀ g : Nat, (∀ k, 1 ≤ k → k ≤ 3 * n → Walk f m k 0 0 → g ∣ k) → g ∣ d
theorem Per.uniq {f : Nat → Nat → Nat} {m n d e : Nat} (h : Per f m n d) (k : Per f m n e) : d = e :=
 Nat.dvd_antisymm (k.max d fun j _ _ hj => h.dvd j hj) (h.max e fun j _ _ hj => k.dvd j hj)
theorem back_short {rows : List (List Int)} {n m : Nat} (V : VA rows n m) (hc : SC (nx rows) n m) {s t : Nat} (hs : s < n) (ht : t < n) : ∃ k, k < n ∧ Walk (nx rows) m k s t := by
 obtain ⟨w, h1, h2⟩ := hc s hs t ht
 obtain ⟨v, h3, h4, h5, _⟩ := short_word (fun s x => V.nxLt) _ w s (Nat.le_refl _) hs h1
 exact ⟨v.length, h5, v, h3, rfl, h4.trans h2⟩
theorem Off.per {rows : List (List Int)} {n m d : Nat} {l : Nat → Nat} (V : VA rows n m) (hc : SC (nx rows) n m) (N : Numbered (nx rows) m n l) (O : Off (nx rows) m n l d) : Per (nx rows) m n d := by
 refine ⟨fun k ⟨w, h1, h2, h3⟩ => ?_, fun g hg => O.max g fun s x hs hx => ?_⟩
 ·have := Off.walk (fun s x => V.nxLt) O.dvd w 0 V.n0 h1
  rw [h3, h2, N.zero] at this
  simp at this; exact Int.ofNat_dvd.1 (by simpa using this)
 ·have ht := V.nxLt hs hx
  obtain ⟨k, hk, hw⟩ := back_short V hc ht V.n0
  have w1 := ((N.walk s hs).trans (Walk.one hx)).trans hw
  have w2 := (N.walk _ ht).trans hw
  have b1 := N.lt s hs; have b2 := N.lt _ ht
  have d1 := hg _ (by omega) (by omega) w1
  have d2 : g ∣ l (nx rows s x) + k := by
   by_cases h0 : l (nx rows s x) + k = 0
   ·rw [h0]; exact Nat.dvd_zero g
   ·exact hg _ (by omega) (by omega) w2
  have := Int.dvd_sub (Int.ofNat_dvd.2 d1) (Int.ofNat_dvd.2 d2)
  have e : ((l s + 1 + k : Nat) : Int) - ((l (nx rows s x) + k : Nat) : Int) = (l s : Int) + 1 - (l (nx rows s x) : Int) := by omega
  rwa [e] at this
theorem mx_abs {a b : Nat} (ha : a ≤ 100) (hb : b ≤ 100) : mx (wrap64 ((wrap64 ((a : Int) + 1)) - (b : Int))) (wrap64 (-(wrap64 ((wrap64 ((a : Int) + 1)) - (b : Int))))) = ((((a : Int) + 1 - (b : Int)).natAbs : Nat) : Int) := by
 have w1 : wrap64 ((a : Int) + 1) = (a : Int) + 1 := wrapI (by omega) (by omega)
 rw [w1]
 generalize hz : ((a : Int) + 1 - (b : Int)) = z
 rw [wrapI (by omega : -9223372036854775808 ≤ z) (by omega), wrapI (by omega : -9223372036854775808 ≤ -z) (by omega)]
 unfold mx; split <;> omega
theorem net_period {rows : List (List Int)} {n m : Nat} (V : VA rows n m) (hc : SC (nx rows) n m) : ∃ (d : Nat) (out : List Int) (l : Nat → Nat), Ev (fun k => net_period.f k rows) (d : Int) ∧ Ev (fun k => net_lengths.f k rows) out ∧ out.length = n ∧ (∀ t, t < n → rd out (t : Int) = (l t : Int)) ∧ Numbered (nx rows) m n l ∧ Off (nx rows) m n l d := by
 have hlen := V.len; have h60 := V.n60; have h6 := V.m6
 obtain ⟨out, h1, h2, h3, h4⟩ := net_lens V
 have hl : ∀ t, t < n → rd out (t : Int) = ((rd out (t : Int)).toNat : Int) ∧ (rd out (t : Int)).toNat < n ∧ Walk (nx rows) m (rd out (t : Int)).toNat 0 t := fun t ht => by
  obtain ⟨d, a1, a2, a3⟩ := h4 t (hc 0 V.n0 t ht)
  rw [a2]; exact ⟨by simp, by simpa using a1, by simpa using a3⟩
 generalize hL : (fun t : Nat => (rd out (t : Int)).toNat) = l
 have hl' : ∀ t, t < n → rd out (t : Int) = (l t : Int) ∧ l t < n ∧ Walk (nx rows) m (l t) 0 t := fun t ht => by rw [← hL]; exact hl t ht
 have hz : l 0 = 0 := by rw [← hL]; show (rd out ((0 : Nat) : Int)).toNat = 0; rw [show ((0 : Nat) : Int) = 0 from rfl, h3]; rfl
 have NN : Numbered (nx rows) m n l := ⟨hz, fun t ht => (hl' t ht).2.1, fun t ht => (hl' t ht).2.2⟩
 have states : ∀ (g s d : Nat), s + g = n → (∀ u y, u < s → y < m → (d : Int) ∣ (l u : Int) + 1 - (l (nx rows u y) : Int)) → (∀ h : Nat, (∀ u y, u < s → y < m → (h : Int) ∣ (l u : Int) + 1 - (l (nx rows u y) : Int)) → h ∣ d) → ∃ r : Nat, Ev (fun k => net_period.l0 k out (d : Int) rows (n : Int) (s : Int)) (r : Int) ∧ Off (nx rows) m n l r := by
  intro g
  induction g with
  | zero =>
   intro s d hs ha hb
   obtain rfl : s = n := by omega
   refine ⟨d, ?_, ha, hb⟩
   refine Ev.next ?_
   simp only [net_period.l0, if_neg (by omega : ¬ (s : Int) < (s : Int))]
   exact Ev.now _
  | succ g ih =>
   intro s d hs ha hb
   have hsn : s < n := by omega
   have hrow := V.row s hsn
   have letters : ∀ (e x d : Nat), x + e = m → (∀ u y, (u < s ∨ u = s ∧ y < x) → y < m → (d : Int) ∣ (l u : Int) + 1 - (l (nx rows u y) : Int)) → (∀ h : Nat, (∀ u y, (u < s ∨ u = s ∧ y < x) → y < m → (h : Int) ∣ (l u : Int) + 1 - (l (nx rows u y) : Int)) → h ∣ d) → ∃ r : Nat, Ev (fun k => net_period.l1 k out (d : Int) (s : Int) rows (n : Int) (s : Int) (rd_L1 rows (s : Int)) ((rd_L1 rows (s : Int)).length : Int) (x : Int)) (r : Int) ∧ Off (nx rows) m n l r := by
    intro e
    induction e with
    | zero =>
     intro x d hx ha hb
     obtain rfl : x = m := by omega
     obtain ⟨r, a1, a2⟩ := ih (s + 1) d (by omega) (fun u y hu hy => ha u y (by omega) hy) (fun h hh => hb h fun u y hu hy => hh u y (by omega) hy)
     refine ⟨r, ?_, a2⟩
     refine Ev.next ?_
     simp only [net_period.l1, if_neg (by omega : ¬ (x : Int) < ((rd_L1 rows (s : Int)).length : Int)), wrapS (by omega : s + 1 ≤ 9223372036854775807)]
     exact a1
    | succ e ih2 =>
     intro x d hx ha hb
     have hxm : x < m := by omega
     have hu := V.nxLt hsn hxm
     have e1 := hl' s hsn; have e2 := hl' _ hu
     have hmx := mx_abs (a := l s) (b := l (nx rows s x)) (by omega) (by omega)
     generalize hz : ((l s : Int) + 1 - (l (nx rows s x) : Int)) = z at hmx
     obtain ⟨r, a1, a2⟩ := ih2 (x + 1) (Nat.gcd d z.natAbs) (by omega) (fun u y hu' hy => by
      by_cases h : u < s ∨ u = s ∧ y < x
      ·exact Int.dvd_trans (Int.ofNat_dvd.2 (Nat.gcd_dvd_left _ _)) (ha u y h hy)
      ·obtain rfl : u = s := by omega
       obtain rfl : y = x := by omega
       rw [hz]; exact Int.ofNat_dvd_left.2 (Nat.gcd_dvd_right _ _)) (fun h hh => by
      refine Nat.dvd_gcd (hb h fun u y hu' hy => hh u y (by omega) hy) ?_
      have := hh s x (by omega) hxm
      rw [hz] at this; exact Int.ofNat_dvd_left.1 this)
     refine ⟨r, ?_, a2⟩
     refine Ev.next ?_
     simp only [net_period.l1, if_pos (by omega : (x : Int) < ((rd_L1 rows (s : Int)).length : Int)), if_pos (by omega : (0 : Int) ≤ (x : Int)), if_pos (by omega : (0 : Int) ≤ (s : Int)), if_pos (by omega : (s : Int) < (out.length : Int)), V.nxE hsn hxm, if_pos (by omega : (0 : Int) ≤ ((nx rows s x : Nat) : Int)), if_pos (by omega : ((nx rows s x : Nat) : Int) < (out.length : Int)), e1.1, e2.1, hmx, wrapS (by omega : x + 1 ≤ 9223372036854775807)]
     exact Ev.bind (net_gcd _ _) a1
   obtain ⟨r, a1, a2⟩ := letters m 0 d (by omega) (fun u y hu hy => ha u y (by omega) hy) (fun h hh => hb h fun u y hu hy => hh u y (by omega) hy)
   refine ⟨r, ?_, a2⟩
   refine Ev.next ?_
   simp only [net_period.l0, if_pos (by omega : (s : Int) < (n : Int)), if_pos (by omega : (0 : Int) ≤ (s : Int)), if_pos (by omega : (s : Int) < (rows.length : Int))]
   exact a1
 obtain ⟨d, a1, a2⟩ := states n 0 0 (by omega) (fun u y hu _ => by omega) (fun h _ => Nat.dvd_zero h)
 refine ⟨d, out, l, ?_, h1, h2, fun t ht => (hl' t ht).1, NN, a2⟩
 unfold net_period.f
 refine Ev.bind h1 ?_
 rw [hlen]; exact a1
theorem per_pos {rows : List (List Int)} {n m d : Nat} (V : VA rows n m) (hc : SC (nx rows) n m) (P : Per (nx rows) m n d) : 0 < d := by
 obtain ⟨k, hk, hw⟩ := back_short V hc (V.nxLt V.n0 V.m0) V.n0
 have h := P.dvd _ ((Walk.one V.m0).trans hw)
 rcases Nat.eq_zero_or_pos d with h0 | h0
 ·subst h0; have := Nat.eq_zero_of_zero_dvd h; omega
 ·exact h0
theorem Walk.snoc {f : Nat → Nat → Nat} {m k s t : Nat} : Walk f m (k + 1) s t ↔ ∃ u, Walk f m k s u ∧ ∃ x, x < m ∧ f u x = t := by
 constructor
 ·rintro ⟨w, h1, h2, h3⟩
  have hne : w ≠ [] := fun h => by subst h; simp at h2
  obtain ⟨v, x, rfl⟩ : ∃ v x, w = v ++ [x] := ⟨_, _, (List.dropLast_concat_getLast hne).symm⟩
  rw [run_snoc] at h3
  exact ⟨run f s v, ⟨v, h1.left, by simp at h2; omega, rfl⟩, x, h1.right x (by simp), h3⟩
 ·rintro ⟨u, h1, x, hx, rfl⟩
  exact h1.trans (Walk.one hx)
end Go.Proofs.Ytjgdalhdiohclaa.Q
end
/-! Part MNetPer -/
section
namespace Go.Proofs.Ytjgdalhdiohclaa.Q
set_option linter.unusedVariables false
theorem period_no {rows : List (List Int)} {n m : Nat} (V : VA rows n m) (h : ¬ SC (nx rows) n m) : Ev (fun k => net_Period.f k rows) (0, 2) := by
 unfold net_Period.f
 simp only [auto_Valid.f, validB_of V, Option.bind_some, if_true]
 refine Ev.bind (net_connects V (r := false) (by simp [h])) ?_
 simp only [Bool.false_eq_true, if_false]
 exact Ev.now _
theorem classes_no {rows : List (List Int)} {n m : Nat} (V : VA rows n m) (h : ¬ SC (nx rows) n m) : Ev (fun k => net_Classes.f k rows) ([], 2) := by
 unfold net_Classes.f
 refine Ev.bind (period_no V h) ?_
 simp only [if_neg (by decide : ¬ (2 : Int) = 0)]
 exact Ev.now _
theorem period_yes {rows : List (List Int)} {n m : Nat} (V : VA rows n m) (hc : SC (nx rows) n m) : ∃ (d : Nat) (l : Nat → Nat) (c : List Int), Ev (fun k => net_Period.f k rows) ((d : Int), 0) ∧ Ev (fun k => net_Classes.f k rows) (c, 0) ∧ c.length = n ∧ (∀ t, t < n → rd c (t : Int) = ((l t % d : Nat) : Int)) ∧ 0 < d ∧ Numbered (nx rows) m n l ∧ Off (nx rows) m n l d ∧ Per (nx rows) m n d := by
 have hlen := V.len; have h60 := V.n60
 obtain ⟨d, out, l, h1, h2, h3, h4, h5, h6⟩ := net_period V hc
 have P := h6.per V hc h5
 have hd := per_pos V hc P
 have hp : Ev (fun k => net_Period.f k rows) ((d : Int), 0) := by
  unfold net_Period.f
  simp only [auto_Valid.f, validB_of V, Option.bind_some, if_true]
  refine Ev.bind (net_connects V (r := true) (by simp [hc])) ?_
  simp only [if_true]
  exact Ev.bind h1 (Ev.now _)
 have loop : ∀ (g i : Nat) (c : List Int), i + g = n → c.length = n → (∀ t, t < n → rd c (t : Int) = if t < i then ((l t % d : Nat) : Int) else (l t : Int)) → ∃ r, Ev (fun k => net_Classes.l0 k (d : Int) c (n : Int) (i : Int)) (r, 0) ∧ r.length = n ∧ ∀ t, t < n → rd r (t : Int) = ((l t % d : Nat) : Int) := by
  intro g
  induction g with
  | zero =>
   intro i c hi hcl hc
   refine ⟨c, ?_, hcl, fun t ht => by rw [hc t ht, if_pos (by omega)]⟩
   refine Ev.next ?_
   simp only [net_Classes.l0, if_neg (by omega : ¬ (i : Int) < (n : Int))]
   exact Ev.now _
  | succ g ih =>
   intro i c hi hcl hc
   have hin : i < n := by omega
   have hci := hc i hin
   rw [if_neg (by omega)] at hci
   obtain ⟨r, a1, a2⟩ := ih (i + 1) (c.set i ((l i % d : Nat) : Int)) (by omega) (by rw [List.length_set]; exact hcl) fun t ht => by
    rw [rdI_put (by omega)]
    by_cases h : i = t
    ·subst h; rw [if_pos rfl, if_pos (by omega)]
    ·rw [if_neg h, hc t ht]
     by_cases h2 : t < i
     ·rw [if_pos h2, if_pos (by omega)]
     ·rw [if_neg h2, if_neg (by omega)]
   refine ⟨r, ?_, a2⟩
   refine Ev.next ?_
   simp only [net_Classes.l0, if_pos (by omega : (i : Int) < (n : Int)), if_pos (by omega : (0 : Int) ≤ (i : Int)), if_pos (by omega : (i : Int) < (c.length : Int)), if_neg (by omega : ¬ (d : Int) = 0), hci, tmod_nat, Int.toNat_natCast, wrapS (by omega : i + 1 ≤ 9223372036854775807)]
   exact a1
 obtain ⟨c, a1, a2, a3⟩ := loop n 0 out (by omega) h3 fun t ht => by rw [if_neg (by omega)]; exact h4 t ht
 refine ⟨d, l, c, hp, ?_, a2, a3, hd, h5, h6, P⟩
 unfold net_Classes.f
 refine Ev.bind hp ?_
 simp only [if_true]
 refine Ev.bind h2 ?_
 rw [h3]; exact a1
end Go.Proofs.Ytjgdalhdiohclaa.Q
end
/-! Part MColA -/
section
namespace Go.Proofs.Ytjgdalhdiohclaa.Q
set_option linter.unusedVariables false
set_option linter.unusedSimpArgs false
structure Col (f f' : Nat → Nat → Nat) (n m : Nat) : Prop where
 lt : ∀ s x, s < n → x < m → f s x < n
 fwd : ∀ s x, s < n → x < m → ∃ y, y < m ∧ f' s x = f s y
 bwd : ∀ s x, s < n → x < m → ∃ y, y < m ∧ f s x = f' s y
section
variable {f f' : Nat → Nat → Nat} {n m : Nat}
theorem Col.lt' (h : Col f f' n m) (s x : Nat) (hs : s < n) (hx : x < m) : f' s x < n := by
 obtain ⟨y, hy, e⟩ := h.fwd s x hs hx
 rw [e]; exact h.lt s y hs hy
theorem Col.symm (h : Col f f' n m) : Col f' f n m := ⟨h.lt', h.bwd, h.fwd⟩
theorem Col.way (h : Col f f' n m) : ∀ (w : List Nat) (s : Nat), s < n → Wd m w → ∃ w', Wd m w' ∧ w'.length = w.length ∧ run f' s w' = run f s w
 | [], s, _, _ => ⟨[], Wd.nil m, rfl, rfl⟩
 | x :: w, s, hs, hw => by
  have hx := hw x List.mem_cons_self
  obtain ⟨y, hy, e⟩ := h.bwd s x hs hx
  obtain ⟨w', h1, h2, h3⟩ := Col.way h w (f s x) (h.lt s x hs hx) (fun z hz => hw z (List.mem_cons_of_mem _ hz))
  refine ⟨y :: w', fun z hz => ?_, by simp [h2], ?_⟩
  ·rcases List.mem_cons.1 hz with rfl | hz
   ·exact hy
   ·exact h1 z hz
  ·show run f' (f' s y) w' = run f (f s x) w
   rw [← e, h3]
theorem Col.walk1 (h : Col f f' n m) {k s t : Nat} (hs : s < n) (hw : Walk f m k s t) : Walk f' m k s t := by
 obtain ⟨w, h1, h2, h3⟩ := hw
 obtain ⟨w', g1, g2, g3⟩ := h.way w s hs h1
 exact ⟨w', g1, by omega, by rw [g3, h3]⟩
theorem Col.walk (h : Col f f' n m) {k s t : Nat} (hs : s < n) : Walk f m k s t ↔ Walk f' m k s t := ⟨h.walk1 hs, h.symm.walk1 hs⟩
theorem Col.conn1 (h : Col f f' n m) {s t : Nat} (hs : s < n) (hw : Conn f m s t) : Conn f' m s t := by
 obtain ⟨w, h1, h3⟩ := hw
 obtain ⟨w', g1, _, g3⟩ := h.way w s hs h1
 exact ⟨w', g1, by rw [g3, h3]⟩
theorem Col.conn (h : Col f f' n m) {s t : Nat} (hs : s < n) : Conn f m s t ↔ Conn f' m s t := ⟨h.conn1 hs, h.symm.conn1 hs⟩
theorem Col.sc (h : Col f f' n m) : SC f n m ↔ SC f' n m := ⟨fun hc s hs t ht => h.conn1 hs (hc s hs t ht), fun hc s hs t ht => h.symm.conn1 hs (hc s hs t ht)⟩
theorem Col.off (h : Col f f' n m) {d : Nat} {l : Nat → Nat} (ho : ∀ s x, s < n → x < m → (d : Int) ∣ (l s : Int) + 1 - (l (f s x) : Int)) : ∀ s x, s < n → x < m → (d : Int) ∣ (l s : Int) + 1 - (l (f' s x) : Int) := by
 intro s x hs hx
 obtain ⟨y, hy, e⟩ := h.fwd s x hs hx
 rw [e]; exact ho s y hs hy
theorem Col.per (h : Col f f' n m) (h0 : 0 < n) {d : Nat} (P : Per f m n d) : Per f' m n d := ⟨fun k hk => P.dvd k (h.symm.walk1 h0 hk), fun g hg => P.max g fun k h1 h2 hk => hg k h1 h2 (h.walk1 h0 hk)⟩
end
theorem Col.of_perm {a b : List (List Int)} {n m : Nat} (V : VA a n m) (V' : VA b n m) (h : ∀ s, s < n → (rd_L1 b (s : Int)).Perm (rd_L1 a (s : Int))) : Col (nx a) (nx b) n m := by
 have key : ∀ {a b : List (List Int)}, VA a n m → VA b n m → (∀ s, s < n → (rd_L1 b (s : Int)).Perm (rd_L1 a (s : Int))) → ∀ s x, s < n → x < m → ∃ y, y < m ∧ nx b s x = nx a s y := by
  intro a b V V' h s x hs hx
  have r1 := V.row s hs
  have r2 := V'.row s hs
  have hm : (rd_L1 b (s : Int))[x]'(by omega) ∈ rd_L1 a (s : Int) := (h s hs).mem_iff.1 (List.getElem_mem _)
  obtain ⟨y, hy, e⟩ := List.getElem_of_mem hm
  refine ⟨y, by omega, ?_⟩
  unfold nx
  rw [rdE (by omega), rdE hy, e]
 exact ⟨fun s x hs hx => V.nxLt hs hx, key V V' h, key V' V fun s hs => (h s hs).symm⟩
theorem colRow_perm {row p : List Int} {m : Nat} (hr : row.length = m) (hp : NamesP p m) : (colRow row p).Perm row := by
 unfold colRow
 refine (hp.perm.symm.map _).trans ?_
 have : (rangeI m).map (fun x => rd row x) = row := by
  unfold rangeI
  rw [List.map_map]
  refine List.ext_getElem (by simp [hr]) fun i h1 h2 => ?_
  simp only [List.getElem_map, List.getElem_range, Function.comp]
  exact rdE h2
 rw [this]
theorem colL_perm {a perms : List (List Int)} {n m : Nat} (V : VA a n m) (hP : PermsP a perms m) (s : Nat) (hs : s < n) : (rd_L1 (colL a perms n) (s : Int)).Perm (rd_L1 a (s : Int)) := by
 rw [colL_at a perms n s hs]
 exact colRow_perm (V.row s hs) (hP.2 s (by rw [hP.1, V.len]; exact hs))
theorem VA.of_rows {a b : List (List Int)} {n m : Nat} (V : VA a n m) (hl : b.length = n) (h : ∀ s, s < n → (rd_L1 b (s : Int)).Perm (rd_L1 a (s : Int))) : VA b n m := by
 refine ⟨hl, V.n0, V.n60, V.m0, V.m6, fun s hs => by rw [(h s hs).length_eq, V.row s hs], fun s hs => ?_⟩
 have := V.ent s hs
 unfold inB at this ⊢
 rw [List.all_eq_true] at this ⊢
 exact fun x hx => this x ((h s hs).mem_iff.1 hx)
theorem VA.colL {a perms : List (List Int)} {n m : Nat} (V : VA a n m) (hP : PermsP a perms m) : VA (Q.colL a perms n) n m := V.of_rows (colL_len _ _ _) (colL_perm V hP)
theorem Col.colL {a perms : List (List Int)} {n m : Nat} (V : VA a n m) (hP : PermsP a perms m) : Col (nx a) (nx (Q.colL a perms n)) n m := Col.of_perm V (V.colL hP) (colL_perm V hP)
end Go.Proofs.Ytjgdalhdiohclaa.Q
end
/-! Part MSinks -/
section
namespace Go.Proofs.Ytjgdalhdiohclaa.Q
set_option linter.unusedVariables false
def IsSink (f : Nat → Nat → Nat) (n m s : Nat) : Prop := ∀ t, t < n → Conn f m s t → s ≤ t ∧ Conn f m t s
open Classical in
noncomputable def reachTo (f : Nat → Nat → Nat) (j m s : Nat) : List Nat := (List.range j).filter fun t => decide (Conn f m s t)
open Classical in
noncomputable def sinksTo (f : Nat → Nat → Nat) (n m j : Nat) : List (List Int) := (List.range j).flatMap fun s => if IsSink f n m s then [toI (reachTo f n m s)] else []
theorem reachTo_yes {f : Nat → Nat → Nat} {j m s : Nat} (h : Conn f m s j) : reachTo f (j + 1) m s = reachTo f j m s ++ [j] := by
 unfold reachTo; rw [List.range_succ, List.filter_append]; simp [h]
theorem reachTo_no {f : Nat → Nat → Nat} {j m s : Nat} (h : ¬ Conn f m s j) : reachTo f (j + 1) m s = reachTo f j m s := by
 unfold reachTo; rw [List.range_succ, List.filter_append]; simp [h]
theorem reachTo_len (f : Nat → Nat → Nat) (j m s : Nat) : (reachTo f j m s).length ≤ j := by
 unfold reachTo; exact Nat.le_trans (List.length_filter_le _ _) (Nat.le_of_eq List.length_range)
theorem sinksTo_yes {f : Nat → Nat → Nat} {n m j : Nat} (h : IsSink f n m j) : sinksTo f n m (j + 1) = sinksTo f n m j ++ [toI (reachTo f n m j)] := by
 unfold sinksTo; rw [List.range_succ, List.flatMap_append]; simp [h]
theorem sinksTo_no {f : Nat → Nat → Nat} {n m j : Nat} (h : ¬ IsSink f n m j) : sinksTo f n m (j + 1) = sinksTo f n m j := by
 unfold sinksTo; rw [List.range_succ, List.flatMap_append]; simp [h]
theorem sinksTo_len (f : Nat → Nat → Nat) (n m : Nat) : ∀ j, (sinksTo f n m j).length ≤ j
 | 0 => by simp [sinksTo]
 | j + 1 => by
  have := sinksTo_len f n m j
  by_cases h : IsSink f n m j
  ·rw [sinksTo_yes h, List.length_append]; simp; omega
  ·rw [sinksTo_no h]; omega
theorem sinksTo_mem {f : Nat → Nat → Nat} {n m : Nat} {l : List Int} : ∀ {j}, l ∈ sinksTo f n m j → ∃ s, s < j ∧ IsSink f n m s ∧ l = toI (reachTo f n m s)
 | 0, h => by simp [sinksTo] at h
 | j + 1, h => by
  by_cases hs : IsSink f n m j
  ·rw [sinksTo_yes hs] at h
   rcases List.mem_append.1 h with h | h
   ·obtain ⟨s, h1, h2⟩ := sinksTo_mem h; exact ⟨s, by omega, h2⟩
   ·exact ⟨j, by omega, hs, List.mem_singleton.1 h⟩
  ·rw [sinksTo_no hs] at h
   obtain ⟨s, h1, h2⟩ := sinksTo_mem h; exact ⟨s, by omega, h2⟩
theorem net_sinks {rows : List (List Int)} {n m : Nat} (V : VA rows n m) : Ev (fun k => net_Sinks.f k rows) (sinksTo (nx rows) n m n, 0) := by
 have hlen := V.len; have h60 := V.n60
 have outer : ∀ (d s : Nat), s + d = n → Ev (fun k => net_Sinks.l0 k (sinksTo (nx rows) n m s) (n : Int) (s : Int) rows) (sinksTo (nx rows) n m n, 0) := by
  intro d
  induction d with
  | zero =>
   intro s hs
   obtain rfl : s = n := by omega
   refine Ev.next ?_
   simp only [net_Sinks.l0, if_neg (by omega : ¬ (s : Int) < (s : Int))]
   exact Ev.now _
  | succ d ih =>
   intro s hs
   have hsn : s < n := by omega
   obtain ⟨all, ha1, ha2⟩ := net_reaches V hsn
   have hal := ha2.1
   have hrl := reachTo_len (nx rows) n m s; have hsl := sinksTo_len (nx rows) n m s
   have skip : ¬ IsSink (nx rows) n m s → Ev (fun k => net_Sinks.l0 k (sinksTo (nx rows) n m s) (n : Int) ((s + 1 : Nat) : Int) rows) (sinksTo (nx rows) n m n, 0) := fun h => by
    have := ih (s + 1) (by omega); rwa [sinksTo_no h] at this
   have inner : ∀ (e t : Nat), t + e = n → (∀ u, u < t → Conn (nx rows) m s u → s ≤ u ∧ Conn (nx rows) m u s) → Ev (fun k => net_Sinks.l1 k (sinksTo (nx rows) n m s) (s : Int) (toI (reachTo (nx rows) t m s)) (n : Int) (s : Int) all (all.length : Int) (t : Int) rows) (sinksTo (nx rows) n m n, 0) := by
    intro e
    induction e with
    | zero =>
     intro t ht hu
     obtain rfl : t = n := by omega
     refine Ev.next ?_
     simp only [net_Sinks.l1, if_neg (by omega : ¬ (t : Int) < (all.length : Int)), if_pos (by omega : (sinksTo (nx rows) t m s).length < 5864062014805), wrapS (by omega : s + 1 ≤ 9223372036854775807)]
     have := ih (s + 1) (by omega); rwa [sinksTo_yes hu] at this
    | succ e ih2 =>
     intro t ht hu
     have htn : t < n := by omega
     have hcut := reachTo_len (nx rows) t m s
     refine Ev.next ?_
     by_cases hc : Conn (nx rows) m s t
     ·have hm := (ha2.2 t htn).2 hc
      by_cases hts : t < s
      ·simp only [net_Sinks.l1, if_pos (by omega : (t : Int) < (all.length : Int)), if_pos (by omega : (0 : Int) ≤ (t : Int)), hm, if_true, if_pos (by omega : (t : Int) < (s : Int)), wrapS (by omega : s + 1 ≤ 9223372036854775807)]
       exact skip fun h => by have := (h t htn hc).1; omega
      ·obtain ⟨back, hb1, hb2⟩ := net_reaches V htn
       have hbl := hb2.1
       simp only [net_Sinks.l1, if_pos (by omega : (t : Int) < (all.length : Int)), if_pos (by omega : (0 : Int) ≤ (t : Int)), hm, if_true, if_neg (by omega : ¬ (t : Int) < (s : Int))]
       refine Ev.bind hb1 ?_
       by_cases hcb : Conn (nx rows) m t s
       ·simp only [if_pos (by omega : (0 : Int) ≤ (s : Int)), if_pos (by omega : (s : Int) < (back.length : Int)), (hb2.2 s hsn).2 hcb, if_true, toI_len, if_pos (by omega : (reachTo (nx rows) t m s).length < 17592186044416), wrapS (by omega : t + 1 ≤ 9223372036854775807)]
        have := ih2 (t + 1) (by omega) fun u h1 h2 => by
         by_cases h3 : u = t
         ·subst h3; exact ⟨by omega, hcb⟩
         ·exact hu u (by omega) h2
        rwa [reachTo_yes hc, toI_snoc] at this
       ·simp only [if_pos (by omega : (0 : Int) ≤ (s : Int)), if_pos (by omega : (s : Int) < (back.length : Int)), if_neg (fun h => hcb ((hb2.2 s hsn).1 h)), wrapS (by omega : s + 1 ≤ 9223372036854775807)]
        exact skip fun h => hcb (h t htn hc).2
     ·simp only [net_Sinks.l1, if_pos (by omega : (t : Int) < (all.length : Int)), if_pos (by omega : (0 : Int) ≤ (t : Int)), if_neg (fun h => hc ((ha2.2 t htn).1 h)), wrapS (by omega : t + 1 ≤ 9223372036854775807)]
      have := ih2 (t + 1) (by omega) fun u h1 h2 => by
       by_cases h3 : u = t
       ·subst h3; exact absurd h2 hc
       ·exact hu u (by omega) h2
      rwa [reachTo_no hc] at this
   refine Ev.next ?_
   simp only [net_Sinks.l0, if_pos (by omega : (s : Int) < (n : Int))]
   refine Ev.bind ha1 ?_
   exact inner n 0 (by omega) fun u h => by omega
 unfold net_Sinks.f
 simp only [auto_Valid.f, validB_of V, Option.bind_some, if_true, hlen]
 exact outer n 0 (by omega)
end Go.Proofs.Ytjgdalhdiohclaa.Q
end
