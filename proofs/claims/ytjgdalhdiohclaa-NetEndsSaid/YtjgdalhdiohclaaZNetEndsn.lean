/- NetEnds returns true for every input of its row; no further conditions. (text 14 of 17) -/
import Derived.Test.YtjgdalhdiohclaaZNetEndsi
import Derived.Test.YtjgdalhdiohclaaZNetEndsl
/-! Part MPath -/
section
namespace Go.Proofs.Ytjgdalhdiohclaa.Q
open Go.RowKit Go.Proofs.YtjgdalhdiohclaaW.PrintWords Go.Proofs.YtjgdalhdiohclaaW.PrintLast Go.Proofs.YtjgdalhdiohclaaW.PrintMore
set_option linter.unusedVariables false
/-! ### net.Path: breadth first -/
/-- What holds while letter x of the i-th state met is looked at. -/
structure Bfs (f : Nat → Nat → Nat) (m n s t : Nat) (q : List (Nat × List Nat)) (i x : Nat) : Prop where
  st : q[0]? = some (s, [])
  ok : ∀ e ∈ q, e.1 < n ∧ Wd m e.2 ∧ run f s e.2 = e.1 ∧ e.1 ≠ t
  nd : (q.map Prod.fst).Nodup
  le : ∀ (j : Nat) (e : Nat × List Nat), q[j]? = some e → e.2.length ≤ j
  mono : ∀ (j k : Nat) (a b : Nat × List Nat), j < k → q[j]? = some a → q[k]? = some b → code m a.2 < code m b.2
  done : ∀ (j : Nat) (e : Nat × List Nat) (y : Nat), q[j]? = some e → y < m → (j < i ∨ j = i ∧ y < x) → ∃ a ∈ q, a.1 = f e.1 y ∧ code m a.2 ≤ code m (e.2 ++ [y])
  top : ∀ e : Nat × List Nat, q[i]? = some e → ∀ a ∈ q, code m a.2 < m * code m e.2 + (x + 1)
theorem Bfs.len {f : Nat → Nat → Nat} {m n s t i x : Nat} {q : List (Nat × List Nat)} (B : Bfs f m n s t q i x) : q.length ≤ n := by
  have := nodup_le n _ B.nd (by intro u hu; obtain ⟨e, he, rfl⟩ := List.mem_map.1 hu; exact (B.ok e he).1)
  rwa [List.length_map] at this
/-- Every word is behind the front, or leads to a state met. -/
theorem Bfs.front {f : Nat → Nat → Nat} {m n s t i x : Nat} {q : List (Nat × List Nat)} (B : Bfs f m n s t q i x) {e : Nat × List Nat} (he : q[i]? = some e) (hx : x < m) (v : List Nat) (hv : Wd m v) :
    m * code m e.2 + (x + 1) ≤ code m v ∨ ∃ a ∈ q, a.1 = run f s v ∧ code m a.2 ≤ code m v := by
  induction v using snoc_ind with
  | h0 => exact Or.inr ⟨(s, []), List.mem_of_getElem? B.st, rfl, Nat.le_refl _⟩
  | h1 v y ih =>
    have hy := hv.right y (by simp)
    have hc := code_snoc m v y
    rcases ih hv.left with h | ⟨a, ha, ha1, ha2⟩
    · left; rw [hc]
      have : code m v ≤ m * code m v := Nat.le_mul_of_pos_left _ (by omega)
      omega
    · obtain ⟨j, hj⟩ := List.mem_iff_getElem?.1 ha
      have hm := Nat.mul_le_mul_left m ha2
      by_cases hd : j < i ∨ j = i ∧ y < x
      · obtain ⟨b, hb, hb1, hb2⟩ := B.done j a y hj hy hd
        refine Or.inr ⟨b, hb, by rw [run_snoc, hb1, ha1], ?_⟩
        rw [code_snoc] at hb2; rw [hc]; omega
      · left; rw [hc]
        rcases Nat.lt_or_ge i j with h | h
        · have h2 := Nat.mul_le_mul_left m (Nat.succ_le_of_lt (B.mono i j e a h he hj))
          rw [Nat.mul_succ] at h2
          omega
        · obtain rfl : j = i := by omega
          rw [he] at hj; obtain rfl := Option.some.inj hj
          omega
/-- When all is looked at: every word leads to a state met. -/
theorem Bfs.all {f : Nat → Nat → Nat} {m n s t i x : Nat} {q : List (Nat × List Nat)} (B : Bfs f m n s t q i x) (he : q.length ≤ i) (v : List Nat) (hv : Wd m v) : ∃ a ∈ q, a.1 = run f s v := by
  induction v using snoc_ind with
  | h0 => exact ⟨(s, []), List.mem_of_getElem? B.st, rfl⟩
  | h1 v y ih =>
    obtain ⟨a, ha, ha1⟩ := ih hv.left
    obtain ⟨j, hj⟩ := List.mem_iff_getElem?.1 ha
    have hlt := (List.getElem?_eq_some_iff.1 hj).1
    obtain ⟨b, hb, hb1, _⟩ := B.done j a y hj (hv.right y (by simp)) (Or.inl (by omega))
    exact ⟨b, hb, by rw [run_snoc, hb1, ha1]⟩
theorem Bfs.old {f : Nat → Nat → Nat} {m n s t i x : Nat} {q : List (Nat × List Nat)} (B : Bfs f m n s t q i x) {e a : Nat × List Nat} (he : q[i]? = some e) (ha : a ∈ q) (h : a.1 = f e.1 x) : Bfs f m n s t q i (x + 1) where
  st := B.st
  ok := B.ok
  nd := B.nd
  le := B.le
  mono := B.mono
  done := fun j e' y hj hy hd => by
    by_cases h1 : j < i ∨ j = i ∧ y < x
    · exact B.done j e' y hj hy h1
    · obtain rfl : j = i := by omega
      obtain rfl : y = x := by omega
      rw [he] at hj; obtain rfl := Option.some.inj hj
      refine ⟨a, ha, h, ?_⟩
      have := B.top e he a ha
      rw [code_snoc]; omega
  top := fun e' he' a ha => by have := B.top e' he' a ha; omega
theorem Bfs.new {f : Nat → Nat → Nat} {m n s t i x : Nat} {q : List (Nat × List Nat)} (B : Bfs f m n s t q i x) {e : Nat × List Nat} (he : q[i]? = some e) (hx : x < m) (hf : f e.1 x < n) (hn : ∀ a ∈ q, a.1 ≠ f e.1 x) (ht : f e.1 x ≠ t) : Bfs f m n s t (q ++ [(f e.1 x, e.2 ++ [x])]) i (x + 1) := by
  have hi := (List.getElem?_eq_some_iff.1 he).1
  have hem := List.mem_of_getElem? he
  have hok := B.ok e hem
  have ap : ∀ (j : Nat) (a : Nat × List Nat), (q ++ [(f e.1 x, e.2 ++ [x])])[j]? = some a → (q[j]? = some a ∧ j < q.length) ∨ (j = q.length ∧ a = (f e.1 x, e.2 ++ [x])) := by
    intro j a h
    rcases Nat.lt_trichotomy j q.length with h1 | h1 | h1
    · rw [List.getElem?_append_left h1] at h; exact Or.inl ⟨h, h1⟩
    · subst h1; rw [List.getElem?_append_right (Nat.le_refl _)] at h; simp at h; exact Or.inr ⟨rfl, h.symm⟩
    · rw [List.getElem?_eq_none (by rw [List.length_append]; simp; omega)] at h; exact absurd h (by simp)
  have hi' : (q ++ [(f e.1 x, e.2 ++ [x])])[i]? = some e := by rw [List.getElem?_append_left hi]; exact he
  refine ⟨?_, ?_, ?_, ?_, ?_, ?_, ?_⟩
  · rw [List.getElem?_append_left (by omega)]; exact B.st
  · intro a ha
    rcases List.mem_append.1 ha with h | h
    · exact B.ok a h
    · obtain rfl := List.mem_singleton.1 h
      exact ⟨hf, hok.2.1.app (Wd.one hx), by rw [run_snoc, hok.2.2.1], ht⟩
  · rw [List.map_append, List.nodup_append]
    refine ⟨B.nd, by simp, ?_⟩
    intro u hu v hv h
    obtain ⟨a, ha, rfl⟩ := List.mem_map.1 hu
    simp only [List.map_cons, List.map_nil, List.mem_singleton] at hv
    exact hn a ha (h.trans hv)
  · intro j a h
    rcases ap j a h with ⟨h1, _⟩ | ⟨rfl, rfl⟩
    · exact B.le j a h1
    · have := B.le i e he; simp only [List.length_append, List.length_singleton]; omega
  · intro j k a b hjk ha hb
    rcases ap k b hb with ⟨h1, h2⟩ | ⟨rfl, rfl⟩
    · rcases ap j a ha with ⟨h3, _⟩ | ⟨rfl, _⟩
      · exact B.mono j k a b hjk h3 h1
      · omega
    · rcases ap j a ha with ⟨h3, _⟩ | ⟨rfl, _⟩
      · have := B.top e he a (List.mem_of_getElem? h3)
        simp only [code_snoc]; omega
      · omega
  · intro j a y ha hy hd
    rcases ap j a ha with ⟨h1, h2⟩ | ⟨rfl, _⟩
    · by_cases h3 : j < i ∨ j = i ∧ y < x
      · obtain ⟨b, hb, h4⟩ := B.done j a y h1 hy h3
        exact ⟨b, List.mem_append.2 (Or.inl hb), h4⟩
      · obtain rfl : j = i := by omega
        obtain rfl : y = x := by omega
        rw [he] at h1; obtain rfl := Option.some.inj h1
        exact ⟨(f e.1 y, e.2 ++ [y]), by simp, rfl, Nat.le_refl _⟩
    · omega
  · intro e' he' a ha
    rw [hi'] at he'; obtain rfl := Option.some.inj he'
    rcases List.mem_append.1 ha with h | h
    · have := B.top e he a h; omega
    · obtain rfl := List.mem_singleton.1 h
      simp only [code_snoc]; omega
theorem Bfs.row {f : Nat → Nat → Nat} {m n s t i : Nat} {q : List (Nat × List Nat)} (B : Bfs f m n s t q i m) {e : Nat × List Nat} (he : q[i]? = some e) : Bfs f m n s t q (i + 1) 0 where
  st := B.st
  ok := B.ok
  nd := B.nd
  le := B.le
  mono := B.mono
  done := fun j e' y hj hy hd => B.done j e' y hj hy (by omega)
  top := fun e' he' a ha => by
    have h1 := B.top e he a ha
    have h2 := Nat.mul_le_mul_left m (Nat.succ_le_of_lt (B.mono i (i + 1) e e' (by omega) he he'))
    rw [Nat.mul_succ] at h2; omega
theorem Bfs.start {f : Nat → Nat → Nat} {m n s t : Nat} (hs : s < n) (hst : s ≠ t) : Bfs f m n s t [(s, [])] 0 0 where
  st := rfl
  ok := fun e he => by obtain rfl := List.mem_singleton.1 he; exact ⟨hs, Wd.nil m, rfl, hst⟩
  nd := by simp
  le := fun j e he => by
    cases j with
    | zero => simp at he; subst he; simp
    | succ j => simp at he
  mono := fun j k a b hjk ha hb => by
    cases k with
    | zero => omega
    | succ k => simp at hb
  done := fun j e y _ _ hd => by omega
  top := fun e he a ha => by
    simp at he; subst he
    obtain rfl := List.mem_singleton.1 ha
    simp [code_nil]
/-- The program's map and list. -/
def wsq (q : List (Nat × List Nat)) : List (Int × List Int) := q.map fun e => ((e.1 : Int), toI e.2)
def lsq (q : List (Nat × List Nat)) : List Int := q.map fun e => (e.1 : Int)
theorem look_none (u : Nat) : ∀ q : List (Nat × List Nat), (∀ a ∈ q, a.1 ≠ u) → (wsq q).lookup (u : Int) = none
  | [], _ => rfl
  | e :: q, h => by
    have h1 := h e List.mem_cons_self
    have h2 := look_none u q fun a ha => h a (List.mem_cons_of_mem _ ha)
    have h3 : ((u : Int) == (e.1 : Int)) = false := by rw [beq_eq_false_iff_ne]; omega
    show List.lookup (u : Int) (((e.1 : Int), toI e.2) :: wsq q) = none
    rw [List.lookup_cons, h3]; exact h2
theorem look_some : ∀ q : List (Nat × List Nat), (q.map Prod.fst).Nodup → ∀ a ∈ q, (wsq q).lookup (a.1 : Int) = some (toI a.2)
  | [], _, _, h => nomatch h
  | e :: q, hd, a, ha => by
    show List.lookup (a.1 : Int) (((e.1 : Int), toI e.2) :: wsq q) = _
    rw [List.lookup_cons]
    rw [List.map_cons, List.nodup_cons] at hd
    by_cases h : a.1 = e.1
    · have : a = e := by
        rcases List.mem_cons.1 ha with h1 | h1
        · exact h1
        · exact absurd (List.mem_map.2 ⟨a, h1, h⟩) hd.1
      subst this
      rw [BEq.rfl]
    · have h3 : ((a.1 : Int) == (e.1 : Int)) = false := by rw [beq_eq_false_iff_ne]; omega
      rw [h3]
      rcases List.mem_cons.1 ha with h1 | h1
      · subst h1; exact absurd rfl h
      · exact look_some q hd.2 a h1
/-- What Path and its reference say of s and t. -/
def PathSays (f : Nat → Nat → Nat) (m s t : Nat) (r : List Int × Int) : Prop := (∃ w, Least f m s t w ∧ r = (toI w, 0)) ∨ (¬ Conn f m s t ∧ r = ([], 4))
theorem net_path_loop {rows : List (List Int)} {n m s t : Nat} (V : VA rows n m) (hs : s < n) (ht : t < n) (hst : s ≠ t) : ∃ r, Ev (fun k => net_Path.l0 k rows (t : Int) [((s : Int), [])] [(s : Int)] 0) r ∧ PathSays (nx rows) m s t r := by
  have hlen := V.len; have h60 := V.n60; have h6 := V.m6
  have key : ∀ (d i : Nat) (q : List (Nat × List Nat)), i + d = n + 1 → Bfs (nx rows) m n s t q i 0 → ∃ r, Ev (fun k => net_Path.l0 k rows (t : Int) (wsq q) (lsq q) (i : Int)) r ∧ PathSays (nx rows) m s t r := by
    have stop : ∀ (i : Nat) (q : List (Nat × List Nat)), q.length ≤ i → Bfs (nx rows) m n s t q i 0 → ∃ r, Ev (fun k => net_Path.l0 k rows (t : Int) (wsq q) (lsq q) (i : Int)) r ∧ PathSays (nx rows) m s t r := by
      intro i q hi B
      refine ⟨([], 4), ?_, Or.inr ⟨fun ⟨w, h1, h2⟩ => ?_, rfl⟩⟩
      · refine Ev.next ?_
        simp only [net_Path.l0, lsq, List.length_map, if_neg (by omega : ¬ (i : Int) < (q.length : Int))]
        unfold net_Path.fin
        rw [look_none t q fun a ha => (B.ok a ha).2.2.2]
        exact Ev.now _
      · obtain ⟨a, ha, h3⟩ := B.all hi w h1
        exact (B.ok a ha).2.2.2 (h3.trans h2)
    intro d
    induction d with
    | zero => intro i q hi B; exact stop i q (by have := B.len; omega) B
    | succ d ih =>
      intro i q hi B
      by_cases hq : q.length ≤ i
      · exact stop i q hq B
      · have hiq : i < q.length := by omega
        have he : q[i]? = some q[i] := List.getElem?_eq_getElem hiq
        generalize hee : q[i] = e at he
        have hok := B.ok e (List.mem_of_getElem? he)
        have hrow := V.row e.1 hok.1
        have hrd : ∀ q' : List (Nat × List Nat), q'[i]? = some e → rd (lsq q') (i : Int) = (e.1 : Int) := by
          intro q' h
          have := (List.getElem?_eq_some_iff.1 h)
          rw [rdE (by unfold lsq; rw [List.length_map]; exact this.1)]
          simp only [lsq, List.getElem_map]; rw [this.2]
        have inner : ∀ (g x : Nat) (q : List (Nat × List Nat)), x + g = m → q[i]? = some e → Bfs (nx rows) m n s t q i x → ∃ r, Ev (fun k => net_Path.l1 k rows (t : Int) (wsq q) (lsq q) (i : Int) (rd_L1 rows (e.1 : Int)) (x : Int)) r ∧ PathSays (nx rows) m s t r := by
          intro g
          induction g with
          | zero =>
            intro x q hx he B
            obtain rfl : x = m := by omega
            obtain ⟨r, h1, h2⟩ := ih (i + 1) q (by omega) (B.row he)
            refine ⟨r, ?_, h2⟩
            refine Ev.next ?_
            simp only [net_Path.l1, if_neg (by omega : ¬ (x : Int) < ((rd_L1 rows (e.1 : Int)).length : Int)), wrapS (by omega : i + 1 ≤ 9223372036854775807)]
            exact h1
          | succ g ih2 =>
            intro x q hx he B
            have hxm : x < m := by omega
            have hu := V.nxLt hok.1 hxm
            have hiq := (List.getElem?_eq_some_iff.1 he).1
            by_cases hin : ∃ a ∈ q, a.1 = nx rows e.1 x
            · obtain ⟨a, ha, hau⟩ := hin
              obtain ⟨r, h1, h2⟩ := ih2 (x + 1) q (by omega) he (B.old he ha hau)
              refine ⟨r, ?_, h2⟩
              refine Ev.next ?_
              simp only [net_Path.l1, if_pos (by omega : (x : Int) < ((rd_L1 rows (e.1 : Int)).length : Int)), if_pos (by omega : (0 : Int) ≤ (x : Int)), V.nxE hok.1 hxm, ← hau, look_some q B.nd a ha, wrapS (by omega : x + 1 ≤ 9223372036854775807)]
              exact h1
            · have hno : ∀ a ∈ q, a.1 ≠ nx rows e.1 x := fun a ha h => hin ⟨a, ha, h⟩
              have hword := look_some q B.nd e (List.mem_of_getElem? he)
              have hle := B.le i e he
              have hqn := B.len
              have hcl : slices_Clone_int_int.f (toI e.2) = some (toI e.2) := by unfold slices_Clone_int_int.f; rw [if_pos (by rw [toI_len]; omega)]
              have hwsn : wsq q ++ [(((nx rows e.1 x : Nat) : Int), toI e.2 ++ [(x : Int)])] = wsq (q ++ [(nx rows e.1 x, e.2 ++ [x])]) := by simp [wsq, toI_snoc]
              have hlsn : lsq q ++ [((nx rows e.1 x : Nat) : Int)] = lsq (q ++ [(nx rows e.1 x, e.2 ++ [x])]) := by simp [lsq]
              have hql : (lsq q).length = q.length := by unfold lsq; rw [List.length_map]
              by_cases hut : nx rows e.1 x = t
              · refine ⟨(toI (e.2 ++ [x]), 0), ?_, Or.inl ⟨_, ⟨hok.2.1.app (Wd.one hxm), by rw [run_snoc, hok.2.2.1, hut], fun v h1 h2 => ?_⟩, rfl⟩⟩
                · refine Ev.next ?_
                  simp only [net_Path.l1, if_pos (by omega : (x : Int) < ((rd_L1 rows (e.1 : Int)).length : Int)), if_pos (by omega : (0 : Int) ≤ (x : Int)), V.nxE hok.1 hxm, look_none _ q hno, if_pos (by omega : (i : Int) < ((lsq q).length : Int)), if_pos (by omega : (0 : Int) ≤ (i : Int)), hrd q he, hword, Option.getD_some, hcl, Option.bind_some, toI_len, if_pos (by omega : e.2.length < 17592186044416), if_pos (by omega : ((nx rows e.1 x : Nat) : Int) = (t : Int)), hwsn]
                  unfold net_Path.fin
                  have hlast : (wsq (q ++ [(nx rows e.1 x, e.2 ++ [x])])).lookup (t : Int) = some (toI (e.2 ++ [x])) := by
                    rw [← hut]
                    refine look_some _ ?_ (nx rows e.1 x, e.2 ++ [x]) (by simp)
                    rw [List.map_append, List.nodup_append]
                    refine ⟨B.nd, by simp, fun u hu v hv h => ?_⟩
                    obtain ⟨a, ha, rfl⟩ := List.mem_map.1 hu
                    simp only [List.map_cons, List.map_nil, List.mem_singleton] at hv
                    exact hno a ha (h.trans hv)
                  rw [hlast]; exact Ev.now _
                · rcases B.front he hxm v h1 with h | ⟨a, ha, h3, _⟩
                  · rw [code_snoc]; exact h
                  · exact absurd (h3.trans h2) (B.ok a ha).2.2.2
              · have B2 := B.new he hxm hu hno hut
                obtain ⟨r, h1, h2⟩ := ih2 (x + 1) _ (by omega) (by rw [List.getElem?_append_left hiq]; exact he) B2
                refine ⟨r, ?_, h2⟩
                refine Ev.next ?_
                simp only [net_Path.l1, if_pos (by omega : (x : Int) < ((rd_L1 rows (e.1 : Int)).length : Int)), if_pos (by omega : (0 : Int) ≤ (x : Int)), V.nxE hok.1 hxm, look_none _ q hno, wrapS (by omega : x + 1 ≤ 9223372036854775807), if_pos (by omega : (i : Int) < ((lsq q).length : Int)), if_pos (by omega : (0 : Int) ≤ (i : Int)), hrd q he, hword, Option.getD_some, hcl, Option.bind_some, toI_len, if_pos (by omega : e.2.length < 17592186044416), if_neg (by omega : ¬ ((nx rows e.1 x : Nat) : Int) = (t : Int)), if_pos (by omega : (lsq q).length < 17592186044416), hwsn, hlsn]
                exact h1
        obtain ⟨r, h1, h2⟩ := inner m 0 q (by omega) he B
        refine ⟨r, ?_, h2⟩
        refine Ev.next ?_
        simp only [net_Path.l0, if_pos (by unfold lsq; rw [List.length_map]; omega : (i : Int) < ((lsq q).length : Int)), if_pos (by omega : (0 : Int) ≤ (i : Int)), hrd q he, if_pos (by omega : (0 : Int) ≤ ((e.1 : Nat) : Int)), if_pos (by have := hok.1; omega : ((e.1 : Nat) : Int) < (rows.length : Int))]
        exact h1
  exact key (n + 1) 0 [(s, [])] (by omega) (Bfs.start hs hst)
theorem least_refl (f : Nat → Nat → Nat) (m s : Nat) : Least f m s s [] := ⟨Wd.nil m, rfl, fun v _ _ => Nat.zero_le _⟩
theorem net_path {rows : List (List Int)} {n m s t : Nat} (V : VA rows n m) (hs : s < n) (ht : t < n) : ∃ r, Ev (fun k => net_Path.f k rows (s : Int) (t : Int)) r ∧ PathSays (nx rows) m s t r := by
  have hlen := V.len
  unfold net_Path.f
  simp only [auto_Valid.f, validB_of V, auto_state, Option.bind_some, if_true, decide_eq_true (by omega : (0 : Int) ≤ (s : Int) ∧ (s : Int) < (rows.length : Int)), decide_eq_true (by omega : (0 : Int) ≤ (t : Int) ∧ (t : Int) < (rows.length : Int))]
  by_cases h : s = t
  · subst h
    simp only [if_true]
    exact ⟨_, Ev.now _, Or.inl ⟨[], least_refl _ _ _, rfl⟩⟩
  · simp only [if_neg (by omega : ¬ (s : Int) = (t : Int))]
    exact net_path_loop V hs ht h
end Go.Proofs.Ytjgdalhdiohclaa.Q
end
