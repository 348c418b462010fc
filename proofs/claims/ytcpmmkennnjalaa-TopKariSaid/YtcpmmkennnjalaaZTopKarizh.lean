/- In any Eulerian automaton that has a reset word, whatever set of states, neither empty nor all, is led into by more states with a word of at most n - 1 letters, and its shortest reset word has at most n^2 - 3n + 3 letters; in any circular one at most (n - 1)^2. (At most 9 states) (text 34 of 42) -/
import Derived.Test.YtcpmmkennnjalaaZTopKarir
import Derived.Test.YtcpmmkennnjalaaZTopKarizf
section
namespace Go.Proofs.Ytcpmmkennnjalaa.Q
open Go.RowKit Go.Proofs.YtcpmmkennnjalaaW.PrintWords Go.Proofs.YtcpmmkennnjalaaW.PrintLast Go.Proofs.YtcpmmkennnjalaaW.PrintMore
set_option linter.unusedVariables false
set_option linter.unusedSectionVars false
/-! ### the sets to which words lead, each with its least word -/
def qI (q : List (Nat × List Nat)) : List (Int × List Int) := q.map fun e => ((e.1 : Int), toI e.2)
def qL (q : List (Nat × List Nat)) : List Int := q.map fun e => (e.1 : Int)
structure Sq (q : List (Nat × List Nat)) (steps : List (Int × Int)) : Prop where
  len : steps.length = q.length
  q0 : ∃ s, q[0]? = some (s, [])
  s0 : steps[0]? = some (-1, 0)
  par : ∀ (j : Nat) (e : Nat × List Nat), 0 < j → q[j]? = some e → ∃ (p x : Nat) (b : Nat × List Nat), p < j ∧ steps[j]? = some ((p : Int), (x : Int)) ∧ q[p]? = some b ∧ e.2 = b.2 ++ [x]
theorem Sq.new {q : List (Nat × List Nat)} {steps : List (Int × Int)} (h : Sq q steps) {i x t : Nat} {e : Nat × List Nat} (he : q[i]? = some e) : Sq (q ++ [(t, e.2 ++ [x])]) (steps ++ [((i : Int), (x : Int))]) := by
  have hi := (List.getElem?_eq_some_iff.1 he).1
  have hq : 0 < q.length := by omega
  have hl := h.len
  refine ⟨by simp [h.len], ?_, ?_, ?_⟩
  · obtain ⟨s, hs⟩ := h.q0
    exact ⟨s, by rw [List.getElem?_append_left hq]; exact hs⟩
  · rw [List.getElem?_append_left (by omega)]; exact h.s0
  · intro j a hj ha
    rcases Nat.lt_trichotomy j q.length with h1 | h1 | h1
    · rw [List.getElem?_append_left h1] at ha
      obtain ⟨p, y, b, hp, hs, hb, hw⟩ := h.par j a hj ha
      exact ⟨p, y, b, hp, by rw [List.getElem?_append_left (by omega)]; exact hs, by rw [List.getElem?_append_left (by omega)]; exact hb, hw⟩
    · subst h1
      rw [List.getElem?_append_right (Nat.le_refl _)] at ha
      simp at ha
      subst ha
      exact ⟨i, x, e, hi, by rw [List.getElem?_append_right (by omega)]; simp [hl], by rw [List.getElem?_append_left hi]; exact he, rfl⟩
    · rw [List.getElem?_eq_none (by simp; omega)] at ha; cases ha
theorem rdSt_at {steps : List (Int × Int)} {j : Nat} {s : Int × Int} (h : steps[j]? = some s) : rdSt steps (j : Int) = s := by
  unfold rdSt
  simp [List.getD_eq_getElem?_getD, h]
theorem word_loop {q : List (Nat × List Nat)} {steps : List (Int × Int)} (h : Sq q steps) (j : Nat) : ∀ (e : Nat × List Nat) (out : List Int), q[j]? = some e → out.length + j ≤ 1000000 → Ev (fun k => short_word.l0 k steps (j : Int) out) (toI e.2 ++ out.reverse) := by
  induction j using Nat.strongRecOn with
  | ind j ih =>
    intro e out he hl
    have hj := (List.getElem?_eq_some_iff.1 he).1
    have hs := h.len
    rcases Nat.eq_zero_or_pos j with h0 | h0
    · subst h0
      obtain ⟨s, hs0⟩ := h.q0
      rw [hs0] at he; obtain rfl := Option.some.inj he
      exact Ev.step (f := fun _ => some out.reverse) (fun k => by rw [short_word.l0, if_pos (by omega), if_pos (by omega), rdSt_at h.s0, if_neg (by decide)]) (Ev.ret (by simp [toI]))
    · obtain ⟨p, x, b, hp, hsj, hb, hw⟩ := h.par j e h0 he
      have := ih p hp b (out ++ [(x : Int)]) hb (by simp; omega)
      refine Ev.step (fun k => by rw [short_word.l0, if_pos (by omega), if_pos (by omega), rdSt_at hsj, if_pos (show ((p : Int), (x : Int)).1 ≥ 0 by show (p : Int) ≥ 0; omega), if_pos (by omega)]) (Ev.eq this ?_)
      rw [hw, toI_snoc]
      simp
theorem word_ev {q : List (Nat × List Nat)} {steps : List (Int × Int)} (h : Sq q steps) {j : Nat} {e : Nat × List Nat} (he : q[j]? = some e) (hl : j ≤ 1000000) : Ev (fun k => short_word.f k steps (j : Int)) (toI e.2) := by
  simpa [short_word.f] using word_loop h j e [] he (by simpa using hl)
theorem qL_at {q : List (Nat × List Nat)} {j : Nat} {e : Nat × List Nat} (h : q[j]? = some e) : rd (qL q) (j : Int) = (e.1 : Int) := by
  unfold rd qL
  simp [List.getD_eq_getElem?_getD, h]
theorem qL_mem {q : List (Nat × List Nat)} {t : Nat} : (t : Int) ∈ qL q ↔ ∃ a ∈ q, a.1 = t := by
  unfold qL
  rw [List.mem_map]
  constructor
  · rintro ⟨a, ha, h⟩; exact ⟨a, ha, by omega⟩
  · rintro ⟨a, ha, h⟩; exact ⟨a, ha, by omega⟩
section
variable {rows : List (List Int)} {n m : Nat} (V : VA rows n m) (hn : n ≤ 12)
include V hn
theorem two_small : 2 ^ n ≤ 4096 := Nat.le_trans (Nat.pow_le_pow_right (by decide : 0 < 2) hn) (by decide)
theorem mv_lt {s x : Nat} (hx : x < m) : mv (nx rows) n s x < 2 ^ n := mvA_lt (fun u hu => V.nxLt hu hx) n (Nat.le_refl _)
theorem sets_row {s0 i : Nat} (nextI : ∀ (q : List (Nat × List Nat)) (steps : List (Int × Int)), Bfs (mv (nx rows) n) m (2 ^ n) s0 (2 ^ n) q (i + 1) 0 → Sq q steps → i + 1 ≤ q.length → ∃ q', Bfs (mv (nx rows) n) m (2 ^ n) s0 (2 ^ n) q' q'.length 0 ∧ Ev (fun k => short_sets.l0 k rows (qL q) steps ((i + 1 : Nat) : Int) (qI (q.take (i + 1)))) (qI q')) :
    ∀ (e x : Nat) (q : List (Nat × List Nat)) (steps : List (Int × Int)), x + e = m → Bfs (mv (nx rows) n) m (2 ^ n) s0 (2 ^ n) q i x → Sq q steps → i < q.length → ∃ q', Bfs (mv (nx rows) n) m (2 ^ n) s0 (2 ^ n) q' q'.length 0 ∧ Ev (fun k => short_sets.l1 k rows (qL q) steps (i : Int) (x : Int) (qI (q.take (i + 1)))) (qI q')
  | 0, x, q, steps, he, B, S, hi => by
    obtain rfl : x = m := by omega
    have h12 := two_small V hn
    have hql := B.len
    obtain ⟨a, ha⟩ : ∃ a, q[i]? = some a := ⟨_, List.getElem?_eq_getElem hi⟩
    obtain ⟨q', hq', hE⟩ := nextI q steps (B.row ha) S (by omega)
    have hrow : (rd_L1 rows 0).length = x := V.row 0 V.n0
    refine ⟨q', hq', Ev.step (fun k => by rw [short_sets.l1, if_neg (by rw [hrow]; omega), wrapS (by omega)]) hE⟩
  | e + 1, x, q, steps, he, B, S, hi => by
    have hx : x < m := by omega
    have h6 := V.m6
    have h12 := two_small V hn
    have hql := B.len
    have hsl := S.len
    have hLl : (qL q).length = q.length := by simp [qL]
    obtain ⟨a, ha⟩ : ∃ a, q[i]? = some a := ⟨_, List.getElem?_eq_getElem hi⟩
    have hok := B.ok a (List.mem_of_getElem? ha)
    have hrow : (rd_L1 rows 0).length = m := V.row 0 V.n0
    have hto := set_to V hn hok.1 hx
    have hmlt := mv_lt V hn (s := a.1) hx
    have start : ∀ (g : Nat → Option (List (Int × List Int))) (r : List (Int × List Int)), Ev g r → (∀ k, (if ((mv (nx rows) n a.1 x : Nat) : Int) ∈ qL q then short_sets.l1 k rows (qL q) steps (i : Int) (wrap64 ((x : Int) + 1)) (qI (q.take (i + 1))) else (if (qL q).length < 8796093022208 then (if steps.length < 4398046511104 then short_sets.l1 k rows (qL q ++ [((mv (nx rows) n a.1 x : Nat) : Int)]) (steps ++ [((i : Int), (x : Int))]) (i : Int) (wrap64 ((x : Int) + 1)) (qI (q.take (i + 1))) else none) else none)) = g k) → Ev (fun k => short_sets.l1 k rows (qL q) steps (i : Int) (x : Int) (qI (q.take (i + 1)))) r := by
      intro g r hg hh
      refine Ev.step (fun k => by rw [short_sets.l1, if_pos (by rw [hrow]; omega), if_pos (by omega), if_pos (by rw [hLl]; omega), qL_at ha]) ?_
      exact Ev.bind hto (hg.congr fun k => hh k)
    by_cases hm : ∃ b ∈ q, b.1 = mv (nx rows) n a.1 x
    · obtain ⟨b, hb, hbe⟩ := hm
      obtain ⟨q', hq', hE⟩ := sets_row nextI e (x + 1) q steps (by omega) (B.old ha hb hbe) S hi
      exact ⟨q', hq', start _ _ hE fun k => by rw [if_pos (qL_mem.2 ⟨b, hb, hbe⟩), wrapS (by omega)]⟩
    · have hno : ∀ b ∈ q, b.1 ≠ mv (nx rows) n a.1 x := fun b hb h => hm ⟨b, hb, h⟩
      obtain ⟨q', hq', hE⟩ := sets_row nextI e (x + 1) (q ++ [(mv (nx rows) n a.1 x, a.2 ++ [x])]) (steps ++ [((i : Int), (x : Int))]) (by omega) (B.new ha hx hmlt hno (by omega)) (S.new ha) (by simp; omega)
      refine ⟨q', hq', start _ _ hE fun k => ?_⟩
      have e1 : (q ++ [(mv (nx rows) n a.1 x, a.2 ++ [x])]).take (i + 1) = q.take (i + 1) := List.take_append_of_le_length (by omega)
      have e2 : qL (q ++ [(mv (nx rows) n a.1 x, a.2 ++ [x])]) = qL q ++ [((mv (nx rows) n a.1 x : Nat) : Int)] := by simp [qL]
      rw [if_neg (fun h => hm (qL_mem.1 h)), if_pos (by rw [hLl]; omega), if_pos (by omega), e1, e2, wrapS (by omega)]
theorem sets_loop {s0 : Nat} : ∀ (e i : Nat) (q : List (Nat × List Nat)) (steps : List (Int × Int)), i + e = 2 ^ n + 1 → Bfs (mv (nx rows) n) m (2 ^ n) s0 (2 ^ n) q i 0 → Sq q steps → i ≤ q.length → ∃ q', Bfs (mv (nx rows) n) m (2 ^ n) s0 (2 ^ n) q' q'.length 0 ∧ Ev (fun k => short_sets.l0 k rows (qL q) steps (i : Int) (qI (q.take i))) (qI q')
  | 0, i, q, steps, he, B, S, hi => by have := B.len; omega
  | e + 1, i, q, steps, he, B, S, hi => by
    have hLl : (qL q).length = q.length := by simp [qL]
    have h12 := two_small V hn
    have hql := B.len
    rcases Nat.lt_or_ge i q.length with h1 | h1
    · obtain ⟨a, ha⟩ : ∃ a, q[i]? = some a := ⟨_, List.getElem?_eq_getElem h1⟩
      obtain ⟨q', hq', hE⟩ := sets_row V hn (fun q2 steps2 B2 S2 h2 => sets_loop e (i + 1) q2 steps2 (by omega) B2 S2 h2) m 0 q steps (by omega) B S h1
      refine ⟨q', hq', Ev.step (fun k => by rw [short_sets.l0, if_pos (by rw [hLl]; omega), if_pos (by omega), qL_at ha]) ?_⟩
      refine Ev.bind (word_ev S ha (by omega)) ?_
      have e1 : qI (q.take (i + 1)) = qI (q.take i) ++ [((a.1 : Int), toI a.2)] := by
        have : q.take (i + 1) = q.take i ++ [a] := by
          rw [List.take_add_one, ha]; rfl
        rw [this]; simp [qI]
      rw [e1] at hE
      exact hE
    · obtain rfl : i = q.length := by omega
      refine ⟨q, B, Ev.step (f := fun _ => some (qI (q.take q.length))) (fun k => by rw [short_sets.l0, if_neg (by rw [hLl]; omega)]) (Ev.ret (by rw [List.take_length]))⟩
theorem allU_eq : allU n = ((2 ^ n - 1 : Nat) : Int) := by
  have h1 : (2 : Nat) ^ n ≤ 4096 := two_small V hn
  have h0 : 1 ≤ 2 ^ n := Nat.one_le_two_pow
  unfold allU
  have e1 : min n 16 = n := by omega
  rw [e1, pow_cast, wrap_small (by omega)]
  have e2 : ((2 ^ n : Nat) : Int) - 1 = ((2 ^ n - 1 : Nat) : Int) := by omega
  rw [e2, wrap_small (by omega)]
theorem sets_ev : ∃ q, Bfs (mv (nx rows) n) m (2 ^ n) (2 ^ n - 1) (2 ^ n) q q.length 0 ∧ Ev (fun k => short_sets.f k rows) (qI q) := by
  have h0 : 1 ≤ 2 ^ n := Nat.one_le_two_pow
  have hlen : rows.length = n := V.len
  have S : Sq [(2 ^ n - 1, [])] [(-1, 0)] := ⟨rfl, ⟨_, rfl⟩, rfl, fun j e hj he => by
    cases j with
    | zero => omega
    | succ j => simp at he⟩
  obtain ⟨q, hq, hE⟩ := sets_loop V hn (2 ^ n + 1) 0 [(2 ^ n - 1, [])] [(-1, 0)] (by omega) (Bfs.start (by omega) (by omega)) S (by simp)
  refine ⟨q, hq, hE.congr fun k => ?_⟩
  unfold short_sets.f
  rw [hlen, allU_eq V hn]
  rfl
end
end Go.Proofs.Ytcpmmkennnjalaa.Q
end
