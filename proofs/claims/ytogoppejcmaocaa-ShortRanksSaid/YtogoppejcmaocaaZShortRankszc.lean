/- The law ShortRanks holds: Rank returns the least number of states to which a word leads, and the first shortest word that leads to no more, or the documented error, for any automaton; no bound on the argument beyond its type's. (text 29 of 30) -/
import Derived.Test.YtogoppejcmaocaaZShortRankszb
import Derived.Test.YtogoppejcmaocaaZShortRanksv
import Derived.Test.YtogoppejcmaocaaZShortRanksm
import Derived.Test.YtogoppejcmaocaaZShortRanksh
import Derived.Test.YtogoppejcmaocaaZShortRanksr
import Derived.Test.YtogoppejcmaocaaZShortRankss
/-! Part MShortest -/
section
namespace Go.Proofs.Ytogoppejcmaocaa.Q
open Go.RowKit Go.Proofs.YtogoppejcmaocaaW.PrintWords Go.Proofs.YtogoppejcmaocaaW.PrintLast Go.Proofs.YtogoppejcmaocaaW.PrintMore
set_option linter.unusedVariables false
set_option linter.unusedSectionVars false
/-! ### what Shortest and Rank return -/
theorem check_form {rows : List (List Int)} (h : validB rows = false) : short_check.f rows = some 1 := by
  unfold short_check.f auto_Valid.f
  rw [h]; rfl
theorem check_big {rows : List (List Int)} (h : validB rows = true) (hn : 12 < rows.length) : short_check.f rows = some 3 := by
  unfold short_check.f auto_Valid.f
  rw [h]
  show (if true = true then (if (rows.length : Int) > 12 then (some 3) else (some 0)) else (some 1)) = some 3
  rw [if_pos rfl, if_pos (by omega)]
theorem check_ok {rows : List (List Int)} (h : validB rows = true) (hn : rows.length ≤ 12) : short_check.f rows = some 0 := by
  unfold short_check.f auto_Valid.f
  rw [h]
  show (if true = true then (if (rows.length : Int) > 12 then (some 3) else (some 0)) else (some 1)) = some 0
  rw [if_pos rfl, if_neg (by omega)]
theorem rank_form {rows : List (List Int)} (h : validB rows = false) : Ev (fun k => short_Rank.f k rows) (0, [], 1) := by
  refine Ev.congr (f := fun _ => some (0, [], 1)) (fun k => ?_) (Ev.now _)
  unfold short_Rank.f
  rw [check_form h]; rfl
theorem rank_big {rows : List (List Int)} (h : validB rows = true) (hn : 12 < rows.length) : Ev (fun k => short_Rank.f k rows) (0, [], 3) := by
  refine Ev.congr (f := fun _ => some (0, [], 3)) (fun k => ?_) (Ev.now _)
  unfold short_Rank.f
  rw [check_big h hn]; rfl
section
variable {rows : List (List Int)} {n m : Nat} (V : VA rows n m) (hn : n ≤ 12)
include V
theorem rk_le (w : List Nat) : rk (nx rows) n w ≤ n := by
  unfold rk imgL
  exact Nat.le_trans (List.length_filter_le _ _) (by simp)
theorem rk_pos {w : List Nat} (hw : Wd m w) : 1 ≤ rk (nx rows) n w := by
  have h0 := V.n0
  have : run (nx rows) 0 w ∈ imgL (nx rows) n (List.range n) w := imgL_mem.2 ⟨V.runLt h0 hw, 0, List.mem_range.2 h0, rfl⟩
  exact List.length_pos_of_mem this
include hn
theorem bfs_len {q : List (Nat × List Nat)} (B : Bfs (mv (nx rows) n) m (2 ^ n) (2 ^ n - 1) (2 ^ n) q q.length 0) {e : Nat × List Nat} (he : e ∈ q) : e.2.length ≤ 4096 := by
  obtain ⟨j, hj⟩ := List.mem_iff_getElem?.1 he
  have h1 := B.le j e hj
  have h2 := (List.getElem?_eq_some_iff.1 hj).1
  have h3 := B.len
  have h4 := two_small V hn
  omega
theorem rank_ev : ∃ w, Wd m w ∧ (∀ v, Wd m v → rk (nx rows) n w ≤ rk (nx rows) n v) ∧ (∀ v, Wd m v → rk (nx rows) n v = rk (nx rows) n w → code m w ≤ code m v) ∧ w.length ≤ 4096 ∧ Ev (fun k => short_Rank.f k rows) ((rk (nx rows) n w : Int), toI w, 0) := by
  obtain ⟨q, B, hE⟩ := sets_ev V hn
  have hlen : rows.length = n := V.len
  have h0 := V.n0
  have lt : ∀ e ∈ q, e.1 < 2 ^ n := fun e he => (B.ok e he).1
  have cd : ∀ e ∈ q, card n e.1 = rk (nx rows) n e.2 := fun e he => by
    have h := B.ok e he
    rw [← run_card V h.2.1, h.2.2.1]
  have go : ∀ r : Int × List Int, rankS (qI q) ((n + 1 : Nat) : Int) (toI []) = some r → Ev (fun k => short_Rank.f k rows) (r.1, r.2, 0) := fun r hr => by
    have h1 : Ev (fun k => (short_sets.f k rows).bind fun L => (rankS L (wrap64 ((rows.length : Int) + 1)) []).bind fun p => some (p.1, p.2, (0 : Int))) (r.1, r.2, 0) := by
      refine Ev.bind hE (Ev.const ?_)
      rw [hlen, wrapS (by omega)]
      have hr' : rankS (qI q) ((n + 1 : Nat) : Int) [] = some r := hr
      rw [hr']; rfl
    refine h1.congr fun k => ?_
    unfold short_Rank.f
    rw [check_ok (validB_of V) (by omega)]
    rw [Option.bind_some, if_pos rfl, if_pos (by omega)]
  rcases rankS_ev (m := m) hn q (n + 1) [] lt B.sorted with ⟨h1, _⟩ | ⟨e, he, h1, h2, h3, h4⟩
  · exfalso
    have hq := List.mem_of_getElem? B.st
    have h5 := h1 _ hq
    rw [cd _ hq] at h5
    have h6 : n + 1 ≤ rk (nx rows) n [] := h5
    have := rk_le V ([] : List Nat)
    omega
  · refine ⟨e.2, (B.ok e he).2.1, ?_, ?_, bfs_len V hn B he, ?_⟩
    · intro v hv
      obtain ⟨a, ha, ha1, _⟩ := B.least v hv
      have := h2 a ha
      rw [cd e he, ha1, run_card V hv] at this
      exact this
    · intro v hv hr
      obtain ⟨a, ha, ha1, ha2⟩ := B.least v hv
      exact Nat.le_trans (h3 a ha (by rw [ha1, run_card V hv, cd e he]; exact hr)) ha2
    · have := go _ h4
      rw [cd e he] at this
      exact this
end
end Go.Proofs.Ytogoppejcmaocaa.Q
end
/-! Part MFirst -/
section
namespace Go.Proofs.Ytogoppejcmaocaa.Q
open Go.RowKit Go.Proofs.YtogoppejcmaocaaW.PrintWords Go.Proofs.YtogoppejcmaocaaW.PrintLast Go.Proofs.YtogoppejcmaocaaW.PrintMore
set_option linter.unusedVariables false
set_option linter.unusedSectionVars false
/-! ### the reference's search over sets -/
def isL (n s : Nat) : List Bool := (List.range n).map fun t => s.testBit t
theorem isL_len (n s : Nat) : (isL n s).length = n := by simp [isL]
theorem isL_rd {n s i : Nat} (h : i < n) : rdOf false (isL n s) (i : Int) = s.testBit i := by
  rw [rdBE (by rw [isL_len]; exact h)]; simp [isL]
theorem isL_congr {n a b : Nat} (h : ∀ t, t < n → a.testBit t = b.testBit t) : isL n a = isL n b :=
  List.map_congr_left fun t ht => h t (List.mem_range.1 ht)
theorem isL_set (n s t : Nat) : (isL n s).set t true = isL n (s ||| 2 ^ t) := by
  refine List.ext_getElem (by simp [isL]) fun i h1 h2 => ?_
  rw [List.getElem_set]
  simp only [isL, List.getElem_map, List.getElem_range, Nat.testBit_or, Nat.testBit_two_pow]
  by_cases h : t = i
  · simp [h]
  · simp [h]
theorem isL_zero (n : Nat) : List.replicate n false = isL n 0 := by
  refine List.ext_getElem (by simp [isL]) fun i h1 h2 => ?_
  simp [isL]
theorem isL_start (n i : Nat) : (isL n (2 ^ i - 1)).set i true = isL n (2 ^ (i + 1) - 1) := by
  rw [isL_set]
  refine isL_congr fun t _ => ?_
  rw [Nat.testBit_or, Nat.testBit_two_pow_sub_one, Nat.testBit_two_pow, Nat.testBit_two_pow_sub_one]
  rw [Bool.eq_iff_iff]
  simp
  omega
def cdA : List Bool → Nat → Nat
  | [], a => a
  | b :: l, a => cdA l (2 * a + b.toNat)
theorem cdA_lt : ∀ (l : List Bool) (a : Nat), cdA l a < (a + 1) * 2 ^ l.length
  | [], a => by simp [cdA]
  | b :: l, a => by
    have h := cdA_lt l (2 * a + b.toNat)
    have hb : b.toNat ≤ 1 := by cases b <;> simp
    have h2 : (2 * a + b.toNat + 1) * 2 ^ l.length ≤ (2 * (a + 1)) * 2 ^ l.length := Nat.mul_le_mul_right _ (by omega)
    have h3 : (a + 1) * 2 ^ (l.length + 1) = (2 * (a + 1)) * 2 ^ l.length := by
      rw [Nat.pow_succ', ← Nat.mul_assoc, Nat.mul_comm (a + 1) 2]
    show cdA l (2 * a + b.toNat) < (a + 1) * 2 ^ (l.length + 1)
    omega
theorem cdA_inj : ∀ (l l' : List Bool) (a a' : Nat), l.length = l'.length → cdA l a = cdA l' a' → a = a' ∧ l = l'
  | [], [], a, a', _, h => ⟨h, rfl⟩
  | b :: l, b' :: l', a, a', hl, h => by
    obtain ⟨h1, h2⟩ := cdA_inj l l' _ _ (by simpa using hl) h
    cases b <;> cases b' <;> simp at h1 <;> first | (exfalso; omega) | exact ⟨by omega, by rw [h2]⟩
  | [], _ :: _, _, _, hl, _ => by simp at hl
  | _ :: _, [], _, _, hl, _ => by simp at hl
theorem pow12 {i : Nat} (h : i ≤ 12) : 2 ^ i ≤ 4096 := Nat.le_trans (Nat.pow_le_pow_right (by decide : 0 < 2) h) (by decide)
theorem code_loop (l : List Bool) (h12 : l.length ≤ 12) : ∀ (e i a : Nat), i + e = l.length → a < 2 ^ i → Ev (fun k => mizmazeref04_code.l0 k l (a : Int) (i : Int)) ((cdA (l.drop i) a : Nat) : Int)
  | 0, i, a, he, ha => by
    refine Ev.step (f := fun _ => some (a : Int)) (fun k => by rw [mizmazeref04_code.l0, if_neg (by omega)]) (Ev.ret ?_)
    rw [List.drop_eq_nil_of_le (by omega)]; rfl
  | e + 1, i, a, he, ha => by
    have hlt : i < l.length := by omega
    have hp := pow12 (show i ≤ 12 by omega)
    have e2 : 2 ^ (i + 1) = 2 * 2 ^ i := Nat.pow_succ'
    have e1 : cdA (l.drop i) a = cdA (l.drop (i + 1)) (2 * a + l[i].toNat) := by
      rw [List.drop_eq_getElem_cons hlt]; rfl
    rw [e1]
    cases hb : l[i] with
    | true =>
      refine Ev.step (f := fun k => mizmazeref04_code.l0 k l ((2 * a + 1 : Nat) : Int) ((i + 1 : Nat) : Int)) (fun k => ?_) (code_loop l h12 e (i + 1) (2 * a + 1) (by omega) (by omega))
      rw [mizmazeref04_code.l0, if_pos (by omega), if_pos (by omega), rdBE hlt, hb, if_pos rfl, wrapS (by omega), wrapI (z := (a : Int) * 2) (by omega) (by omega), wrapI (by omega) (by omega)]
      congr 1; omega
    | false =>
      refine Ev.step (f := fun k => mizmazeref04_code.l0 k l ((2 * a : Nat) : Int) ((i + 1 : Nat) : Int)) (fun k => ?_) (code_loop l h12 e (i + 1) (2 * a) (by omega) (by omega))
      rw [mizmazeref04_code.l0, if_pos (by omega), if_pos (by omega), rdBE hlt, hb, if_neg (by simp), wrapS (by omega), wrapI (z := (a : Int) * 2) (by omega) (by omega)]
      congr 1; omega
def cdn (n s : Nat) : Nat := cdA (isL n s) 0
theorem cdn_lt (n s : Nat) : cdn n s < 2 ^ n := by
  have := cdA_lt (isL n s) 0
  rw [isL_len] at this
  unfold cdn; omega
theorem cdn_inj {n s t : Nat} (hs : s < 2 ^ n) (ht : t < 2 ^ n) (h : cdn n s = cdn n t) : s = t := by
  have h1 := (cdA_inj _ _ _ _ (by rw [isL_len, isL_len]) h).2
  refine Nat.eq_of_testBit_eq fun i => ?_
  by_cases hi : i < n
  · have := congrArg (fun l => rdOf false l (i : Int)) h1
    simp only [isL_rd hi] at this
    exact this
  · have e : 2 ^ n ≤ 2 ^ i := Nat.pow_le_pow_right (by decide) (by omega)
    rw [Nat.testBit_lt_two_pow (Nat.lt_of_lt_of_le hs e), Nat.testBit_lt_two_pow (Nat.lt_of_lt_of_le ht e)]
theorem cdn_ev {n : Nat} (hn : n ≤ 12) (s : Nat) : Ev (fun k => mizmazeref04_code.f k (isL n s)) ((cdn n s : Nat) : Int) := by
  have := code_loop (isL n s) (by rw [isL_len]; exact hn) n 0 0 (by rw [isL_len]; omega) (by simp)
  simpa [mizmazeref04_code.f, cdn] using this
theorem count_loop (l : List Bool) (h12 : l.length ≤ 12) : ∀ (e i c : Nat), i + e = l.length → c ≤ i → Ev (fun k => mizmazeref04_count.l0 k l (c : Int) (i : Int)) ((c + ((l.drop i).filter id).length : Nat) : Int)
  | 0, i, c, he, hc => by
    refine Ev.step (f := fun _ => some (c : Int)) (fun k => by rw [mizmazeref04_count.l0, if_neg (by omega)]) (Ev.ret ?_)
    rw [List.drop_eq_nil_of_le (by omega)]; simp
  | e + 1, i, c, he, hc => by
    have hlt : i < l.length := by omega
    rw [List.drop_eq_getElem_cons hlt]
    cases hb : l[i] with
    | true =>
      have := count_loop l h12 e (i + 1) (c + 1) (by omega) (by omega)
      refine Ev.step (f := fun k => mizmazeref04_count.l0 k l ((c + 1 : Nat) : Int) ((i + 1 : Nat) : Int)) (fun k => ?_) (Ev.eq this ?_)
      · rw [mizmazeref04_count.l0, if_pos (by omega), if_pos (by omega), rdBE hlt, hb, if_pos rfl, wrapS (by omega), wrapS (by omega)]
      · rw [List.filter_cons_of_pos (by rfl), List.length_cons]; omega
    | false =>
      have := count_loop l h12 e (i + 1) c (by omega) (by omega)
      refine Ev.step (f := fun k => mizmazeref04_count.l0 k l (c : Int) ((i + 1 : Nat) : Int)) (fun k => ?_) (Ev.eq this ?_)
      · rw [mizmazeref04_count.l0, if_pos (by omega), if_pos (by omega), rdBE hlt, hb, if_neg (by simp), wrapS (by omega)]
      · rw [List.filter_cons_of_neg (by simp)]
theorem count_ev {n : Nat} (hn : n ≤ 12) (s : Nat) : Ev (fun k => mizmazeref04_count.f k (isL n s)) ((card n s : Nat) : Int) := by
  have := count_loop (isL n s) (by rw [isL_len]; exact hn) n 0 0 (by rw [isL_len]; omega) (by omega)
  refine Ev.eq (Ev.congr (fun k => ?_) this) ?_
  · rfl
  · congr 1
    rw [List.drop_zero, Nat.zero_add]
    unfold isL card
    rw [List.filter_map, List.length_map]; rfl
def lvS (n : Nat) (q : List (Nat × List Nat)) : List S78 := q.map fun e => ⟨isL n e.1, toI e.2⟩
theorem lvS_at {n j : Nat} {q : List (Nat × List Nat)} {e : Nat × List Nat} (h : q[j]? = some e) : rd_T78 (lvS n q) (j : Int) = ⟨isL n e.1, toI e.2⟩ := by
  unfold rd_T78 lvS
  simp [List.getD_eq_getElem?_getD, h]
theorem lvS_len (n : Nat) (q : List (Nat × List Nat)) : (lvS n q).length = q.length := by simp [lvS]
structure MetOk (n : Nat) (q : List (Nat × List Nat)) (met : List Bool) : Prop where
  len : met.length = 2 ^ n
  is : ∀ s, s < 2 ^ n → (rdOf false met ((cdn n s : Nat) : Int) = true ↔ ∃ a ∈ q, a.1 = s)
theorem MetOk.put {n t : Nat} {q : List (Nat × List Nat)} {met : List Bool} (h : MetOk n q met) (ht : t < 2 ^ n) (w : List Nat) : MetOk n (q ++ [(t, w)]) (met.set (cdn n t) true) := by
  refine ⟨by rw [List.length_set]; exact h.len, fun s hs => ?_⟩
  have hl := cdn_lt n s
  rw [rdB_set (by rw [h.len]; exact hl)]
  by_cases e : cdn n t = cdn n s
  · rw [if_pos e]
    have := cdn_inj ht hs e
    subst this
    simp
  · rw [if_neg e, h.is s hs]
    constructor
    · rintro ⟨a, ha, h1⟩; exact ⟨a, List.mem_append_left _ ha, h1⟩
    · rintro ⟨a, ha, h1⟩
      rcases List.mem_append.1 ha with ha | ha
      · exact ⟨a, ha, h1⟩
      · simp at ha; subst ha; simp at h1; subst h1; exact absurd rfl e
section
variable {rows : List (List Int)} {n m : Nat} (V : VA rows n m) (hn : n ≤ 12)
include V hn
theorem move_loop {s x : Nat} (hx : x < m) : ∀ (e p : Nat), p + e = n → Ev (fun k => mizmazeref04_move.l0 k (isL n s) (x : Int) (isL n (mvA (nx rows) x s p)) (p : Int) rows) (isL n (mv (nx rows) n s x))
  | 0, p, he => by
    obtain rfl : p = n := by omega
    exact Ev.step (f := fun _ => some (isL p (mvA (nx rows) x s p))) (fun k => by rw [mizmazeref04_move.l0, if_neg (by rw [isL_len]; omega)]) (Ev.ret rfl)
  | e + 1, p, he => by
    have hp : p < n := by omega
    have hlen : rows.length = n := V.len
    have hrow : ((rd_L1 rows (p : Int)).length : Int) = m := by rw [V.row p hp]
    have ht := V.nxLt hp hx
    have hE := V.nxE hp hx
    have ih := move_loop (s := s) hx e (p + 1) (by omega)
    by_cases hb : s.testBit p = true
    · refine Ev.step (fun k => by rw [mizmazeref04_move.l0, if_pos (by rw [isL_len]; omega), if_pos (by omega), isL_rd hp, if_pos hb, if_pos (by omega), if_pos (by omega), if_pos (by omega), hE, if_pos (by omega), if_pos (by rw [isL_len]; omega), Int.toNat_natCast, isL_set, wrapS (by omega)]) ?_
      have e1 : mvA (nx rows) x s p ||| 2 ^ (nx rows p x) = mvA (nx rows) x s (p + 1) := by rw [mvA, if_pos hb]
      rw [e1]; exact ih
    · refine Ev.step (fun k => by rw [mizmazeref04_move.l0, if_pos (by rw [isL_len]; omega), if_pos (by omega), isL_rd hp, if_neg hb, wrapS (by omega)]) ?_
      have e1 : mvA (nx rows) x s p = mvA (nx rows) x s (p + 1) := by rw [mvA, if_neg hb]
      rw [e1]; exact ih
theorem move_ev (s : Nat) {x : Nat} (hx : x < m) : Ev (fun k => mizmazeref04_move.f k rows (isL n s) (x : Int)) (isL n (mv (nx rows) n s x)) := by
  have := move_loop V hn (s := s) hx n 0 (by omega)
  refine this.congr fun k => ?_
  unfold mizmazeref04_move.f
  rw [isL_len, if_pos (by omega), Int.toNat_natCast, if_pos (by omega), isL_zero]
  rfl
/-- What First returns. -/
def FirstSays (rows : List (List Int)) (n m most : Nat) (r : List Int × Bool) : Prop :=
  (∃ w, Wd m w ∧ rk (nx rows) n w ≤ most ∧ (∀ v, Wd m v → rk (nx rows) n v ≤ most → code m w ≤ code m v) ∧ w.length ≤ 4096 ∧ r = (toI w, true)) ∨
  ((∀ v, Wd m v → most < rk (nx rows) n v) ∧ r = ([], false))
/-- What holds before the i-th set met is looked at. -/
structure FirstI (rows : List (List Int)) (n m most : Nat) (D L X : List (Nat × List Nat)) (met : List Bool) (j x : Nat) : Prop where
  B : Bfs (mv (nx rows) n) m (2 ^ n) (2 ^ n - 1) (2 ^ n) (D ++ L ++ X) (D.length + j) x
  M : MetOk n (D ++ L ++ X) met
  no : ∀ (i : Nat) (e : Nat × List Nat), (D ++ L ++ X)[i]? = some e → i < D.length + j → most < card n e.1
theorem first_l3 {most j : Nat} {D L : List (Nat × List Nat)} {e0 : Nat × List Nat} (hj : L[j]? = some e0) (hno : most < card n e0.1)
    (nextI : ∀ X met, FirstI rows n m most D L X met (j + 1) 0 → ∃ r, FirstSays rows n m most r ∧ Ev (fun k => mizmazeref04_First.l2 k (most : Int) met (lvS n L) (lvS n X) ((j + 1 : Nat) : Int) rows) r) :
    ∀ (e x : Nat) (X : List (Nat × List Nat)) (met : List Bool), x + e = m → FirstI rows n m most D L X met j x → ∃ r, FirstSays rows n m most r ∧ Ev (fun k => mizmazeref04_First.l3 k (most : Int) met (lvS n L) (lvS n X) (j : Int) (x : Int) rows) r
  | 0, x, X, met, he, I => by
    obtain rfl : x = m := by omega
    have h12 := two_small V hn
    have hql := I.B.len
    have hjl := (List.getElem?_eq_some_iff.1 hj).1
    have hat : (D ++ L ++ X)[D.length + j]? = some e0 := by
      rw [List.append_assoc, List.getElem?_append_right (by omega), Nat.add_sub_cancel_left, List.getElem?_append_left hjl]; exact hj
    have hqq : (D ++ L ++ X).length = D.length + L.length + X.length := by simp; omega
    obtain ⟨r, hr, hE⟩ := nextI X met ⟨I.B.row hat, I.M, fun i e h1 h2 => by
      rcases Nat.lt_or_ge i (D.length + j) with h3 | h3
      · exact I.no i e h1 h3
      · obtain rfl : i = D.length + j := by omega
        rw [hat] at h1; obtain rfl := Option.some.inj h1; exact hno⟩
    refine ⟨r, hr, Ev.step (fun k => by rw [mizmazeref04_First.l3, V.letters, Option.bind_some, if_neg (by omega), wrapS (by omega)]) hE⟩
  | e + 1, x, X, met, he, I => by
    have hx : x < m := by omega
    have h6 := V.m6
    have h12 := two_small V hn
    have hql := I.B.len
    have hjl := (List.getElem?_eq_some_iff.1 hj).1
    have hat : (D ++ L ++ X)[D.length + j]? = some e0 := by
      rw [List.append_assoc, List.getElem?_append_right (by omega), Nat.add_sub_cancel_left, List.getElem?_append_left hjl]; exact hj
    have hqq : (D ++ L ++ X).length = D.length + L.length + X.length := by simp; omega
    have hmlt := mv_lt V hn (s := e0.1) hx
    have hcd := cdn_lt n (mv (nx rows) n e0.1 x)
    have hlw := I.B.le _ _ hat
    by_cases hm : ∃ b ∈ D ++ L ++ X, b.1 = mv (nx rows) n e0.1 x
    · obtain ⟨b, hb, hbe⟩ := hm
      have hmet := (I.M.is _ hmlt).2 ⟨b, hb, hbe⟩
      obtain ⟨r, hr, hE⟩ := first_l3 hj hno nextI e (x + 1) X met (by omega) ⟨I.B.old hat hb hbe, I.M, I.no⟩
      refine ⟨r, hr, Ev.step (fun k => by rw [mizmazeref04_First.l3, V.letters, Option.bind_some, if_pos (by omega), if_pos (by omega), if_pos (by rw [lvS_len]; omega), lvS_at hj]) ?_⟩
      refine Ev.bind (move_ev V hn e0.1 hx) (Ev.bind (cdn_ev hn _) ?_)
      refine hE.congr fun k => ?_
      rw [if_pos (by omega), if_pos (by rw [I.M.len]; omega), if_pos hmet, wrapS (by omega)]
    · have hno2 : ∀ b ∈ D ++ L ++ X, b.1 ≠ mv (nx rows) n e0.1 x := fun b hb h => hm ⟨b, hb, h⟩
      have hmet : ¬ rdOf false met ((cdn n (mv (nx rows) n e0.1 x) : Nat) : Int) = true := fun h => hm ((I.M.is _ hmlt).1 h)
      have hB := I.B.new hat hx hmlt hno2 (by omega)
      have hM := I.M.put hmlt (e0.2 ++ [x])
      rw [List.append_assoc (D ++ L)] at hB hM
      obtain ⟨r, hr, hE⟩ := first_l3 hj hno nextI e (x + 1) (X ++ [(mv (nx rows) n e0.1 x, e0.2 ++ [x])]) (met.set (cdn n (mv (nx rows) n e0.1 x)) true) (by omega) ⟨hB, hM, fun i a h1 h2 => by
        rw [← List.append_assoc (D ++ L), List.getElem?_append_left (by omega)] at h1
        exact I.no i a h1 h2⟩
      refine ⟨r, hr, Ev.step (fun k => by rw [mizmazeref04_First.l3, V.letters, Option.bind_some, if_pos (by omega), if_pos (by omega), if_pos (by rw [lvS_len]; omega), lvS_at hj]) ?_⟩
      refine Ev.bind (move_ev V hn e0.1 hx) (Ev.bind (cdn_ev hn _) ?_)
      refine Ev.congr (fun k => by rw [if_pos (by omega), if_pos (by rw [I.M.len]; omega), if_neg hmet]) ?_
      refine Ev.bind (cdn_ev hn _) ?_
      refine hE.congr fun k => ?_
      have e1 : lvS n (X ++ [(mv (nx rows) n e0.1 x, e0.2 ++ [x])]) = lvS n X ++ [⟨isL n (mv (nx rows) n e0.1 x), toI e0.2 ++ [(x : Int)]⟩] := by
        simp [lvS, toI_snoc]
      have e2 : (toI e0.2).length = e0.2.length := toI_len _
      dsimp only
      rw [if_pos (by omega), if_pos (by rw [I.M.len]; omega), Option.bind_some, if_pos (by rw [List.length_nil]; omega), Option.bind_some, List.nil_append, if_pos (by omega), if_pos (by rw [lvS_len]; simp at hqq hql; omega), wrapS (by omega), e1, Int.toNat_natCast]
theorem first_l2 (most : Nat) : ∀ (e : Nat) (D L X : List (Nat × List Nat)) (met : List Bool) (j : Nat), D.length + j + e = 2 ^ n + 1 → j ≤ L.length → FirstI rows n m most D L X met j 0 →
    ∃ r, FirstSays rows n m most r ∧ Ev (fun k => mizmazeref04_First.l2 k (most : Int) met (lvS n L) (lvS n X) (j : Int) rows) r
  | 0, D, L, X, met, j, he, hj, I => by
    exfalso
    have := I.B.len
    simp at this
    omega
  | e + 1, D, L, X, met, j, he, hj, I => by
    have h12 := two_small V hn
    have body : ∀ (D L X : List (Nat × List Nat)) (met : List Bool) (j : Nat), D.length + j + (e + 1) = 2 ^ n + 1 → j < L.length → FirstI rows n m most D L X met j 0 →
        ∃ r, FirstSays rows n m most r ∧ Ev (fun k => mizmazeref04_First.l2 k (most : Int) met (lvS n L) (lvS n X) (j : Int) rows) r := by
      intro D L X met j he hj I
      have hql := I.B.len
      have hqq : (D ++ L ++ X).length = D.length + L.length + X.length := by simp; omega
      obtain ⟨e0, h0⟩ : ∃ e0, L[j]? = some e0 := ⟨_, List.getElem?_eq_getElem hj⟩
      have hat : (D ++ L ++ X)[D.length + j]? = some e0 := by
        rw [List.append_assoc, List.getElem?_append_right (by omega), Nat.add_sub_cancel_left, List.getElem?_append_left hj]; exact h0
      have hok := I.B.ok e0 (List.mem_of_getElem? hat)
      have hlw := I.B.le _ _ hat
      by_cases hc : card n e0.1 ≤ most
      · refine ⟨(toI e0.2, true), Or.inl ⟨e0.2, hok.2.1, ?_, ?_, by omega, rfl⟩, Ev.step (fun k => by rw [mizmazeref04_First.l2, if_pos (by rw [lvS_len]; omega), if_pos (by omega), lvS_at h0]) (Ev.bind (count_ev hn _) (Ev.congr (fun k => by rw [if_pos (by omega)]) (Ev.now _)))⟩
        · rw [← run_card V hok.2.1, hok.2.2.1]; exact hc
        · intro v hv hr
          rcases I.B.front hat V.m0 v hv with h | ⟨a, ha, ha1, ha2⟩
          · have := Nat.le_mul_of_pos_left (code m e0.2) V.m0
            omega
          · obtain ⟨i, hi⟩ := List.mem_iff_getElem?.1 ha
            rcases Nat.lt_or_ge i (D.length + j) with h3 | h3
            · have := I.no i a hi h3
              rw [ha1, run_card V hv] at this
              omega
            · rcases Nat.lt_or_ge (D.length + j) i with h4 | h4
              · have := I.B.mono _ _ _ _ h4 hat hi; omega
              · obtain rfl : i = D.length + j := by omega
                rw [hat] at hi; obtain rfl := Option.some.inj hi; exact ha2
      · obtain ⟨r, hr, hE⟩ := first_l3 V hn h0 (by omega) (fun X' met' I' => first_l2 most e D L X' met' (j + 1) (by omega) (by omega) I') m 0 X met (by omega) I
        exact ⟨r, hr, Ev.step (fun k => by rw [mizmazeref04_First.l2, if_pos (by rw [lvS_len]; omega), if_pos (by omega), lvS_at h0]) (Ev.bind (count_ev hn _) (hE.congr fun k => by rw [if_neg (by omega)]; rfl))⟩
    rcases Nat.lt_or_ge j L.length with h1 | h1
    · exact body D L X met j he h1 I
    · obtain rfl : j = L.length := by omega
      rcases Nat.eq_zero_or_pos X.length with h2 | h2
      · have hX : X = [] := List.length_eq_zero_iff.1 h2
        subst hX
        refine ⟨([], false), Or.inr ⟨?_, rfl⟩, Ev.step (fun k => by rw [mizmazeref04_First.l2, if_neg (by rw [lvS_len]; omega)]) (Ev.step (f := fun _ => some ([], false)) (fun k => by rw [mizmazeref04_First.l1, if_neg (by rw [lvS_len]; simp)]) (Ev.now _))⟩
        intro v hv
        obtain ⟨a, ha, ha1⟩ := I.B.all (by simp) v hv
        obtain ⟨i, hi⟩ := List.mem_iff_getElem?.1 ha
        have hlt := (List.getElem?_eq_some_iff.1 hi).1
        have := I.no i a hi (by simpa using hlt)
        rw [ha1, run_card V hv] at this
        exact this
      · obtain ⟨r, hr, hE⟩ := body (D ++ L) X [] met 0 (by simp; omega) h2 ⟨by simpa using I.B, by simpa using I.M, by simpa using I.no⟩
        exact ⟨r, hr, Ev.step (fun k => by rw [mizmazeref04_First.l2, if_neg (by rw [lvS_len]; omega)]) (Ev.step (fun k => by rw [mizmazeref04_First.l1, if_pos (by rw [lvS_len]; omega)]; rfl) hE)⟩
theorem first_l0 (most : Nat) : ∀ (e i : Nat), i + e = n → ∃ r, FirstSays rows n m most r ∧ Ev (fun k => mizmazeref04_First.l0 k (most : Int) (isL n (2 ^ i - 1)) (i : Int) rows) r
  | 0, i, he => by
    obtain rfl : i = n := by omega
    have h12 := two_small V hn
    have h0 : 1 ≤ 2 ^ i := Nat.one_le_two_pow
    have hsh : shl .i64 1 (i : Int) = ((2 ^ i : Nat) : Int) := by
      unfold shl
      have h1 : min (i : Int).toNat IntKind.i64.bits = i := by show min i 64 = i; omega
      rw [h1, Int.one_mul, pow_cast]
      rw [IntKind.wrap_i64]; omega
    have hcd := cdn_lt i (2 ^ i - 1)
    have M0 : MetOk i [] (List.replicate (2 ^ i) false) := ⟨by simp, fun s hs => by
      rw [rdBE (by simp; exact cdn_lt i s)]; simp⟩
    have M := M0.put (t := 2 ^ i - 1) (by omega) []
    obtain ⟨r, hr, hE⟩ := first_l2 V hn most (2 ^ i + 1) [] [(2 ^ i - 1, [])] [] ((List.replicate (2 ^ i) false).set (cdn i (2 ^ i - 1)) true) 0 (by simp) (by simp) ⟨by simpa using Bfs.start (f := mv (nx rows) i) (m := m) (n := 2 ^ i) (s := 2 ^ i - 1) (t := 2 ^ i) (by omega) (by omega), by simpa using M, fun i e h1 h2 => by simp at h2⟩
    refine ⟨r, hr, Ev.step (fun k => by rw [mizmazeref04_First.l0, if_neg (by rw [isL_len]; omega), isL_len, hsh, if_pos (by omega), Int.toNat_natCast, if_pos (by omega), Option.bind_some]) ?_⟩
    refine Ev.bind (cdn_ev hn _) ?_
    refine Ev.congr (fun k => by rw [if_pos (by omega), if_pos (by rw [List.length_replicate]; omega), Int.toNat_natCast]) ?_
    exact Ev.step (fun k => by rw [mizmazeref04_First.l1, if_pos (by simp)]; rfl) hE
  | e + 1, i, he => by
    obtain ⟨r, hr, hE⟩ := first_l0 most e (i + 1) (by omega)
    exact ⟨r, hr, Ev.step (fun k => by rw [mizmazeref04_First.l0, if_pos (by rw [isL_len]; omega), if_pos (by omega), Int.toNat_natCast, isL_start, wrapS (by omega)]) hE⟩
theorem first_ev (most : Nat) : ∃ r, FirstSays rows n m most r ∧ Ev (fun k => mizmazeref04_First.f k rows (most : Int)) r := by
  obtain ⟨r, hr, hE⟩ := first_l0 V hn most n 0 (by omega)
  refine ⟨r, hr, hE.congr fun k => ?_⟩
  have hlen : rows.length = n := V.len
  unfold mizmazeref04_First.f
  rw [hlen, if_pos (by omega), Int.toNat_natCast, if_pos (by omega), isL_zero]
  rfl
end
end Go.Proofs.Ytogoppejcmaocaa.Q
end
/-! Part MRank -/
section
namespace Go.Proofs.Ytogoppejcmaocaa.Q
open Go.RowKit Go.Proofs.YtogoppejcmaocaaW.PrintWords Go.Proofs.YtogoppejcmaocaaW.PrintLast Go.Proofs.YtogoppejcmaocaaW.PrintMore
set_option linter.unusedVariables false
set_option linter.unusedSectionVars false
/-! ### the reference's rank -/
theorem imgL_app {f : Nat → Nat → Nat} {n : Nat} {u w : List Nat} (h : ∀ s, s < n → run f s u < n) : imgL f n (imgL f n (List.range n) u) w = imgL f n (List.range n) (u ++ w) := by
  unfold imgL
  apply List.filter_congr
  intro t ht
  rw [decide_eq_decide]
  constructor
  · intro h1
    obtain ⟨s, hs, e⟩ := List.mem_map.1 h1
    have hs' : s ∈ imgL f n (List.range n) u := hs
    obtain ⟨_, p, hp, rfl⟩ := imgL_mem.1 hs'
    exact List.mem_map.2 ⟨p, hp, by rw [run_app]; exact e⟩
  · intro h1
    obtain ⟨p, hp, e⟩ := List.mem_map.1 h1
    have : run f p u ∈ imgL f n (List.range n) u := imgL_mem.2 ⟨h p (List.mem_range.1 hp), p, hp, rfl⟩
    exact List.mem_map.2 ⟨run f p u, this, by rw [run_app] at e; exact e⟩
section
variable {rows : List (List Int)} {n m : Nat} (V : VA rows n m)
def RankSays (f : Nat → Nat → Nat) (n m : Nat) (r : Int) : Prop := ∃ u, Wd m u ∧ (∀ v, Wd m v → rk f n u ≤ rk f n v) ∧ r = (rk f n u : Int)
include V
theorem rk_shrink {u w : List Nat} (hu : Wd m u) (hw : Wd m w) {i b : Nat} (hi : i < (imgL (nx rows) n (List.range n) u).length) (hb : b < (imgL (nx rows) n (List.range n) u).length) (hne : b ≠ i)
    (he : run (nx rows) (imgL (nx rows) n (List.range n) u)[i] w = run (nx rows) (imgL (nx rows) n (List.range n) u)[b] w) : rk (nx rows) n (u ++ w) < rk (nx rows) n u := by
  have e1 := imgL_app (f := nx rows) (n := n) (w := w) fun s hs => V.runLt hs hu
  have nd : (imgL (nx rows) n (List.range n) (u ++ w)).Nodup := (imgL_srt _ _ _ _).imp fun h => Nat.ne_of_lt h
  have hsub : ∀ x ∈ imgL (nx rows) n (List.range n) (u ++ w), x ∈ ((imgL (nx rows) n (List.range n) u).eraseIdx i).map fun s => run (nx rows) s w := by
    intro x hx
    rw [← e1] at hx
    obtain ⟨_, s, hs, rfl⟩ := imgL_mem.1 hx
    obtain ⟨c, hc, rfl⟩ := List.getElem_of_mem hs
    by_cases hci : c = i
    · subst hci
      refine List.mem_map.2 ⟨(imgL (nx rows) n (List.range n) u)[b], ?_, he.symm⟩
      rw [List.mem_eraseIdx_iff_getElem]
      exact ⟨b, hb, hne, rfl⟩
    · refine List.mem_map.2 ⟨(imgL (nx rows) n (List.range n) u)[c], ?_, rfl⟩
      rw [List.mem_eraseIdx_iff_getElem]
      exact ⟨c, hc, hci, rfl⟩
  have := nodup_sub nd hsub
  rw [List.length_map, List.length_eraseIdx_of_lt hi] at this
  unfold rk
  omega
theorem rank_l2 {tab : List (List Int)} (T : TabOk (nx rows) m n tab) {Q : List Nat} (hlt : ∀ x ∈ Q, x < n) (hQl : Q.length ≤ n) {i : Nat} (hi : i < Q.length)
    (found : ∀ (b : Nat) (hb : b < i) (w : List Nat), LM (nx rows) m Q[i] Q[b] w → ∃ r, RankSays (nx rows) n m r ∧ Ev (fun k => mizmazeref04_Rank.l0 k tab (toI (imgL (nx rows) n Q w)) true rows) r)
    (rowI : (∀ (b : Nat) (hb : b < i), ¬ Mg (nx rows) m Q[i] Q[b]) → ∃ r, RankSays (nx rows) n m r ∧ Ev (fun k => mizmazeref04_Rank.l1 k tab (toI Q) false ((i + 1 : Nat) : Int) rows) r) :
    ∀ (e j : Nat), j + e = i → (∀ (b : Nat) (hbQ : b < Q.length) (hb : b < j), ¬ Mg (nx rows) m Q[i] Q[b]) → ∃ r, RankSays (nx rows) n m r ∧ Ev (fun k => mizmazeref04_Rank.l2 k tab (toI Q) false (i : Int) (j : Int) rows) r
  | 0, j, he, hno => by
    obtain rfl : j = i := by omega
    have h60 := V.n60
    obtain ⟨r, hr, hE⟩ := rowI fun b hb => hno b (by omega) hb
    refine ⟨r, hr, Ev.step (fun k => by rw [mizmazeref04_Rank.l2, if_neg (by omega)]) (Ev.step (fun k => by rw [mizmazeref04_Rank.j4, if_neg (by simp), wrapS (by omega)]) hE)⟩
  | e + 1, j, he, hno => by
    have h60 := V.n60
    have hj : j < Q.length := by omega
    have hi1 := hlt _ (List.getElem_mem hi)
    have hj1 := hlt _ (List.getElem_mem hj)
    have head : ∀ (g : Nat → Option Int) (r : Int), Ev g r → (∀ k, ((mizmazeref03_Word.f k rows tab ((Q[i] : Nat) : Int) ((Q[j] : Nat) : Int)).bind fun bt417 => (if bt417.2 = true then ((mizmazeref01_Image.f k rows (toI Q) bt417.1).bind fun t421 => (mizmazeref04_Rank.l2 k tab t421 true (i : Int) (wrap64 ((j : Int) + 1)) rows)) else (mizmazeref04_Rank.l2 k tab (toI Q) false (i : Int) (wrap64 ((j : Int) + 1)) rows))) = g k) → Ev (fun k => mizmazeref04_Rank.l2 k tab (toI Q) false (i : Int) (j : Int) rows) r := by
      intro g r hg hh
      refine Ev.step (fun k => by rw [mizmazeref04_Rank.l2, if_pos (by omega)]) (Ev.step (fun k => ?_) hg)
      rw [mizmazeref04_Rank.j4, if_pos (by simp), if_pos (by omega), if_pos (by rw [toI_len]; omega), if_pos (by omega), if_pos (by rw [toI_len]; omega), toI_rd hi, toI_rd hj, hh]
    rcases ref_word V T hi1 hj1 with ⟨w, hw, hE⟩ | ⟨hm, hE⟩
    · obtain ⟨r, hr, hF⟩ := found j (by omega) w hw
      have hwl := MDist.small V hi1 hj1 (hw.dist V.m0)
      refine ⟨r, hr, head _ r (Ev.bind hE ?_) fun k => rfl⟩
      simp only [if_true]
      refine Ev.bind (ref_image V hlt (by omega) hw.wd (by omega)) ?_
      -- the rest of the two loops does nothing
      have l1 : ∀ z : Nat, z ≤ 100 → Ev (fun k => mizmazeref04_Rank.l1 k tab (toI (imgL (nx rows) n Q w)) true (z : Int) rows) r := by
        intro z hz
        refine Ev.next ?_
        refine Ev.congr (f := fun k => mizmazeref04_Rank.j2 k tab (toI (imgL (nx rows) n Q w)) true (z : Int) false rows) (fun k => ?_) (Ev.step (fun k => by rw [mizmazeref04_Rank.j2, if_neg (by simp)]) hF)
        rw [mizmazeref04_Rank.l1]
        by_cases c : (z : Int) < ((toI (imgL (nx rows) n Q w)).length : Int)
        · rw [if_pos c]; rfl
        · rw [if_neg c]
      rw [wrapS (by omega)]
      refine Ev.next ?_
      refine Ev.congr (f := fun k => mizmazeref04_Rank.j4 k tab (toI (imgL (nx rows) n Q w)) true (i : Int) ((j + 1 : Nat) : Int) false rows) (fun k => ?_) (Ev.step (fun k => by rw [mizmazeref04_Rank.j4, if_neg (by simp), wrapS (by omega)]) (l1 (i + 1) (by omega)))
      rw [mizmazeref04_Rank.l2]
      by_cases c : ((j + 1 : Nat) : Int) < (i : Int)
      · rw [if_pos c]; rfl
      · rw [if_neg c]
    · obtain ⟨r, hr, hF⟩ := rank_l2 T hlt hQl hi found rowI e (j + 1) (by omega) (fun b hbQ hb => by
        rcases Nat.lt_or_ge b j with h | h
        · exact hno b hbQ h
        · obtain rfl : b = j := by omega
          exact hm)
      refine ⟨r, hr, head _ r (Ev.bind hE ?_) fun k => rfl⟩
      simp only [Bool.false_eq_true, if_false, wrapS (show j + 1 ≤ 9223372036854775807 by omega)]
      exact hF
theorem rank_l1 {tab : List (List Int)} (T : TabOk (nx rows) m n tab) {u : List Nat} (hu : Wd m u)
    (again : ∀ w, Wd m w → rk (nx rows) n (u ++ w) < rk (nx rows) n u → ∃ r, RankSays (nx rows) n m r ∧ Ev (fun k => mizmazeref04_Rank.l0 k tab (toI (imgL (nx rows) n (List.range n) (u ++ w))) true rows) r) :
    ∀ (e i : Nat), i + e = (imgL (nx rows) n (List.range n) u).length → (∀ (a b : Nat) (ha : a < (imgL (nx rows) n (List.range n) u).length), a < i → (hb : b < a) → ¬ Mg (nx rows) m (imgL (nx rows) n (List.range n) u)[a] (imgL (nx rows) n (List.range n) u)[b]) →
    ∃ r, RankSays (nx rows) n m r ∧ Ev (fun k => mizmazeref04_Rank.l1 k tab (toI (imgL (nx rows) n (List.range n) u)) false (i : Int) rows) r
  | 0, i, he, hno => by
    refine ⟨_, ⟨u, hu, ?_, rfl⟩, Ev.step (fun k => by rw [mizmazeref04_Rank.l1, if_neg (by rw [toI_len]; omega)]) (Ev.step (fun k => by rw [mizmazeref04_Rank.j2, if_neg (by simp)]) (Ev.step (f := fun _ => some _) (fun k => by rw [mizmazeref04_Rank.l0, if_neg (by simp), toI_len]; rfl) (Ev.now _)))⟩
    intro v hv
    have hsrt := imgL_srt (nx rows) n (List.range n) u
    have nd : ((imgL (nx rows) n (List.range n) u).map fun s => run (nx rows) s v).Nodup := by
      unfold List.Nodup
      rw [List.pairwise_map, List.pairwise_iff_getElem]
      intro a b ha hb hab h
      exact hno b a hb (by omega) hab ⟨v, hv, h.symm⟩
    have := nodup_sub (T := imgL (nx rows) n (List.range n) v) nd (by
      intro x hx
      obtain ⟨s, hs, rfl⟩ := List.mem_map.1 hx
      obtain ⟨hs1, _⟩ := imgL_mem.1 hs
      exact imgL_mem.2 ⟨V.runLt hs1 hv, s, List.mem_range.2 hs1, rfl⟩)
    rw [List.length_map] at this
    exact this
  | e + 1, i, he, hno => by
    have hi : i < (imgL (nx rows) n (List.range n) u).length := by omega
    have hrl := rk_le V u
    have hlt : ∀ x ∈ imgL (nx rows) n (List.range n) u, x < n := fun x hx => (imgL_mem.1 hx).1
    have lt : ∀ s, s < n → run (nx rows) s u < n := fun s hs => V.runLt hs hu
    obtain ⟨r, hr, hE⟩ := rank_l2 V T hlt hrl hi (fun b hb w hw => by
        rw [imgL_app (w := w) lt]
        refine again w hw.wd ?_
        exact rk_shrink V hu hw.wd hi (by omega) (by omega) hw.ends) (fun hrow => rank_l1 T hu again e (i + 1) (by omega) (fun a b ha hai hb => by
          rcases Nat.lt_or_ge a i with h | h
          · exact hno a b ha h hb
          · obtain rfl : a = i := by omega
            exact hrow b hb)) i 0 (by omega) (fun b hbQ hb => by omega)
    exact ⟨r, hr, Ev.step (fun k => by rw [mizmazeref04_Rank.l1, if_pos (by rw [toI_len]; omega)]) (Ev.step (fun k => by rw [mizmazeref04_Rank.j2, if_pos (by simp)]; rfl) hE)⟩
theorem rank_l0 {tab : List (List Int)} (T : TabOk (nx rows) m n tab) : ∀ (e : Nat) (u : List Nat), rk (nx rows) n u ≤ e → Wd m u → ∃ r, RankSays (nx rows) n m r ∧ Ev (fun k => mizmazeref04_Rank.l0 k tab (toI (imgL (nx rows) n (List.range n) u)) true rows) r
  | 0, u, he, hu => by have := rk_pos V hu; omega
  | e + 1, u, he, hu => by
    obtain ⟨r, hr, hE⟩ := rank_l1 V T hu (fun w hw h => rank_l0 T e (u ++ w) (by omega) (hu.app hw)) _ 0 (Nat.zero_add _) (fun a b ha h0 hb => by omega)
    exact ⟨r, hr, Ev.step (fun k => by rw [mizmazeref04_Rank.l0, if_pos rfl]; rfl) hE⟩
theorem ref_rank : ∃ r, RankSays (nx rows) n m r ∧ Ev (fun k => mizmazeref04_Rank.f k rows) r := by
  have h60 := V.n60
  have hlen : rows.length = n := V.len
  obtain ⟨tab, T, hT⟩ := ref_table V
  obtain ⟨r, hr, hE⟩ := rank_l0 V T n [] (rk_le V []) (Wd.nil m)
  have e1 : imgL (nx rows) n (List.range n) [] = List.range n := by
    unfold imgL
    rw [List.filter_eq_self]
    intro t ht
    simpa [run] using ht
  rw [e1] at hE
  refine ⟨r, hr, ?_⟩
  unfold mizmazeref04_Rank.f
  refine Ev.bind hT ?_
  rw [hlen]
  exact Ev.bind (ref_all n (by omega)) hE
end
end Go.Proofs.Ytogoppejcmaocaa.Q
end
/-! Part PureShortRanks -/
section
namespace Go.Proofs.Ytogoppejcmaocaa.Pure
open Go.RowKit Go.Proofs.YtogoppejcmaocaaW.PrintWords Go.Proofs.YtogoppejcmaocaaW.PrintLast Go.Proofs.YtogoppejcmaocaaW.PrintMore Go.Proofs.Ytogoppejcmaocaa.Q
set_option linter.unusedVariables false
set_option linter.unusedSectionVars false
set_option linter.unusedSimpArgs false
theorem ShortRanks : Q.mizmazelaw04_ShortRanks.Pure := by
  intro rows ho
  refine Ev.rounds (g := fun k => mizmazelaw04_ShortRanks.f k rows) ?_
  unfold mizmazelaw04_ShortRanks.f
  cases hv : validB rows with
  | false =>
    refine Ev.bind (rank_form hv) (Ev.bind (ref_valid rows ho) ?_)
    rw [hv]
    simp only [Bool.false_eq_true, if_false, if_true, List.length_nil, Int.natCast_zero]
    exact awake4_end
  | true =>
    have V := VA.of' hv
    generalize hn : rows.length = n at V
    generalize hm : (rd_L1 rows 0).length = m at V
    by_cases h12 : n > 12
    · refine Ev.bind (rank_big hv (by omega)) (Ev.bind (ref_valid rows ho) ?_)
      rw [hv]
      simp only [if_true, if_pos (show (n : Int) > 12 by omega), List.length_nil, Int.natCast_zero]
      exact awake4_end
    have hle : n ≤ 12 := by omega
    obtain ⟨w, hw, hmin, hcode, hwl, hR⟩ := rank_ev V hle
    refine Ev.bind hR (Ev.bind (ref_valid rows ho) ?_)
    rw [hv]
    simp only [if_true, if_neg (show ¬ (n : Int) > 12 by omega)]
    obtain ⟨r, ⟨u, hu, humin, rfl⟩, hK⟩ := ref_rank V
    refine Ev.bind hK ?_
    have e1 : rk (nx rows) n u = rk (nx rows) n w := Nat.le_antisymm (humin w hw) (hmin u hu)
    rw [e1]
    obtain ⟨r, hr, hF⟩ := first_ev V hle (rk (nx rows) n w)
    refine Ev.bind hF ?_
    rcases hr with ⟨w', hw', hr', hmin', hwl', rfl⟩ | ⟨hno, _⟩
    · have e : w' = w := code_inj _ _ hw' hw (Nat.le_antisymm (hmin' w hw (Nat.le_refl _)) (hcode w' hw' (Nat.le_antisymm hr' (hmin w' hw'))))
      subst e
      simp only [if_true]
      refine Ev.bind (ref_same _ _ (by rw [toI_len]; omega)) ?_
      rw [decide_eq_true rfl]
      simp only [if_true]
      exact awake4_end
    · have := hno w hw; omega
end Go.Proofs.Ytogoppejcmaocaa.Pure
end
