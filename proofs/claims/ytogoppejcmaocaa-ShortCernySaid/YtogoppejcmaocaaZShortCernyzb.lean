/- The law ShortCerny holds: Cerny returns the documented automaton, or the documented error, for any number, and its shortest reset word has (n - 1)^2 letters, for n up to MaxSmall; no bound on the argument beyond its type's. (text 28 of 29) -/
import Derived.Test.YtogoppejcmaocaaZShortCernyza
import Derived.Test.YtogoppejcmaocaaZShortCernyx
import Derived.Test.YtogoppejcmaocaaZShortCernyh
import Derived.Test.YtogoppejcmaocaaZShortCernyf
/-! Part MShortest -/
section
namespace Go.Proofs.Ytogoppejcmaocaa.Q
open Go.RowKit Go.Proofs.YtogoppejcmaocaaW.PrintWords Go.Proofs.YtogoppejcmaocaaW.PrintLast Go.Proofs.YtogoppejcmaocaaW.PrintMore
set_option linter.unusedVariables false
set_option linter.unusedSectionVars false
/-! ### what Shortest and Rank return -/
theorem check_big {rows : List (List Int)} (h : validB rows = true) (hn : 12 < rows.length) : short_check.f rows = some 3 := by
  unfold short_check.f auto_Valid.f
  rw [h]
  show (if true = true then (if (rows.length : Int) > 12 then (some 3) else (some 0)) else (some 1)) = some 3
  rw [if_pos rfl, if_pos (by omega)]
theorem check_ok {rows : List (List Int)} (h : validB rows = true) (hn : rows.length ≤ 12) : short_check.f rows = some 0 := by
  unfold short_check.f auto_Valid.f
  rw [h]
  show (if true = true then (if (rows.length : Int) > 12 then (some 3) else (some 0)) else (some 1)) = some 0
  rw [if_pos rfl, if_neg (by omega)]
theorem shortest_big {rows : List (List Int)} (h : validB rows = true) (hn : 12 < rows.length) : Ev (fun k => short_Shortest.f k rows) ([], 3) := by
  refine Ev.congr (f := fun _ => some ([], 3)) (fun k => ?_) (Ev.now _)
  unfold short_Shortest.f
  rw [check_big h hn]; rfl
section
variable {rows : List (List Int)} {n m : Nat} (V : VA rows n m) (hn : n ≤ 12)
include V
theorem VA.valid : validB rows = true := validB_of V
include hn
theorem bfs_len {q : List (Nat × List Nat)} (B : Bfs (mv (nx rows) n) m (2 ^ n) (2 ^ n - 1) (2 ^ n) q q.length 0) {e : Nat × List Nat} (he : e ∈ q) : e.2.length ≤ 4096 := by
  obtain ⟨j, hj⟩ := List.mem_iff_getElem?.1 he
  have h1 := B.le j e hj
  have h2 := (List.getElem?_eq_some_iff.1 hj).1
  have h3 := B.len
  have h4 := two_small V hn
  omega
theorem shortest_ev : (∃ w, Wd m w ∧ rk (nx rows) n w = 1 ∧ (∀ v, Wd m v → rk (nx rows) n v = 1 → code m w ≤ code m v) ∧ w.length ≤ 4096 ∧ Ev (fun k => short_Shortest.f k rows) (toI w, 0)) ∨
    ((∀ v, Wd m v → rk (nx rows) n v ≠ 1) ∧ Ev (fun k => short_Shortest.f k rows) ([], 4)) := by
  obtain ⟨q, B, hE⟩ := sets_ev V hn
  have hlen : rows.length = n := V.len
  have h0 := V.n0
  have go : ∀ r, firstS (qI q) = some r → Ev (fun k => short_Shortest.f k rows) r := fun r hr => by
    have h1 : Ev (fun k => (short_sets.f k rows).bind firstS) r := Ev.bind hE (Ev.const hr)
    refine h1.congr fun k => ?_
    unfold short_Shortest.f
    rw [check_ok (validB_of V) (by omega)]
    rw [Option.bind_some, if_pos rfl, if_pos (by omega)]
  have lt : ∀ e ∈ q, e.1 < 2 ^ n := fun e he => (B.ok e he).1
  have cd : ∀ e ∈ q, card n e.1 = rk (nx rows) n e.2 := fun e he => by
    have h := B.ok e he
    rw [← run_card V h.2.1, h.2.2.1]
  rcases firstS_ev (m := m) hn q lt B.sorted with ⟨e, he, h1, h2, h3⟩ | ⟨h1, h2⟩
  · refine Or.inl ⟨e.2, (B.ok e he).2.1, by rw [← cd e he]; exact h1, ?_, bfs_len V hn B he, go _ h3⟩
    intro v hv hr
    obtain ⟨a, ha, ha1, ha2⟩ := B.least v hv
    have : card n a.1 = 1 := by rw [ha1, run_card V hv]; exact hr
    exact Nat.le_trans (h2 a ha this) ha2
  · refine Or.inr ⟨?_, go _ h2⟩
    intro v hv hr
    obtain ⟨a, ha, ha1, _⟩ := B.least v hv
    exact h1 a ha (by rw [ha1, run_card V hv]; exact hr)
end
end Go.Proofs.Ytogoppejcmaocaa.Q
end
/-! Part MCernyEv -/
section
namespace Go.Proofs.Ytogoppejcmaocaa.Q
open Go.RowKit Go.Proofs.YtogoppejcmaocaaW.PrintWords Go.Proofs.YtogoppejcmaocaaW.PrintLast Go.Proofs.YtogoppejcmaocaaW.PrintMore
set_option linter.unusedVariables false
/-! ### what Cerny returns -/
def cRow (n s : Nat) : List Int := [(((s + 1) % n : Nat) : Int), ((s % (n - 1) : Nat) : Int)]
def cRows (n : Nat) : List (List Int) := (List.range n).map (cRow n)
theorem cRows_len (n : Nat) : (cRows n).length = n := by simp [cRows]
theorem cRows_at {n s : Nat} (hs : s < n) : rd_L1 (cRows n) (s : Int) = cRow n s := by
  rw [rdLE (by rw [cRows_len]; exact hs)]
  simp [cRows]
theorem tmodN (a b : Nat) : Int.tmod (a : Int) (b : Int) = ((a % b : Nat) : Int) := rfl
theorem cerny_loop {n : Nat} (h2 : 2 ≤ n) (h60 : n ≤ 60) : ∀ (e i : Nat), i + e = n → Ev (fun k => short_Cerny.l0 k (n : Int) (n : Int) (i : Int) ((List.range i).map (cRow n))) (cRows n, 0)
  | 0, i, he => by
    obtain rfl : i = n := by omega
    exact Ev.step (f := fun _ => some (cRows i, 0)) (fun k => by rw [short_Cerny.l0, if_neg (by omega)]; rfl) (Ev.ret rfl)
  | e + 1, i, he => by
    have ih := cerny_loop h2 h60 e (i + 1) (by omega)
    refine Ev.step (fun k => ?_) ih
    have e1 : wrap64 ((n : Int) - 1) = ((n - 1 : Nat) : Int) := by rw [wrapI (by omega) (by omega)]; omega
    rw [short_Cerny.l0, if_pos (by omega), if_neg (by omega), e1, if_neg (by omega), if_pos (by simp; omega), wrapS (by omega), tmodN, tmodN, List.range_succ, List.map_append]
    rfl
theorem cerny_ev {n : Nat} (h2 : 2 ≤ n) (h60 : n ≤ 60) : Ev (fun k => short_Cerny.f k (n : Int)) (cRows n, 0) := by
  have := cerny_loop h2 h60 n 0 (by omega)
  refine Ev.congr (f := fun k => short_Cerny.j0 k (n : Int) false) (fun k => ?_) ?_
  · unfold short_Cerny.f
    rw [if_neg (by omega), decide_eq_false (by omega)]
  · exact Ev.step (fun k => by rw [short_Cerny.j0, if_neg (by decide)]; rfl) this
theorem cerny_bad {a : Int} (h : a < 2 ∨ a > 60) : Ev (fun k => short_Cerny.f k a) ([], 2) := by
  refine Ev.congr (f := fun k => short_Cerny.j0 k a true) (fun k => ?_) ?_
  · unfold short_Cerny.f
    by_cases c : a < 2
    · rw [if_pos c]
    · rw [if_neg c, decide_eq_true (by omega)]
  · exact Ev.step (f := fun _ => some ([], 2)) (fun k => by rw [short_Cerny.j0, if_pos rfl]) (Ev.ret rfl)
theorem cRows_va {n : Nat} (h2 : 2 ≤ n) (h60 : n ≤ 60) : VA (cRows n) n 2 where
  len := cRows_len n
  n0 := by omega
  n60 := h60
  m0 := by omega
  m6 := by omega
  row := fun s hs => by rw [cRows_at hs]; rfl
  ent := fun s hs => by
    rw [cRows_at hs]
    have h1 := Nat.mod_lt (s + 1) (show n > 0 by omega)
    have h3 := Nat.mod_lt s (show n - 1 > 0 by omega)
    rw [inB_iff]
    intro i hi
    have hi2 : i < 2 := hi
    rcases Nat.lt_or_ge i 1 with h | h
    · obtain rfl : i = 0 := by omega
      show (0 : Int) ≤ (((s + 1) % n : Nat) : Int) ∧ _
      exact ⟨by omega, by show (((s + 1) % n : Nat) : Int) < n; omega⟩
    · obtain rfl : i = 1 := by omega
      show (0 : Int) ≤ ((s % (n - 1) : Nat) : Int) ∧ _
      exact ⟨by omega, by show ((s % (n - 1) : Nat) : Int) < n; omega⟩
theorem cRows_cy {n : Nat} (h2 : 2 ≤ n) : Cy (nx (cRows n)) n where
  a := fun s hs => by
    unfold nx
    rw [cRows_at hs]
    show ((((s + 1) % n : Nat) : Int)).toNat = _
    omega
  b := fun s hs => by
    unfold nx
    rw [cRows_at hs]
    show (((s % (n - 1) : Nat) : Int)).toNat = _
    rw [Int.toNat_natCast]
    by_cases c : s = n - 1
    · rw [if_pos c, c, Nat.mod_self]
    · rw [if_neg c]; exact Nat.mod_eq_of_lt (by omega)
theorem rk_one {f : Nat → Nat → Nat} {n : Nat} {w : List Nat} (hlt : ∀ s, s < n → run f s w < n) (h : rk f n w = 1) : ∃ t, t < n ∧ ∀ s, s < n → run f s w = t := by
  obtain ⟨t, ht⟩ := List.length_eq_one_iff.1 h
  have hm : ∀ s, s < n → run f s w = t := fun s hs => by
    have : run f s w ∈ imgL f n (List.range n) w := imgL_mem.2 ⟨hlt s hs, s, List.mem_range.2 hs, rfl⟩
    rw [ht] at this
    exact List.mem_singleton.1 this
  have : t ∈ imgL f n (List.range n) w := by rw [ht]; exact List.mem_singleton.2 rfl
  exact ⟨t, (imgL_mem.1 this).1, hm⟩
theorem rk_of {f : Nat → Nat → Nat} {n t : Nat} {w : List Nat} (hn : 0 < n) (ht : t < n) (h : ∀ s, s < n → run f s w = t) : rk f n w = 1 := by
  unfold rk
  rw [imgL_one hn ht (fun s hs => h s (List.mem_range.1 hs)) ⟨0, List.mem_range.2 hn⟩]
  rfl
theorem run_same {f g : Nat → Nat → Nat} {n m : Nat} (hg : ∀ s x, s < n → x < m → g s x < n) (h : ∀ s x, s < n → x < m → f s x = g s x) : ∀ (w : List Nat) (s : Nat), s < n → Wd m w → run f s w = run g s w
  | [], s, _, _ => rfl
  | x :: w, s, hs, hw => by
    show run f (f s x) w = run g (g s x) w
    have hx := hw.head
    rw [h s x hs hx]
    exact run_same hg h w _ (hg s x hs hx) hw.tail
/-- The shortest reset word of Cerny's automaton. -/
theorem cerny_shortest {n : Nat} (h2 : 2 ≤ n) (h12 : n ≤ 12) : ∃ w, Wd 2 w ∧ rk (nx (cRows n)) n w = 1 ∧ w.length = (n - 1) * (n - 1) ∧ Ev (fun k => short_Shortest.f k (cRows n)) (toI w, 0) := by
  have V := cRows_va h2 (show n ≤ 60 by omega)
  have C := cRows_cy h2
  obtain ⟨k1, k2, k3⟩ := cyw_ok n (by omega) h2
  have hw0 : Wd 2 (cyw n) := fun x hx => by simpa using List.all_eq_true.1 k2 x hx
  have hgl : ∀ s x, s < n → x < 2 → cyf n s x < n := fun s x hs hx => by
    unfold cyf
    split
    · exact Nat.mod_lt _ (by omega)
    · split <;> omega
  have hsame : ∀ s x, s < n → x < 2 → nx (cRows n) s x = cyf n s x := fun s x hs hx => by
    unfold cyf
    rcases Nat.lt_or_ge x 1 with h | h
    · obtain rfl : x = 0 := by omega
      rw [if_pos rfl, C.a s hs]
    · obtain rfl : x = 1 := by omega
      rw [if_neg (by decide), C.b s hs]
  have hr0 : rk (nx (cRows n)) n (cyw n) = 1 := by
    refine rk_of (t := run (nx (cRows n)) 0 (cyw n)) (by omega) (V.runLt (by omega) hw0) fun s hs => ?_
    rw [run_same hgl hsame _ s hs hw0, run_same hgl hsame _ 0 (by omega) hw0]
    simpa using List.all_eq_true.1 k3 s (List.mem_range.2 hs)
  rcases shortest_ev V h12 with ⟨w, hw, hr, hc, _, hE⟩ | ⟨hno, _⟩
  · refine ⟨w, hw, hr, ?_, hE⟩
    obtain ⟨t, ht, hall⟩ := rk_one (fun s hs => V.runLt hs hw) hr
    have h1 := C.least h2 hw ht hall
    have h3 : w.length ≤ (cyw n).length := by
      rcases Nat.lt_or_ge (cyw n).length w.length with h | h
      · have := code_len (m := 2) (by omega) hw0 hw h
        have := hc _ hw0 hr0
        omega
      · exact h
    omega
  · exact absurd hr0 (hno _ hw0)
end Go.Proofs.Ytogoppejcmaocaa.Q
end
/-! Part PureShortCerny -/
section
namespace Go.Proofs.Ytogoppejcmaocaa.Pure
open Go.RowKit Go.Proofs.YtogoppejcmaocaaW.PrintWords Go.Proofs.YtogoppejcmaocaaW.PrintLast Go.Proofs.YtogoppejcmaocaaW.PrintMore Go.Proofs.Ytogoppejcmaocaa.Q
set_option linter.unusedVariables false
set_option linter.unusedSectionVars false
set_option linter.unusedSimpArgs false
theorem refCerny_loop {n : Nat} (h2 : 2 ≤ n) (h60 : n ≤ 60) : ∀ (e i : Nat), i + e = n - 1 → Ev (fun k => mizmazeref04_Cerny.l0 k (n : Int) (i : Int) ((List.range i).map (cRow n))) (cRows n)
  | 0, i, he => by
    have e1 : wrap64 ((n : Int) - 1) = ((n - 1 : Nat) : Int) := by rw [wrapI (by omega) (by omega)]; omega
    have e2 : (List.range i).map (cRow n) ++ [[0, 0]] = cRows n := by
      obtain ⟨j, rfl⟩ : ∃ j, n = j + 1 := ⟨n - 1, by omega⟩
      obtain rfl : i = j := by omega
      unfold cRows
      rw [List.range_succ, List.map_append]
      have h3 : (i + 1) % (i + 1) = 0 := Nat.mod_self _
      have h4 : i % (i + 1 - 1) = 0 := by rw [Nat.add_sub_cancel]; exact Nat.mod_self _
      simp [cRow, h3, h4]
    exact Ev.step (f := fun _ => some (cRows n)) (fun k => by rw [mizmazeref04_Cerny.l0, e1, if_neg (by omega), if_pos (by simp; omega), e2]) (Ev.ret rfl)
  | e + 1, i, he => by
    have ih := refCerny_loop h2 h60 e (i + 1) (by omega)
    have e1 : wrap64 ((n : Int) - 1) = ((n - 1 : Nat) : Int) := by rw [wrapI (by omega) (by omega)]; omega
    have h3 : (i + 1) % n = i + 1 := Nat.mod_eq_of_lt (by omega)
    have h4 : i % (n - 1) = i := Nat.mod_eq_of_lt (by omega)
    have e2 : (List.range i).map (cRow n) ++ [[((i + 1 : Nat) : Int), (i : Int)]] = (List.range (i + 1)).map (cRow n) := by
      rw [List.range_succ, List.map_append]
      simp [cRow, h3, h4]
    refine Ev.step (fun k => ?_) ih
    rw [mizmazeref04_Cerny.l0, e1, if_pos (by omega), if_pos (by simp; omega), wrapS (by omega), e2]
theorem refCerny_ev {n : Nat} (h2 : 2 ≤ n) (h60 : n ≤ 60) : Ev (fun k => mizmazeref04_Cerny.f k (n : Int)) (cRows n) := by
  simpa [mizmazeref04_Cerny.f] using refCerny_loop h2 h60 (n - 1) 0 (by omega)
theorem sames_loop {l : List (List Int)} (hl : l.length ≤ 1000000) (hr : ∀ i, i < l.length → (rd_L1 l (i : Int)).length ≤ 1000000) : ∀ (e i : Nat), i + e = l.length → Ev (fun k => mizmazeref01_Sames.l0 k l l (i : Int)) true
  | 0, i, he => Ev.step (f := fun _ => some true) (fun k => by rw [mizmazeref01_Sames.l0, if_neg (by omega)]) (Ev.ret rfl)
  | e + 1, i, he => by
    have ih := sames_loop hl hr e (i + 1) (by omega)
    refine Ev.step (fun k => by rw [mizmazeref01_Sames.l0, if_pos (by omega), if_pos (by omega), if_pos (by omega), wrapS (by omega)]) ?_
    refine Ev.bind (ref_same _ _ (by have := hr i (by omega); omega)) ?_
    rw [decide_eq_true rfl]
    simpa using ih
theorem sames_ev {l : List (List Int)} (hl : l.length ≤ 1000000) (hr : ∀ i, i < l.length → (rd_L1 l (i : Int)).length ≤ 1000000) : Ev (fun k => mizmazeref01_Sames.f k l l) true := by
  have := sames_loop hl hr l.length 0 (by omega)
  simpa [mizmazeref01_Sames.f] using this
theorem ShortCerny : Q.mizmazelaw04_ShortCerny.Pure := by
  intro a ha
  refine Ev.rounds (g := fun k => mizmazelaw04_ShortCerny.f k a) ?_
  unfold mizmazelaw04_ShortCerny.f
  have bad : Ev (fun k => mizmazelaw04_ShortCerny.j0 k a 2 true []) true := by
    refine Ev.next ?_
    simp only [mizmazelaw04_ShortCerny.j0, if_true, List.length_nil]
    exact Ev.congr (fun k => by simp) awake4_end
  by_cases c : a < 2 ∨ a > 60
  · refine Ev.bind (cerny_bad c) ?_
    by_cases c1 : a < 2
    · simp only [if_pos c1]; exact bad
    · simp only [if_neg c1]
      rw [decide_eq_true (show a > 60 by omega)]
      exact bad
  · obtain ⟨n, rfl⟩ : ∃ n : Nat, a = (n : Int) := ⟨a.toNat, by omega⟩
    have h2 : 2 ≤ n := by omega
    have h60 : n ≤ 60 := by omega
    have V := cRows_va h2 h60
    refine Ev.bind (cerny_ev h2 h60) ?_
    simp only [if_neg (show ¬ (n : Int) < 2 by omega)]
    rw [decide_eq_false (show ¬ (n : Int) > 60 by omega)]
    refine Ev.next ?_
    simp only [mizmazelaw04_ShortCerny.j0, Bool.false_eq_true, if_false, if_true]
    refine Ev.bind (refCerny_ev h2 h60) (Ev.bind (sames_ev (by rw [cRows_len]; omega) fun i hi => by
      rw [cRows_len] at hi
      rw [V.row i hi]; omega) ?_)
    refine Ev.next ?_
    simp only [mizmazelaw04_ShortCerny.j1, Bool.not_true, Bool.false_eq_true, if_false]
    by_cases h12 : n ≤ 12
    · obtain ⟨w, hw, hr, hl, hE⟩ := cerny_shortest h2 h12
      refine Ev.bind hE ?_
      have e1 : wrap64 ((n : Int) - 1) = ((n - 1 : Nat) : Int) := by rw [wrapI (by omega) (by omega)]; omega
      have e2 : wrap64 (((n - 1 : Nat) : Int) * ((n - 1 : Nat) : Int)) = (((n - 1) * (n - 1) : Nat) : Int) := by
        have h5 : (n - 1) * (n - 1) ≤ 11 * 11 := Nat.mul_le_mul (by omega) (by omega)
        rw [← Int.natCast_mul]
        exact wrapI (by omega) (by omega)
      simp only [if_neg (show ¬ (n : Int) > 12 by omega), if_true, e1, e2, toI_len, hl]
      exact awake4_end
    · refine Ev.bind (shortest_big (validB_of V) (by rw [cRows_len]; omega)) ?_
      simp only [if_pos (show (n : Int) > 12 by omega), if_true]
      exact awake4_end
end Go.Proofs.Ytogoppejcmaocaa.Pure
end
