/- The law TopCerny holds: the shortest reset word that is found for Cerny's automaton of n states has (n - 1)^2 letters, for n from 2 to 11; the law has no arguments. (text 29 of 30) -/
import Derived.Test.YtogoppejcmaocaaZTopCernyzb
import Derived.Test.YtogoppejcmaocaaZTopCernyw
import Derived.Test.YtogoppejcmaocaaZTopCernyj
import Derived.Test.YtogoppejcmaocaaZTopCernyh
/-! Part MShortest -/
section
namespace Go.Proofs.Ytogoppejcmaocaa.Q
open Go.RowKit Go.Proofs.YtogoppejcmaocaaW.PrintWords Go.Proofs.YtogoppejcmaocaaW.PrintLast Go.Proofs.YtogoppejcmaocaaW.PrintMore
set_option linter.unusedVariables false
set_option linter.unusedSectionVars false
/-! ### what Shortest and Rank return -/
theorem check_ok {rows : List (List Int)} (h : validB rows = true) (hn : rows.length ≤ 12) : short_check.f rows = some 0 := by
  unfold short_check.f auto_Valid.f
  rw [h]
  show (if true = true then (if (rows.length : Int) > 12 then (some 3) else (some 0)) else (some 1)) = some 0
  rw [if_pos rfl, if_neg (by omega)]
section
variable {rows : List (List Int)} {n m : Nat} (V : VA rows n m) (hn : n ≤ 12)
include V
theorem VA.valid : validB rows = true := validB_of V
include hn
theorem bfs_len {q : List (Nat × List Nat)} (B : Bfs (mv (nx rows) n) m (2 ^ n) (2 ^ n - 1) (2 ^ n) q q.length 0) {e : Nat × List Nat} (he : e ∈ q) : e.2.length ≤ 4096 := by
  obtain ⟨j, hj⟩ := List.mem_iff_getElem?.1 he
  have h1 := B.le j e hj
  have h2 := (List.getElem?_eq_some_iff.1 hj).1
  have h3 := B.len
  have h4 := two_small V hn
  omega
theorem shortest_ev : (∃ w, Wd m w ∧ rk (nx rows) n w = 1 ∧ (∀ v, Wd m v → rk (nx rows) n v = 1 → code m w ≤ code m v) ∧ w.length ≤ 4096 ∧ Ev (fun k => short_Shortest.f k rows) (toI w, 0)) ∨
    ((∀ v, Wd m v → rk (nx rows) n v ≠ 1) ∧ Ev (fun k => short_Shortest.f k rows) ([], 4)) := by
  obtain ⟨q, B, hE⟩ := sets_ev V hn
  have hlen : rows.length = n := V.len
  have h0 := V.n0
  have go : ∀ r, firstS (qI q) = some r → Ev (fun k => short_Shortest.f k rows) r := fun r hr => by
    have h1 : Ev (fun k => (short_sets.f k rows).bind firstS) r := Ev.bind hE (Ev.const hr)
    refine h1.congr fun k => ?_
    unfold short_Shortest.f
    rw [check_ok (validB_of V) (by omega)]
    rw [Option.bind_some, if_pos rfl, if_pos (by omega)]
  have lt : ∀ e ∈ q, e.1 < 2 ^ n := fun e he => (B.ok e he).1
  have cd : ∀ e ∈ q, card n e.1 = rk (nx rows) n e.2 := fun e he => by
    have h := B.ok e he
    rw [← run_card V h.2.1, h.2.2.1]
  rcases firstS_ev (m := m) hn q lt B.sorted with ⟨e, he, h1, h2, h3⟩ | ⟨h1, h2⟩
  · refine Or.inl ⟨e.2, (B.ok e he).2.1, by rw [← cd e he]; exact h1, ?_, bfs_len V hn B he, go _ h3⟩
    intro v hv hr
    obtain ⟨a, ha, ha1, ha2⟩ := B.least v hv
    have : card n a.1 = 1 := by rw [ha1, run_card V hv]; exact hr
    exact Nat.le_trans (h2 a ha this) ha2
  · refine Or.inr ⟨?_, go _ h2⟩
    intro v hv hr
    obtain ⟨a, ha, ha1, _⟩ := B.least v hv
    exact h1 a ha (by rw [ha1, run_card V hv]; exact hr)
end
end Go.Proofs.Ytogoppejcmaocaa.Q
end
/-! Part MCernyEv -/
section
namespace Go.Proofs.Ytogoppejcmaocaa.Q
open Go.RowKit Go.Proofs.YtogoppejcmaocaaW.PrintWords Go.Proofs.YtogoppejcmaocaaW.PrintLast Go.Proofs.YtogoppejcmaocaaW.PrintMore
set_option linter.unusedVariables false
/-! ### what Cerny returns -/
def cRow (n s : Nat) : List Int := [(((s + 1) % n : Nat) : Int), ((s % (n - 1) : Nat) : Int)]
def cRows (n : Nat) : List (List Int) := (List.range n).map (cRow n)
theorem cRows_len (n : Nat) : (cRows n).length = n := by simp [cRows]
theorem cRows_at {n s : Nat} (hs : s < n) : rd_L1 (cRows n) (s : Int) = cRow n s := by
  rw [rdLE (by rw [cRows_len]; exact hs)]
  simp [cRows]
theorem tmodN (a b : Nat) : Int.tmod (a : Int) (b : Int) = ((a % b : Nat) : Int) := rfl
theorem cerny_loop {n : Nat} (h2 : 2 ≤ n) (h60 : n ≤ 60) : ∀ (e i : Nat), i + e = n → Ev (fun k => short_Cerny.l0 k (n : Int) (n : Int) (i : Int) ((List.range i).map (cRow n))) (cRows n, 0)
  | 0, i, he => by
    obtain rfl : i = n := by omega
    exact Ev.step (f := fun _ => some (cRows i, 0)) (fun k => by rw [short_Cerny.l0, if_neg (by omega)]; rfl) (Ev.ret rfl)
  | e + 1, i, he => by
    have ih := cerny_loop h2 h60 e (i + 1) (by omega)
    refine Ev.step (fun k => ?_) ih
    have e1 : wrap64 ((n : Int) - 1) = ((n - 1 : Nat) : Int) := by rw [wrapI (by omega) (by omega)]; omega
    rw [short_Cerny.l0, if_pos (by omega), if_neg (by omega), e1, if_neg (by omega), if_pos (by simp; omega), wrapS (by omega), tmodN, tmodN, List.range_succ, List.map_append]
    rfl
theorem cerny_ev {n : Nat} (h2 : 2 ≤ n) (h60 : n ≤ 60) : Ev (fun k => short_Cerny.f k (n : Int)) (cRows n, 0) := by
  have := cerny_loop h2 h60 n 0 (by omega)
  refine Ev.congr (f := fun k => short_Cerny.j0 k (n : Int) false) (fun k => ?_) ?_
  · unfold short_Cerny.f
    rw [if_neg (by omega), decide_eq_false (by omega)]
  · exact Ev.step (fun k => by rw [short_Cerny.j0, if_neg (by decide)]; rfl) this
theorem cRows_va {n : Nat} (h2 : 2 ≤ n) (h60 : n ≤ 60) : VA (cRows n) n 2 where
  len := cRows_len n
  n0 := by omega
  n60 := h60
  m0 := by omega
  m6 := by omega
  row := fun s hs => by rw [cRows_at hs]; rfl
  ent := fun s hs => by
    rw [cRows_at hs]
    have h1 := Nat.mod_lt (s + 1) (show n > 0 by omega)
    have h3 := Nat.mod_lt s (show n - 1 > 0 by omega)
    rw [inB_iff]
    intro i hi
    have hi2 : i < 2 := hi
    rcases Nat.lt_or_ge i 1 with h | h
    · obtain rfl : i = 0 := by omega
      show (0 : Int) ≤ (((s + 1) % n : Nat) : Int) ∧ _
      exact ⟨by omega, by show (((s + 1) % n : Nat) : Int) < n; omega⟩
    · obtain rfl : i = 1 := by omega
      show (0 : Int) ≤ ((s % (n - 1) : Nat) : Int) ∧ _
      exact ⟨by omega, by show ((s % (n - 1) : Nat) : Int) < n; omega⟩
theorem cRows_cy {n : Nat} (h2 : 2 ≤ n) : Cy (nx (cRows n)) n where
  a := fun s hs => by
    unfold nx
    rw [cRows_at hs]
    show ((((s + 1) % n : Nat) : Int)).toNat = _
    omega
  b := fun s hs => by
    unfold nx
    rw [cRows_at hs]
    show (((s % (n - 1) : Nat) : Int)).toNat = _
    rw [Int.toNat_natCast]
    by_cases c : s = n - 1
    · rw [if_pos c, c, Nat.mod_self]
    · rw [if_neg c]; exact Nat.mod_eq_of_lt (by omega)
theorem rk_one {f : Nat → Nat → Nat} {n : Nat} {w : List Nat} (hlt : ∀ s, s < n → run f s w < n) (h : rk f n w = 1) : ∃ t, t < n ∧ ∀ s, s < n → run f s w = t := by
  obtain ⟨t, ht⟩ := List.length_eq_one_iff.1 h
  have hm : ∀ s, s < n → run f s w = t := fun s hs => by
    have : run f s w ∈ imgL f n (List.range n) w := imgL_mem.2 ⟨hlt s hs, s, List.mem_range.2 hs, rfl⟩
    rw [ht] at this
    exact List.mem_singleton.1 this
  have : t ∈ imgL f n (List.range n) w := by rw [ht]; exact List.mem_singleton.2 rfl
  exact ⟨t, (imgL_mem.1 this).1, hm⟩
theorem rk_of {f : Nat → Nat → Nat} {n t : Nat} {w : List Nat} (hn : 0 < n) (ht : t < n) (h : ∀ s, s < n → run f s w = t) : rk f n w = 1 := by
  unfold rk
  rw [imgL_one hn ht (fun s hs => h s (List.mem_range.1 hs)) ⟨0, List.mem_range.2 hn⟩]
  rfl
theorem run_same {f g : Nat → Nat → Nat} {n m : Nat} (hg : ∀ s x, s < n → x < m → g s x < n) (h : ∀ s x, s < n → x < m → f s x = g s x) : ∀ (w : List Nat) (s : Nat), s < n → Wd m w → run f s w = run g s w
  | [], s, _, _ => rfl
  | x :: w, s, hs, hw => by
    show run f (f s x) w = run g (g s x) w
    have hx := hw.head
    rw [h s x hs hx]
    exact run_same hg h w _ (hg s x hs hx) hw.tail
/-- The shortest reset word of Cerny's automaton. -/
theorem cerny_shortest {n : Nat} (h2 : 2 ≤ n) (h12 : n ≤ 12) : ∃ w, Wd 2 w ∧ rk (nx (cRows n)) n w = 1 ∧ w.length = (n - 1) * (n - 1) ∧ Ev (fun k => short_Shortest.f k (cRows n)) (toI w, 0) := by
  have V := cRows_va h2 (show n ≤ 60 by omega)
  have C := cRows_cy h2
  obtain ⟨k1, k2, k3⟩ := cyw_ok n (by omega) h2
  have hw0 : Wd 2 (cyw n) := fun x hx => by simpa using List.all_eq_true.1 k2 x hx
  have hgl : ∀ s x, s < n → x < 2 → cyf n s x < n := fun s x hs hx => by
    unfold cyf
    split
    · exact Nat.mod_lt _ (by omega)
    · split <;> omega
  have hsame : ∀ s x, s < n → x < 2 → nx (cRows n) s x = cyf n s x := fun s x hs hx => by
    unfold cyf
    rcases Nat.lt_or_ge x 1 with h | h
    · obtain rfl : x = 0 := by omega
      rw [if_pos rfl, C.a s hs]
    · obtain rfl : x = 1 := by omega
      rw [if_neg (by decide), C.b s hs]
  have hr0 : rk (nx (cRows n)) n (cyw n) = 1 := by
    refine rk_of (t := run (nx (cRows n)) 0 (cyw n)) (by omega) (V.runLt (by omega) hw0) fun s hs => ?_
    rw [run_same hgl hsame _ s hs hw0, run_same hgl hsame _ 0 (by omega) hw0]
    simpa using List.all_eq_true.1 k3 s (List.mem_range.2 hs)
  rcases shortest_ev V h12 with ⟨w, hw, hr, hc, _, hE⟩ | ⟨hno, _⟩
  · refine ⟨w, hw, hr, ?_, hE⟩
    obtain ⟨t, ht, hall⟩ := rk_one (fun s hs => V.runLt hs hw) hr
    have h1 := C.least h2 hw ht hall
    have h3 : w.length ≤ (cyw n).length := by
      rcases Nat.lt_or_ge (cyw n).length w.length with h | h
      · have := code_len (m := 2) (by omega) hw0 hw h
        have := hc _ hw0 hr0
        omega
      · exact h
    omega
  · exact absurd hr0 (hno _ hw0)
end Go.Proofs.Ytogoppejcmaocaa.Q
end
/-! Part PureTopCerny -/
section
namespace Go.Proofs.Ytogoppejcmaocaa.Pure
open Go.RowKit Go.Proofs.YtogoppejcmaocaaW.PrintWords Go.Proofs.YtogoppejcmaocaaW.PrintLast Go.Proofs.YtogoppejcmaocaaW.PrintMore Go.Proofs.Ytogoppejcmaocaa.Q
set_option linter.unusedVariables false
set_option linter.unusedSectionVars false
set_option linter.unusedSimpArgs false
section
variable {rows : List (List Int)} {n m : Nat} (V : VA rows n m)
include V
theorem topLead_loop {w : List Nat} (hw : Wd m w) (hl : w.length ≤ 1000000) : ∀ (d i s : Nat), i + d = w.length → s < n → Ev (fun k => mizmazetop_lead.l0 k (s : Int) (toI w) (i : Int) rows) ((run (nx rows) s (w.drop i) : Nat) : Int)
  | 0, i, s, hi, hs => by
    rw [List.drop_eq_nil_of_le (by omega)]
    exact Ev.step (f := fun _ => some (s : Int)) (fun k => by rw [mizmazetop_lead.l0, if_neg (by rw [toI_len]; omega)]) (Ev.ret rfl)
  | d + 1, i, s, hi, hs => by
    have hlen := V.len
    have hil : i < w.length := by omega
    have hx : w[i] < m := hw _ (List.getElem_mem hil)
    have hrd : rd (toI w) (i : Int) = ((w[i] : Nat) : Int) := by
      rw [rdE (by rw [toI_len]; exact hil)]; simp [toI]
    have ih := topLead_loop hw hl d (i + 1) (nx rows s w[i]) (by omega) (V.nxLt hs hx)
    have e1 : w.drop i = w[i] :: w.drop (i + 1) := List.drop_eq_getElem_cons hil
    rw [e1]
    refine Ev.step (fun k => ?_) ih
    rw [mizmazetop_lead.l0, if_pos (by rw [toI_len]; omega), if_pos (by omega), if_pos (by omega), if_pos (by omega), hrd, if_pos (by omega), if_pos (by rw [V.row s hs]; omega), V.nxE hs hx, wrapS (by omega)]
theorem topLead_ev {w : List Nat} (hw : Wd m w) (hl : w.length ≤ 1000000) {s : Nat} (hs : s < n) : Ev (fun k => mizmazetop_lead.f k rows (s : Int) (toI w)) ((run (nx rows) s w : Nat) : Int) := by
  simpa [mizmazetop_lead.f] using topLead_loop V hw hl w.length 0 s (by omega) hs
theorem topSpread_loop {w : List Nat} (hw : Wd m w) (hl : w.length ≤ 1000000) {t : Nat} (ht : t < n) (hall : ∀ s, s < n → run (nx rows) s w = t) : ∀ (e p : Nat), p + e = n → Ev (fun k => mizmazetop_spread.l0 k (toI w) ((List.replicate n false).set t true) 1 (p : Int) rows) 1
  | 0, p, hp => by
    have hlen := V.len
    exact Ev.step (f := fun _ => some 1) (fun k => by rw [mizmazetop_spread.l0, if_neg (by omega)]) (Ev.ret rfl)
  | e + 1, p, hp => by
    have hlen := V.len
    have h60 := V.n60
    have ih := topSpread_loop hw hl ht hall e (p + 1) (by omega)
    have hpn : p < n := by omega
    refine Ev.step (fun k => by rw [mizmazetop_spread.l0, if_pos (by omega)]) ?_
    have hE := topLead_ev V hw hl hpn
    rw [hall p hpn] at hE
    refine Ev.bind hE ?_
    have h1 : rdOf false ((List.replicate n false).set t true) (t : Int) = true := by
      rw [rdB_set (by simpa using ht), if_pos rfl]
    simp only [List.length_set, List.length_replicate, if_pos (show (0 : Int) ≤ (t : Int) by omega), if_pos (show (t : Int) < (n : Int) by omega), h1, if_true, Int.toNat_natCast, List.set_set, wrapS (show p + 1 ≤ 9223372036854775807 by omega)]
    exact ih
theorem topSpread_one {w : List Nat} (hw : Wd m w) (hl : w.length ≤ 1000000) {t : Nat} (ht : t < n) (hall : ∀ s, s < n → run (nx rows) s w = t) : Ev (fun k => mizmazetop_spread.f k rows (toI w)) 1 := by
  have hlen := V.len
  have h60 := V.n60
  have hn0 := V.n0
  refine Ev.congr (f := fun k => mizmazetop_spread.l0 k (toI w) (List.replicate n false) 0 ((0 : Nat) : Int) rows) (fun k => ?_) ?_
  · unfold mizmazetop_spread.f
    rw [if_pos (by omega), if_pos (by omega), hlen]
    rfl
  · refine Ev.step (fun k => by rw [mizmazetop_spread.l0, if_pos (by omega)]) ?_
    have hE := topLead_ev V hw hl hn0
    rw [hall 0 hn0] at hE
    refine Ev.bind hE ?_
    have h1 : rdOf false (List.replicate n false) (t : Int) = false := by
      rw [rdBE (by simpa using ht)]; simp
    have h2 : wrap64 ((0 : Int) + 1) = 1 := by rw [wrapI (by omega) (by omega)]; rfl
    have h3 : wrap64 (((0 : Nat) : Int) + 1) = ((1 : Nat) : Int) := wrapS (by omega)
    simp only [List.length_replicate, if_pos (show (0 : Int) ≤ (t : Int) by omega), if_pos (show (t : Int) < (n : Int) by omega), h1, Bool.false_eq_true, if_false, Int.toNat_natCast, h2, h3]
    exact topSpread_loop V hw hl ht hall (n - 1) 1 (by omega)
end
theorem top_valid_all : ∀ n, n < 12 → 2 ≤ n → mizmazetop_valid.f 60 (cRows n) = some true := by decide +kernel
theorem top_rows {n : Nat} (h2 : 2 ≤ n) (h11 : n ≤ 11) (next : Ev (fun k => mizmazetop_TopCerny.l0 k ((n + 1 : Nat) : Int)) true) : ∀ (e s : Nat), s + e = n → Ev (fun k => mizmazetop_TopCerny.l1 k (n : Int) (s : Int) (cRows n)) true
  | 0, s, hs => by
    obtain rfl : s = n := by omega
    obtain ⟨w, hw, hr, hl, hE⟩ := cerny_shortest h2 (show s ≤ 12 by omega)
    have V := cRows_va h2 (show s ≤ 60 by omega)
    obtain ⟨t, ht, hall⟩ := rk_one (fun x hx => V.runLt hx hw) hr
    have h5 : (s - 1) * (s - 1) ≤ 11 * 11 := Nat.mul_le_mul (by omega) (by omega)
    have e1 : wrap64 ((s : Int) - 1) = ((s - 1 : Nat) : Int) := by rw [wrapI (by omega) (by omega)]; omega
    have e2 : wrap64 (((s - 1 : Nat) : Int) * ((s - 1 : Nat) : Int)) = (((s - 1) * (s - 1) : Nat) : Int) := by
      rw [← Int.natCast_mul]
      exact wrapI (by omega) (by omega)
    refine Ev.step (fun k => by rw [mizmazetop_TopCerny.l1, if_neg (by omega)]) ?_
    refine Ev.bind hE ?_
    simp only [if_true, e1, e2, toI_len, hl]
    refine Ev.bind (topSpread_one V hw (by omega) ht hall) ?_
    simp only [if_true, wrapS (show s + 1 ≤ 9223372036854775807 by omega)]
    exact next
  | e + 1, s, hs => by
    have ih := top_rows h2 h11 next e (s + 1) (by omega)
    have hsn : s < n := by omega
    have hrow := cRows_at (n := n) hsn
    have e1 : wrap64 ((n : Int) - 1) = ((n - 1 : Nat) : Int) := by rw [wrapI (by omega) (by omega)]; omega
    have r0 : rd (cRow n s) 0 = (((s + 1) % n : Nat) : Int) := rfl
    have r1 : rd (cRow n s) 1 = ((s % (n - 1) : Nat) : Int) := rfl
    have hl : ((cRow n s).length : Int) = 2 := rfl
    refine Ev.step (fun k => ?_) ih
    rw [mizmazetop_TopCerny.l1, if_pos (by omega), if_pos (by omega), if_pos (by rw [cRows_len]; omega), hrow, hl, if_pos (by omega), if_neg (by omega), wrapS (by omega), tmodN, r0, if_pos rfl, e1, r1]
    by_cases c : s = n - 1
    · have h3 : s % (n - 1) = 0 := by rw [c]; exact Nat.mod_self _
      rw [if_neg (by omega), if_pos (by omega), if_pos (by omega), if_pos (by omega)]
    · have h3 : s % (n - 1) = s := Nat.mod_eq_of_lt (by omega)
      rw [if_pos (by omega), if_pos (by omega), if_pos (by omega), if_neg (by omega)]
theorem top_loop : ∀ (e n : Nat), n + e = 12 → 2 ≤ n → Ev (fun k => mizmazetop_TopCerny.l0 k (n : Int)) true
  | 0, n, hn, h2 => by
    have aw : Ev (fun k => mizmazetop_shortens.f k) true := Ev.of (k := 60) (fun k => mizmazetop_shortens.mono k) (by kernel_rfl)
    refine Ev.step (fun k => by rw [mizmazetop_TopCerny.l0, if_neg (by omega)]) ?_
    exact Ev.bind aw (Ev.now _)
  | e + 1, n, hn, h2 => by
    have ih := top_loop e (n + 1) (by omega) (by omega)
    have hE := cerny_ev h2 (show n ≤ 60 by omega)
    have V := cRows_va h2 (show n ≤ 60 by omega)
    refine Ev.step (fun k => by rw [mizmazetop_TopCerny.l0, if_pos (by omega)]) ?_
    refine Ev.bind hE ?_
    simp only [if_true]
    refine Ev.bind (Ev.of (k := 60) (fun k => mizmazetop_valid.mono _ k) (top_valid_all n (by omega) h2)) ?_
    have hrow : (rd_L1 (cRows n) 0).length = 2 := V.row 0 V.n0
    simp only [if_true, cRows_len, if_pos (show (0 : Int) < (n : Int) by omega), hrow]
    refine Ev.step (fun k => by rw [mizmazetop_TopCerny.j1, if_neg (by decide)]; rfl) (top_rows h2 (by omega) ih n 0 (by omega))
theorem TopCerny : Q.mizmazetop_TopCerny.Pure := Ev.rounds (g := fun k => mizmazetop_TopCerny.f k) (top_loop 10 2 rfl (by omega))
end Go.Proofs.Ytogoppejcmaocaa.Pure
end
