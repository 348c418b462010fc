/- The law TopHome holds: any automaton has a reset word of at most (n^3 - n) / 6 letters that is found, and with whatever letters before it and after it it leads all states to one, or there are pairs of states that are found and that no word merges; no bound on the arguments beyond their types'. (text 22 of 26) -/
import Derived.Test.YtogoppejcmaocaaZTopHomeu
import Derived.Test.YtogoppejcmaocaaZTopHomef
import Derived.Test.YtogoppejcmaocaaZTopHomer
/-! Part MTop -/
section
namespace Go.Proofs.Ytogoppejcmaocaa.Q
open Go.RowKit Go.Proofs.YtogoppejcmaocaaW.PrintWords Go.Proofs.YtogoppejcmaocaaW.PrintLast Go.Proofs.YtogoppejcmaocaaW.PrintMore
set_option linter.unusedVariables false
set_option linter.unusedSectionVars false
set_option linter.unusedSimpArgs false
/-! ### the top's own functions -/
theorem topCycle {a : Int} {m : Nat} (hm : 0 < m) (h6 : m ≤ 6) : ∃ x : Nat, x < m ∧ mizmazetop_cycle.f a (m : Int) = some (x : Int) := by
  unfold mizmazetop_cycle.f
  rw [if_neg (by omega)]
  have h1 : Int.tmod a (m : Int) < m := Int.tmod_lt_of_pos a (by omega)
  have h2 : -(m : Int) < Int.tmod a (m : Int) := by
    have := Int.lt_tmod_of_pos a (show (0 : Int) < (m : Int) by omega)
    omega
  rw [wrapI (by omega) (by omega)]
  generalize Int.tmod a (m : Int) = t at h1 h2
  obtain ⟨z, hz⟩ := Int.eq_ofNat_of_zero_le (show 0 ≤ t + (m : Int) by omega)
  refine ⟨z % m, Nat.mod_lt _ hm, ?_⟩
  rw [hz, Int.tmod_eq_emod_of_nonneg (by omega)]
  congr 1
section
variable {rows : List (List Int)} {n m : Nat} (V : VA rows n m)
include V
theorem topLead_loop {w : List Nat} (hw : Wd m w) (hl : w.length ≤ 1000000) : ∀ (d i s : Nat), i + d = w.length → s < n → Ev (fun k => mizmazetop_lead.l0 k (s : Int) (toI w) (i : Int) rows) ((run (nx rows) s (w.drop i) : Nat) : Int)
  | 0, i, s, hi, hs => by
    rw [List.drop_eq_nil_of_le (by omega)]
    exact Ev.step (f := fun _ => some (s : Int)) (fun k => by rw [mizmazetop_lead.l0, if_neg (by rw [toI_len]; omega)]) (Ev.ret rfl)
  | d + 1, i, s, hi, hs => by
    have hlen := V.len
    have hil : i < w.length := by omega
    have hx : w[i] < m := hw _ (List.getElem_mem hil)
    have hrd : rd (toI w) (i : Int) = ((w[i] : Nat) : Int) := by
      rw [rdE (by rw [toI_len]; exact hil)]; simp [toI]
    have ih := topLead_loop hw hl d (i + 1) (nx rows s w[i]) (by omega) (V.nxLt hs hx)
    have e1 : w.drop i = w[i] :: w.drop (i + 1) := List.drop_eq_getElem_cons hil
    rw [e1]
    refine Ev.step (fun k => ?_) ih
    rw [mizmazetop_lead.l0, if_pos (by rw [toI_len]; omega), if_pos (by omega), if_pos (by omega), if_pos (by omega), hrd, if_pos (by omega), if_pos (by rw [V.row s hs]; omega), V.nxE hs hx, wrapS (by omega)]
theorem topLead_ev {w : List Nat} (hw : Wd m w) (hl : w.length ≤ 1000000) {s : Nat} (hs : s < n) : Ev (fun k => mizmazetop_lead.f k rows (s : Int) (toI w)) ((run (nx rows) s w : Nat) : Int) := by
  simpa [mizmazetop_lead.f] using topLead_loop V hw hl w.length 0 s (by omega) hs
theorem topSpread_loop {w : List Nat} (hw : Wd m w) (hl : w.length ≤ 1000000) {t : Nat} (ht : t < n) (hall : ∀ s, s < n → run (nx rows) s w = t) : ∀ (e p : Nat), p + e = n → Ev (fun k => mizmazetop_spread.l0 k (toI w) ((List.replicate n false).set t true) 1 (p : Int) rows) 1
  | 0, p, hp => by
    have hlen := V.len
    exact Ev.step (f := fun _ => some 1) (fun k => by rw [mizmazetop_spread.l0, if_neg (by omega)]) (Ev.ret rfl)
  | e + 1, p, hp => by
    have hlen := V.len
    have h60 := V.n60
    have ih := topSpread_loop hw hl ht hall e (p + 1) (by omega)
    have hpn : p < n := by omega
    refine Ev.step (fun k => by rw [mizmazetop_spread.l0, if_pos (by omega)]) ?_
    have hE := topLead_ev V hw hl hpn
    rw [hall p hpn] at hE
    refine Ev.bind hE ?_
    have h1 : rdOf false ((List.replicate n false).set t true) (t : Int) = true := by
      rw [rdB_set (by simpa using ht), if_pos rfl]
    simp only [List.length_set, List.length_replicate, if_pos (show (0 : Int) ≤ (t : Int) by omega), if_pos (show (t : Int) < (n : Int) by omega), h1, if_true, Int.toNat_natCast, List.set_set, wrapS (show p + 1 ≤ 9223372036854775807 by omega)]
    exact ih
theorem topSpread_one {w : List Nat} (hw : Wd m w) (hl : w.length ≤ 1000000) {t : Nat} (ht : t < n) (hall : ∀ s, s < n → run (nx rows) s w = t) : Ev (fun k => mizmazetop_spread.f k rows (toI w)) 1 := by
  have hlen := V.len
  have h60 := V.n60
  have hn0 := V.n0
  refine Ev.congr (f := fun k => mizmazetop_spread.l0 k (toI w) (List.replicate n false) 0 ((0 : Nat) : Int) rows) (fun k => ?_) ?_
  · unfold mizmazetop_spread.f
    rw [if_pos (by omega), if_pos (by omega), hlen]
    rfl
  · refine Ev.step (fun k => by rw [mizmazetop_spread.l0, if_pos (by omega)]) ?_
    have hE := topLead_ev V hw hl hn0
    rw [hall 0 hn0] at hE
    refine Ev.bind hE ?_
    have h1 : rdOf false (List.replicate n false) (t : Int) = false := by
      rw [rdBE (by simpa using ht)]; simp
    have h2 : wrap64 ((0 : Int) + 1) = 1 := by rw [wrapI (by omega) (by omega)]; rfl
    have h3 : wrap64 (((0 : Nat) : Int) + 1) = ((1 : Nat) : Int) := wrapS (by omega)
    simp only [List.length_replicate, if_pos (show (0 : Int) ≤ (t : Int) by omega), if_pos (show (t : Int) < (n : Int) by omega), h1, Bool.false_eq_true, if_false, Int.toNat_natCast, h2, h3]
    exact topSpread_loop V hw hl ht hall (n - 1) 1 (by omega)
theorem topRight_ev {w : List Nat} (hw : Wd m w) (hl : w.length ≤ 40000) : Ev (fun k => mizmazetop_right.f k rows (toI w)) true := by
  have hlen := V.len
  have hn0 := V.n0
  have hr0 : (rd_L1 rows 0).length = m := V.row 0 V.n0
  have key : ∀ (e i : Nat), i + e = w.length → Ev (fun k => mizmazetop_right.l0 k (toI w) (i : Int) rows) true := by
    intro e
    induction e with
    | zero =>
      intro i hi
      exact Ev.step (f := fun _ => some (decide (((toI w).length : Int) ≤ 40000))) (fun k => by rw [mizmazetop_right.l0, if_neg (by rw [toI_len]; omega)]) (Ev.ret (decide_eq_true (by rw [toI_len]; omega)))
    | succ e ih =>
      intro i hi
      have hil : i < w.length := by omega
      have hx : w[i] < m := hw _ (List.getElem_mem hil)
      have hrd : rd (toI w) (i : Int) = ((w[i] : Nat) : Int) := by
        rw [rdE (by rw [toI_len]; exact hil)]; simp [toI]
      exact Ev.step (fun k => by rw [mizmazetop_right.l0, if_pos (by rw [toI_len]; omega), if_pos (by omega), hrd, if_neg (by omega), if_pos (by omega), if_neg (by omega), wrapS (by omega)]) (ih (i + 1) (by omega))
  exact key w.length 0 (by omega)
theorem topProper_ev (l : List Int) : ∃ w, Wd m w ∧ w.length ≤ 2000 ∧ Ev (fun k => mizmazetop_proper.f k rows l) (toI w) := by
  have hlen := V.len
  have hn0 := V.n0
  have hr0 : (rd_L1 rows 0).length = m := V.row 0 V.n0
  have hm0 := V.m0
  have hm6 := V.m6
  have key : ∀ (e i : Nat) (w : List Nat), i + e = min l.length 2000 → w.length = i → Wd m w → ∃ w', Wd m w' ∧ w'.length ≤ 2000 ∧ Ev (fun k => mizmazetop_proper.l0 k l (toI w) (i : Int) rows) (toI w') := by
    intro e
    induction e with
    | zero =>
      intro i w hi hw hwd
      refine ⟨w, hwd, by omega, Ev.step (f := fun _ => some (toI w)) (fun k => ?_) (Ev.now _)⟩
      rw [mizmazetop_proper.l0]
      by_cases h : (i : Int) < (l.length : Int)
      · rw [if_pos h, if_neg (by omega)]
      · rw [if_neg h]
    | succ e ih =>
      intro i w hi hw hwd
      obtain ⟨x, hx, he⟩ := topCycle (a := rd l (i : Int)) hm0 hm6
      obtain ⟨w', h1, h2, h3⟩ := ih (i + 1) (w ++ [x]) (by omega) (by simp [hw]) (hwd.app fun y hy => by rw [List.mem_singleton.1 hy]; exact hx)
      refine ⟨w', h1, h2, Ev.step (fun k => ?_) h3⟩
      rw [mizmazetop_proper.l0, if_pos (by omega), if_pos (by omega), if_pos (by omega), if_pos (by omega), hr0, he, Option.bind_some, if_pos (by rw [toI_len]; omega), wrapS (by omega)]
      congr 1
      simp [toI]
  exact key (min l.length 2000) 0 [] (by omega) rfl (Wd.nil m)
end
theorem topJoined_ev : ∀ (L : List (List Nat)), (∀ w ∈ L, w.length ≤ 1000000) → L.length ≤ 1000 → Ev (fun k => mizmazetop_joined.f k (L.map toI)) (toI L.flatten) := by
  intro L hL hl
  have key : ∀ (e i : Nat) (acc : List Nat), i + e = L.length → acc.length ≤ i * 1000000 → Ev (fun k => mizmazetop_joined.l0 k (L.map toI) (toI acc) (i : Int)) (toI (acc ++ (L.drop i).flatten)) := by
    intro e
    induction e with
    | zero =>
      intro i acc hi ha
      refine Ev.step (f := fun _ => some (toI acc)) (fun k => by rw [mizmazetop_joined.l0, if_neg (by rw [List.length_map]; omega)]) (Ev.ret ?_)
      rw [List.drop_eq_nil_of_le (by omega), List.flatten_nil, List.append_nil]
    | succ e ih =>
      intro i acc hi ha
      have hil : i < L.length := by omega
      have hw := hL _ (List.getElem_mem hil)
      have hrd : rd_L1 (L.map toI) (i : Int) = toI L[i] := by
        rw [rdLE (by rw [List.length_map]; exact hil), List.getElem_map]
      have hd : L.drop i = L[i] :: L.drop (i + 1) := List.drop_eq_getElem_cons hil
      have h1 := ih (i + 1) (acc ++ L[i]) (by omega) (by rw [List.length_append]; omega)
      rw [hd, List.flatten_cons, ← List.append_assoc]
      refine Ev.step (fun k => ?_) h1
      rw [mizmazetop_joined.l0, if_pos (by rw [List.length_map]; omega), if_pos (by omega), hrd, if_pos (by rw [toI_len, toI_len]; omega), wrapS (by omega)]
      congr 1
      simp [toI]
  exact key L.length 0 [] (by omega) (by simp)
theorem topValid_ev (rows : List (List Int)) : Ev (fun k => mizmazetop_valid.f k rows) (validB rows) := by
  have big : Ev (fun k => mizmazetop_valid.j0 k true rows) false := by
    refine Ev.next ?_; simp only [mizmazetop_valid.j0, if_true]; exact Ev.now _
  have bad2 : ∀ x i, Ev (fun k => mizmazetop_valid.j2 k x i true rows) false := fun x i => by
    refine Ev.next ?_; simp only [mizmazetop_valid.j2, if_true]; exact Ev.now _
  unfold mizmazetop_valid.f
  by_cases h1 : rows.length = 0
  · have e : validB rows = false := by rw [Bool.eq_false_iff]; intro h; have := (validB_iff.1 h).n0; omega
    rw [e]; simp only [if_pos (by omega : (rows.length : Int) < 1)]; exact big
  simp only [if_neg (by omega : ¬ (rows.length : Int) < 1)]
  by_cases h2 : rows.length > 60
  · have e : validB rows = false := by rw [Bool.eq_false_iff]; intro h; have := (validB_iff.1 h).n60; omega
    rw [e]; simp only [decide_eq_true (by omega : (rows.length : Int) > 60)]; exact big
  simp only [decide_eq_false (by omega : ¬ (rows.length : Int) > 60)]
  refine Ev.next ?_
  simp only [mizmazetop_valid.j0, Bool.false_eq_true, if_false, if_pos (by omega : 0 < (rows.length : Int))]
  generalize hk : (rd_L1 rows 0).length = m
  by_cases h3 : m < 1 ∨ 6 < m
  · have e : validB rows = false := by
      rw [Bool.eq_false_iff]; intro h
      have := (validB_iff.1 h).m0; have := (validB_iff.1 h).m6; omega
    rw [e]
    refine Ev.next ?_
    simp only [mizmazetop_valid.l0, if_pos (by omega : (0 : Int) < (rows.length : Int)), if_pos (show (0 : Int) ≤ 0 by omega), hk, if_true]
    by_cases h4 : m < 1
    · simp only [if_pos (by omega : (m : Int) < 1)]; exact bad2 _ _
    · simp only [if_neg (by omega : ¬ (m : Int) < 1), decide_eq_true (by omega : (m : Int) > 6)]; exact bad2 _ _
  refine @Ev.every Bool (fun k i => mizmazetop_valid.l0 k (m : Int) (i : Int) rows) rows.length true false _ (fun i => !badB m rows.length (rd_L1 rows (i : Int))) ?_ ?_ ?_ ?_ ?_
  · intro h
    unfold validB kOf
    rw [hk, decide_eq_true (by omega), Bool.true_and, Bool.not_eq_true', any_bad]; exact fun i hi => by simpa using h i hi
  · intro i hi hp
    rw [Bool.eq_false_iff]
    intro h; unfold validB kOf at h
    rw [Bool.and_eq_true, Bool.not_eq_true', any_bad, hk] at h
    have := h.2 i hi
    rw [this] at hp; exact Bool.noConfusion hp
  · intro i hi hp hr
    simp only [badB, Bool.not_or, Bool.and_eq_true, Bool.not_eq_true', decide_eq_false_iff_not, Classical.not_not, Bool.not_not] at hp
    obtain ⟨hp1, hp2⟩ := hp
    have hin := hp2
    unfold inB at hin
    rw [List.all_eq_true] at hin
    refine Ev.step (f := fun k => mizmazetop_valid.j2 k (m : Int) (i : Int) false rows) (fun k => by rw [mizmazetop_valid.l0, if_pos (by omega), if_pos (by omega), if_pos hp1, if_neg (by omega), decide_eq_false (by omega)]) ?_
    have inner : ∀ (e d : Nat), d + e = m → Ev (fun k => mizmazetop_valid.l1 k (m : Int) (i : Int) (d : Int) rows) (validB rows) := by
      intro e
      induction e with
      | zero =>
        intro d hd
        exact Ev.step (fun k => by rw [mizmazetop_valid.l1, if_neg (by omega), wrapS (by omega)]) hr
      | succ e ih =>
        intro d hd
        have hdl : d < (rd_L1 rows (i : Int)).length := by omega
        have hmem := of_decide_eq_true (hin _ (List.getElem_mem hdl))
        have hrd : rd (rd_L1 rows (i : Int)) (d : Int) = (rd_L1 rows (i : Int))[d] := rdE hdl
        exact Ev.step (fun k => by rw [mizmazetop_valid.l1, if_pos (by omega), if_pos (by omega), if_pos (by omega), if_pos (by omega), if_pos (by omega), hrd, if_neg (by omega), if_neg (by omega), wrapS (by omega)]) (ih (d + 1) (by omega))
    exact Ev.step (fun k => by rw [mizmazetop_valid.j2, if_neg (by simp)]; rfl) (inner m 0 (by omega))
  · intro i hi hp
    by_cases h5 : ((rd_L1 rows (i : Int)).length : Int) = (m : Int)
    · have hin : inB rows.length (rd_L1 rows (i : Int)) = false := by
        simp only [badB, Bool.not_or, Bool.and_eq_false_iff, Bool.not_eq_false', decide_eq_true_eq, Bool.not_not] at hp
        rcases hp with h | h
        · exact absurd h5 h
        · exact h
      refine Ev.step (f := fun k => mizmazetop_valid.j2 k (m : Int) (i : Int) false rows) (fun k => by rw [mizmazetop_valid.l0, if_pos (by omega), if_pos (by omega), if_pos h5, if_neg (by omega), decide_eq_false (by omega)]) ?_
      have inner : ∀ (e d : Nat), d + e = m → (∀ j (hj : j < (rd_L1 rows (i : Int)).length), j < d → 0 ≤ (rd_L1 rows (i : Int))[j] ∧ (rd_L1 rows (i : Int))[j] < (rows.length : Int)) → Ev (fun k => mizmazetop_valid.l1 k (m : Int) (i : Int) (d : Int) rows) false := by
        intro e
        induction e with
        | zero =>
          intro d hd hj
          exfalso
          have : inB rows.length (rd_L1 rows (i : Int)) = true := by
            unfold inB
            rw [List.all_eq_true]
            intro z hz
            obtain ⟨j, hj1, rfl⟩ := List.getElem_of_mem hz
            exact decide_eq_true (hj j hj1 (by omega))
          rw [this] at hin; cases hin
        | succ e ih =>
          intro d hd hj
          have hdl : d < (rd_L1 rows (i : Int)).length := by omega
          have hrd : rd (rd_L1 rows (i : Int)) (d : Int) = (rd_L1 rows (i : Int))[d] := rdE hdl
          by_cases h6 : (rd_L1 rows (i : Int))[d] < 0
          · exact Ev.step (f := fun _ => some false) (fun k => by rw [mizmazetop_valid.l1, if_pos (by omega), if_pos (by omega), if_pos (by omega), if_pos (by omega), if_pos (by omega), hrd, if_pos h6]) (Ev.now _)
          · by_cases h7 : (rd_L1 rows (i : Int))[d] ≥ (rows.length : Int)
            · exact Ev.step (f := fun _ => some false) (fun k => by rw [mizmazetop_valid.l1, if_pos (by omega), if_pos (by omega), if_pos (by omega), if_pos (by omega), if_pos (by omega), hrd, if_neg h6, if_pos h7]) (Ev.now _)
            · refine Ev.step (fun k => by rw [mizmazetop_valid.l1, if_pos (by omega), if_pos (by omega), if_pos (by omega), if_pos (by omega), if_pos (by omega), hrd, if_neg h6, if_neg h7, wrapS (by omega)]) (ih (d + 1) (by omega) fun j hj1 hj2 => ?_)
              rcases Nat.lt_or_ge j d with h8 | h8
              · exact hj j hj1 h8
              · obtain rfl : j = d := by omega
                omega
      exact Ev.step (fun k => by rw [mizmazetop_valid.j2, if_neg (by simp)]; rfl) (inner m 0 (by omega) fun j _ h => by omega)
    · exact Ev.step (f := fun k => mizmazetop_valid.j2 k (m : Int) (i : Int) true rows) (fun k => by rw [mizmazetop_valid.l0, if_pos (by omega), if_pos (by omega), if_neg h5]) (bad2 _ _)
  · exact Ev.step (f := fun _ => some true) (fun k => by rw [mizmazetop_valid.l0, if_neg (by omega)]) (Ev.now _)
set_option maxRecDepth 100000 in
theorem topHomes_ev : Ev (fun k => mizmazetop_homes.f k) true := Ev.of (k := 60) (fun k => mizmazetop_homes.mono k) (by kernel_rfl)
end Go.Proofs.Ytogoppejcmaocaa.Q
end
