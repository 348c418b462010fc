/- In an Eulerian automaton of at most MaxSmall states that has a reset word, Extend of each set that is neither empty nor contains all states is a word of at most n - 1 letters whose preimage has more states. (text 39 of 44) -/
import Derived.Test.YtcpmmkennnjalaaZEulerKarizl
import Derived.Test.YtcpmmkennnjalaaZEulerKariy
import Derived.Test.YtcpmmkennnjalaaZEulerKarip
import Derived.Test.YtcpmmkennnjalaaZEulerKarit
import Derived.Test.YtcpmmkennnjalaaZEulerKariv
section
namespace Go.Proofs.Ytcpmmkennnjalaa.Pure
open Go.RowKit Go.Proofs.YtcpmmkennnjalaaW.PrintWords Go.Proofs.YtcpmmkennnjalaaW.PrintLast Go.Proofs.YtcpmmkennnjalaaW.PrintMore Go.Proofs.Ytcpmmkennnjalaa.Q
set_option linter.unusedVariables false
set_option linter.unusedSectionVars false
set_option linter.unusedSimpArgs false
/-! ### what Extend finds -/
/-- the set that a word leads into s0 -/
def pw (f : Nat → Nat → Nat) (n s0 : Nat) : List Nat → Nat
  | [] => s0
  | x :: w => bk f (pw f n s0 w) x n
theorem pw_bit {f : Nat → Nat → Nat} {n m s0 : Nat} (hf : ∀ s x, s < n → x < m → f s x < n) : ∀ (w : List Nat) (t : Nat), Wd m w → t < n → (pw f n s0 w).testBit t = s0.testBit (run f t w)
  | [], t, _, _ => rfl
  | x :: w, t, hw, ht => by
    show (bk f (pw f n s0 w) x n).testBit t = _
    rw [bk_bit, decide_eq_true ht, Bool.true_and, pw_bit hf w (f t x) hw.tail (hf t x ht hw.head)]
    rfl
theorem pw_lt {f : Nat → Nat → Nat} {n s0 : Nat} (h0 : s0 < 2 ^ n) : ∀ w, pw f n s0 w < 2 ^ n
  | [] => h0
  | x :: w => bk_lt f _ x n n (Nat.le_refl _)
/-- an element of a level, as it is told -/
def tl (f : Nat → Nat → Nat) (n s0 : Nat) (w : List Nat) : Int × List Int := ((pw f n s0 w : Nat), toI w)
/-- which elements of a row have not been met -/
def frW (g : List Nat → Nat) : List (List Nat) → List Nat → List (List Nat) × List Nat
  | [], mt => ([], mt)
  | w :: l, mt => if g w ∈ mt then frW g l mt else (w :: (frW g l (mt ++ [g w])).1, (frW g l (mt ++ [g w])).2)
theorem frW_told (f : Nat → Nat → Nat) (n s0 : Nat) : ∀ (l : List (List Nat)) (mt : List Nat), freshF (l.map (tl f n s0)) (toI mt) = ((frW (pw f n s0) l mt).1.map (tl f n s0), toI (frW (pw f n s0) l mt).2)
  | [], mt => rfl
  | w :: l, mt => by
    have hm : ((pw f n s0 w : Nat) : Int) ∈ toI mt ↔ pw f n s0 w ∈ mt := mem_toIE
    rw [List.map_cons, freshF, frW]
    by_cases h : pw f n s0 w ∈ mt
    · rw [if_pos h, if_pos (show (tl f n s0 w).1 ∈ toI mt from hm.2 h)]
      exact frW_told f n s0 l mt
    · rw [if_neg h, if_neg (show ¬ (tl f n s0 w).1 ∈ toI mt from fun e => h (hm.1 e))]
      have e : toI mt ++ [(tl f n s0 w).1] = toI (mt ++ [pw f n s0 w]) := by unfold toI; rw [List.map_append]; rfl
      rw [e, frW_told f n s0 l (mt ++ [pw f n s0 w])]
      rfl
theorem frW_spec (g : List Nat → Nat) : ∀ (l : List (List Nat)) (mt : List Nat), mt.Nodup → (∀ w ∈ (frW g l mt).1, w ∈ l) ∧ (∀ s ∈ mt, s ∈ (frW g l mt).2) ∧ (∀ w ∈ l, g w ∈ (frW g l mt).2) ∧ (∀ s ∈ (frW g l mt).2, s ∈ mt ∨ ∃ w ∈ (frW g l mt).1, g w = s) ∧ (frW g l mt).2.Nodup ∧ (frW g l mt).2.length = mt.length + (frW g l mt).1.length ∧ (frW g l mt).1.Sublist l
  | [], mt, hn => ⟨fun w h => h, fun s h => h, (fun w h => by cases h), fun s h => Or.inl h, hn, rfl, List.Sublist.refl _⟩
  | w :: l, mt, hn => by
    rw [frW]
    by_cases h : g w ∈ mt
    · rw [if_pos h]
      obtain ⟨h1, h2, h3, h4, h5, h6, h7⟩ := frW_spec g l mt hn
      refine ⟨fun v hv => List.mem_cons_of_mem _ (h1 v hv), h2, fun v hv => ?_, h4, h5, h6, h7.cons _⟩
      rcases List.mem_cons.1 hv with rfl | hv
      · exact h2 _ h
      · exact h3 v hv
    · rw [if_neg h]
      have hn2 : (mt ++ [g w]).Nodup := by
        rw [List.nodup_append]
        refine ⟨hn, by simp, fun a ha b hb => ?_⟩
        rw [List.mem_singleton.1 hb]
        exact fun e => h (e ▸ ha)
      obtain ⟨h1, h2, h3, h4, h5, h6, h7⟩ := frW_spec g l (mt ++ [g w]) hn2
      refine ⟨fun v hv => ?_, fun s hs => h2 s (List.mem_append.2 (.inl hs)), fun v hv => ?_, fun s hs => ?_, h5, ?_, h7.cons_cons _⟩
      · rcases List.mem_cons.1 hv with rfl | hv
        · exact List.mem_cons_self
        · exact List.mem_cons_of_mem _ (h1 v hv)
      · rcases List.mem_cons.1 hv with rfl | hv
        · exact h2 _ (List.mem_append.2 (.inr (by simp)))
        · exact h3 v hv
      · rcases h4 s hs with c | ⟨v, hv, e⟩
        · rcases List.mem_append.1 c with c | c
          · exact .inl c
          · exact .inr ⟨w, List.mem_cons_self, (List.mem_singleton.1 c).symm⟩
        · exact .inr ⟨v, List.mem_cons_of_mem _ hv, e⟩
      · rw [h6, List.length_append, List.length_cons]; simp; omega
/-- all words of a level with one letter in front -/
def nxW (m : Nat) (ws : List (List Nat)) : List (List Nat) := (List.range m).flatMap fun x => ws.map fun w => x :: w
theorem nxW_mem {m : Nat} {ws : List (List Nat)} {v : List Nat} : v ∈ nxW m ws ↔ ∃ x w, x < m ∧ w ∈ ws ∧ v = x :: w := by
  unfold nxW
  rw [List.mem_flatMap]
  constructor
  · rintro ⟨x, hx, hv⟩
    obtain ⟨w, hw, rfl⟩ := List.mem_map.1 hv
    exact ⟨x, w, List.mem_range.1 hx, hw, rfl⟩
  · rintro ⟨x, w, hx, hw, rfl⟩
    exact ⟨x, List.mem_range.2 hx, List.mem_map.2 ⟨w, hw, rfl⟩⟩
theorem nxW_len (ws : List (List Nat)) : ∀ m, (nxW m ws).length = m * ws.length
  | 0 => by simp [nxW]
  | m + 1 => by
    have := nxW_len ws m
    unfold nxW at this ⊢
    rw [List.range_succ, List.flatMap_append, List.length_append, this, Nat.succ_mul]
    simp
theorem nxW_nodup {ws : List (List Nat)} (h : ws.Nodup) : ∀ m, (nxW m ws).Nodup
  | 0 => by simp [nxW]
  | m + 1 => by
    have ih := nxW_nodup h m
    have e : nxW (m + 1) ws = nxW m ws ++ ws.map fun w => m :: w := by
      unfold nxW
      rw [List.range_succ, List.flatMap_append]; simp
    rw [e, List.nodup_append]
    refine ⟨ih, ?_, fun a ha b hb => ?_⟩
    · exact List.pairwise_map.2 (h.imp fun hne e => hne (by injection e))
    · obtain ⟨x, w, hx, _, rfl⟩ := nxW_mem.1 ha
      obtain ⟨u, _, rfl⟩ := List.mem_map.1 hb
      intro e
      injection e with e1 _
      omega
theorem toI_back (l : List Nat) : (toI l).map Int.toNat = l := by
  unfold toI
  rw [List.map_map]
  exact (List.map_congr_left (g := id) fun x _ => rfl).trans (List.map_id l)
theorem toI_inj {u v : List Nat} (h : toI u = toI v) : u = v := by
  have := congrArg (List.map Int.toNat) h
  rw [toI_back, toI_back] at this
  exact this
section
variable {rows : List (List Int)} {n m : Nat} (V : VA rows n m) (hn : n ≤ 12) {s0 : Nat} (h0 : s0 < 2 ^ n) {c : Nat}
include V hn h0
theorem lv_get (ws : List (List Nat)) {j : Nat} (h : j < ws.length) : rdMo (ws.map (tl (nx rows) n s0)) (j : Int) = tl (nx rows) n s0 ws[j] := by
  show (ws.map _).getD (j : Int).toNat (0, []) = _
  rw [Int.toNat_natCast, List.getD_eq_getElem?_getD, List.getElem?_map, List.getElem?_eq_getElem h]; rfl
/-- one letter in front of all words of a level -/
theorem l2_ev {x : Nat} (hx : x < m) (ws : List (List Nat)) (hw : ∀ w ∈ ws, w.length < 1000000) (hl : ws.length ≤ 100000) : ∀ (nw fw : List (List Nat)), nw.length ≤ 10000000 → fw.length ≤ 10000000 → Ev (fun k => euler_Extend.l2 k rows (c : Int) (ws.map (tl (nx rows) n s0)) (x : Int) 0 (nw.map (tl (nx rows) n s0)) (fw.map toI)) ((nw ++ ws.map fun w => x :: w).map (tl (nx rows) n s0), (fw ++ (ws.map fun w => x :: w).filter fun w => decide (c < card n (pw (nx rows) n s0 w))).map toI) := by
  intro nw fw hnw hfw
  have key : ∀ d j : Nat, j + d = ws.length → ∀ (nw fw : List (List Nat)), nw.length ≤ 10000000 + j → fw.length ≤ 10000000 + j → Ev (fun k => euler_Extend.l2 k rows (c : Int) (ws.map (tl (nx rows) n s0)) (x : Int) (j : Int) (nw.map (tl (nx rows) n s0)) (fw.map toI)) ((nw ++ (ws.drop j).map fun w => x :: w).map (tl (nx rows) n s0), (fw ++ ((ws.drop j).map fun w => x :: w).filter fun w => decide (c < card n (pw (nx rows) n s0 w))).map toI) := by
    intro d
    induction d with
    | zero =>
      intro j hj nw fw _ _
      obtain rfl : j = ws.length := by omega
      refine Ev.next (g := fun k => euler_Extend.l2 k rows (c : Int) (ws.map (tl (nx rows) n s0)) (x : Int) (ws.length : Int) (nw.map (tl (nx rows) n s0)) (fw.map toI)) ?_
      have e : ∀ k, euler_Extend.l2 (k + 1) rows (c : Int) (ws.map (tl (nx rows) n s0)) (x : Int) (ws.length : Int) (nw.map (tl (nx rows) n s0)) (fw.map toI) = some (nw.map (tl (nx rows) n s0), fw.map toI) := fun k => by
        rw [euler_Extend.l2, List.length_map, if_neg (by omega)]
      rw [List.drop_length]
      refine Ev.congr e ?_
      simp only [List.map_nil, List.append_nil, List.filter_nil]
      exact Ev.now _
    | succ d ih =>
      intro j hj nw fw hnw hfw
      have hjl : j < ws.length := by omega
      have hwl := hw ws[j] (List.getElem_mem hjl)
      have hb := back_ev V hn (pw_lt (f := nx rows) (n := n) h0 ws[j]) hx
      have hz := size_evE hn (bk_lt (nx rows) (pw (nx rows) n s0 ws[j]) x n n (Nat.le_refl _))
      have hstep := ih (j + 1) (by omega) (nw ++ [x :: ws[j]]) (fw ++ if c < card n (pw (nx rows) n s0 (x :: ws[j])) then [x :: ws[j]] else []) (by rw [List.length_append]; simp; omega) (by rw [List.length_append]; split <;> simp <;> omega)
      have r1 : (nw ++ [x :: ws[j]]) ++ (ws.drop (j + 1)).map (fun w => x :: w) = nw ++ (ws.drop j).map fun w => x :: w := by
        rw [List.drop_eq_getElem_cons hjl, List.map_cons, List.append_assoc]; rfl
      have r2 : (fw ++ if c < card n (pw (nx rows) n s0 (x :: ws[j])) then [x :: ws[j]] else []) ++ ((ws.drop (j + 1)).map fun w => x :: w).filter (fun w => decide (c < card n (pw (nx rows) n s0 w))) = fw ++ ((ws.drop j).map fun w => x :: w).filter fun w => decide (c < card n (pw (nx rows) n s0 w)) := by
        rw [List.drop_eq_getElem_cons hjl, List.map_cons, List.append_assoc, List.filter_cons]
        by_cases h : c < card n (pw (nx rows) n s0 (x :: ws[j]))
        · rw [if_pos h, if_pos (decide_eq_true h)]; rfl
        · rw [if_neg h, if_neg (fun e => h (of_decide_eq_true e))]; rfl
      rw [r1, r2] at hstep
      refine Ev.step (f := fun k => (euler_back.f k rows (((pw (nx rows) n s0 ws[j] : Nat)) : Int) (x : Int)).bind fun t => (euler_size.f k t).bind fun s => if (c : Int) < s then euler_Extend.l2 k rows (c : Int) (ws.map (tl (nx rows) n s0)) (x : Int) ((j + 1 : Nat) : Int) (nw.map (tl (nx rows) n s0) ++ [(t, (x : Int) :: toI ws[j])]) (fw.map toI ++ [(x : Int) :: toI ws[j]]) else euler_Extend.l2 k rows (c : Int) (ws.map (tl (nx rows) n s0)) (x : Int) ((j + 1 : Nat) : Int) (nw.map (tl (nx rows) n s0) ++ [(t, (x : Int) :: toI ws[j])]) (fw.map toI)) (fun k => ?_) ?_
      · rw [euler_Extend.l2, List.length_map, if_pos (by omega), if_pos (by omega), lv_get V hn h0 ws hjl]
        simp only [tl, toI_len, List.length_map, if_pos (show ws[j].length < 17592186044415 by omega), if_pos (show nw.length < 4000000000000 by omega), if_pos (show fw.length < 5000000000000 by omega), wrapS (show j + 1 ≤ 9223372036854775807 by omega)]
      · refine Ev.bind hb (Ev.bind hz ?_)
        by_cases h : c < card n (pw (nx rows) n s0 (x :: ws[j]))
        · rw [if_pos h] at hstep
          have h' : (c : Int) < ((card n (bk (nx rows) (pw (nx rows) n s0 ws[j]) x n) : Nat) : Int) := by exact Int.ofNat_lt.2 h
          simp only [if_pos h']
          have e1 : (nw ++ [x :: ws[j]]).map (tl (nx rows) n s0) = nw.map (tl (nx rows) n s0) ++ [(((bk (nx rows) (pw (nx rows) n s0 ws[j]) x n : Nat) : Int), (x : Int) :: toI ws[j])] := by rw [List.map_append]; rfl
          have e2 : (fw ++ [x :: ws[j]]).map toI = fw.map toI ++ [(x : Int) :: toI ws[j]] := by rw [List.map_append]; rfl
          rw [e1, e2] at hstep
          exact hstep
        · rw [if_neg h, List.append_nil] at hstep
          have h' : ¬ (c : Int) < ((card n (bk (nx rows) (pw (nx rows) n s0 ws[j]) x n) : Nat) : Int) := fun e => h (Int.ofNat_lt.1 e)
          simp only [if_neg h']
          have e1 : (nw ++ [x :: ws[j]]).map (tl (nx rows) n s0) = nw.map (tl (nx rows) n s0) ++ [(((bk (nx rows) (pw (nx rows) n s0 ws[j]) x n : Nat) : Int), (x : Int) :: toI ws[j])] := by rw [List.map_append]; rfl
          rw [e1] at hstep
          exact hstep
  have := key ws.length 0 (by omega) nw fw (by omega) (by omega)
  exact this
/-- all letters -/
theorem l1_ev (ws : List (List Nat)) (hw : ∀ w ∈ ws, w.length < 1000000) (hl : ws.length ≤ 100000) : Ev (fun k => euler_Extend.l1 k rows (c : Int) (ws.map (tl (nx rows) n s0)) (m : Int) 0 [] []) ((nxW m ws).map (tl (nx rows) n s0), ((nxW m ws).filter fun w => decide (c < card n (pw (nx rows) n s0 w))).map toI) := by
  have hm6 := V.m6
  have key : ∀ d x : Nat, x + d = m → Ev (fun k => euler_Extend.l1 k rows (c : Int) (ws.map (tl (nx rows) n s0)) (m : Int) (x : Int) ((nxW x ws).map (tl (nx rows) n s0)) (((nxW x ws).filter fun w => decide (c < card n (pw (nx rows) n s0 w))).map toI)) ((nxW m ws).map (tl (nx rows) n s0), ((nxW m ws).filter fun w => decide (c < card n (pw (nx rows) n s0 w))).map toI) := by
    intro d
    induction d with
    | zero =>
      intro x hx
      obtain rfl : x = m := by omega
      refine Ev.next (g := fun k => euler_Extend.l1 k rows (c : Int) (ws.map (tl (nx rows) n s0)) (x : Int) (x : Int) ((nxW x ws).map (tl (nx rows) n s0)) (((nxW x ws).filter fun w => decide (c < card n (pw (nx rows) n s0 w))).map toI)) ?_
      have e : ∀ k, euler_Extend.l1 (k + 1) rows (c : Int) (ws.map (tl (nx rows) n s0)) (x : Int) (x : Int) ((nxW x ws).map (tl (nx rows) n s0)) (((nxW x ws).filter fun w => decide (c < card n (pw (nx rows) n s0 w))).map toI) = some ((nxW x ws).map (tl (nx rows) n s0), ((nxW x ws).filter fun w => decide (c < card n (pw (nx rows) n s0 w))).map toI) := fun k => by
        rw [euler_Extend.l1, if_neg (by omega)]
      exact Ev.congr e (Ev.now _)
    | succ d ih =>
      intro x hx
      have hxm : x < m := by omega
      have hlen : (nxW x ws).length ≤ 600000 := by
        rw [nxW_len]
        exact Nat.mul_le_mul (show x ≤ 6 by omega) hl
      have h2 := l2_ev V hn h0 (c := c) hxm ws hw hl (nxW x ws) ((nxW x ws).filter fun w => decide (c < card n (pw (nx rows) n s0 w))) (by omega) (by have := List.length_filter_le (fun w => decide (c < card n (pw (nx rows) n s0 w))) (nxW x ws); omega)
      have e : nxW (x + 1) ws = nxW x ws ++ ws.map fun w => x :: w := by
        unfold nxW
        rw [List.range_succ, List.flatMap_append]; simp
      rw [← List.filter_append, ← e] at h2
      refine Ev.step (f := fun k => (euler_Extend.l2 k rows (c : Int) (ws.map (tl (nx rows) n s0)) (x : Int) 0 ((nxW x ws).map (tl (nx rows) n s0)) (((nxW x ws).filter fun w => decide (c < card n (pw (nx rows) n s0 w))).map toI)).bind fun p => euler_Extend.l1 k rows (c : Int) (ws.map (tl (nx rows) n s0)) (m : Int) ((x + 1 : Nat) : Int) p.1 p.2) (fun k => ?_) (Ev.bind h2 (ih (x + 1) (by omega)))
      rw [euler_Extend.l1, if_pos (by omega), wrapS (by omega)]
  exact key m 0 (by omega)
end
end Go.Proofs.Ytcpmmkennnjalaa.Pure
end
section
namespace Go.Proofs.Ytcpmmkennnjalaa.Pure
open Go.RowKit Go.Proofs.YtcpmmkennnjalaaW.PrintWords Go.Proofs.YtcpmmkennnjalaaW.PrintLast Go.Proofs.YtcpmmkennnjalaaW.PrintMore Go.Proofs.Ytcpmmkennnjalaa.Q
set_option linter.unusedVariables false
set_option linter.unusedSectionVars false
set_option linter.unusedSimpArgs false
/-! ### level after level -/
theorem perm_tl {f : Nat → Nat → Nat} {n s0 : Nat} {L : List (Int × List Int)} {nw : List (List Nat)} (h : L.Perm (nw.map (tl f n s0))) : ∃ sw : List (List Nat), sw.Perm nw ∧ L = sw.map (tl f n s0) := by
  refine ⟨L.map fun p => p.2.map Int.toNat, ?_, ?_⟩
  · have h1 := h.map fun p : Int × List Int => p.2.map Int.toNat
    rw [List.map_map] at h1
    have e : nw.map ((fun p : Int × List Int => p.2.map Int.toNat) ∘ tl f n s0) = nw := by
      exact (List.map_congr_left (g := id) fun w _ => toI_back w).trans (List.map_id nw)
    rw [e] at h1
    exact h1
  · rw [List.map_map]
    have : ∀ p ∈ L, (tl f n s0 ∘ fun p : Int × List Int => p.2.map Int.toNat) p = p := fun p hp => by
      obtain ⟨w, _, rfl⟩ := List.mem_map.1 (h.subset hp)
      show tl f n s0 ((toI w).map Int.toNat) = _
      rw [toI_back]
    exact ((List.map_congr_left (g := id) this).trans (List.map_id L)).symm
/-- the state of the search after all words of at most d letters -/
structure Lvl (f : Nat → Nat → Nat) (n m s0 c d : Nat) (ws : List (List Nat)) (mt : List Nat) : Prop where
  wd : ∀ w ∈ ws, Wd m w ∧ w.length = d
  nd : ws.Nodup
  on : ∀ w ∈ ws, pw f n s0 w ∈ mt
  lt : ∀ s ∈ mt, s < 2 ^ n
  mnd : mt.Nodup
  all : ∀ w, Wd m w → w.length ≤ d → pw f n s0 w ∈ mt
  cl : ∀ s ∈ mt, (∃ w ∈ ws, pw f n s0 w = s) ∨ ∀ x, x < m → bk f s x n ∈ mt
  few : ∀ s ∈ mt, card n s ≤ c
  wl : ws.length ≤ 2 ^ n
  dl : d + 1 ≤ mt.length
theorem Lvl.len {f : Nat → Nat → Nat} {n m s0 c d : Nat} {ws : List (List Nat)} {mt : List Nat} (h : Lvl f n m s0 c d ws mt) : mt.length ≤ 2 ^ n := by
  have := nodup_sub (T := List.range (2 ^ n)) h.mnd fun s hs => List.mem_range.2 (h.lt s hs)
  simpa using this
/-- when nothing new comes, all words are seen -/
theorem Lvl.closed {f : Nat → Nat → Nat} {n m s0 c d : Nat} {mt : List Nat} (h : Lvl f n m s0 c d [] mt) : ∀ w, Wd m w → pw f n s0 w ∈ mt
  | [], _ => h.all [] (Wd.nil _) (Nat.zero_le _)
  | x :: w, hw => by
    rcases h.cl _ (h.closed w hw.tail) with ⟨v, hv, _⟩ | h1
    · cases hv
    · exact h1 x hw.head
theorem Lvl.next {f : Nat → Nat → Nat} {n m s0 c d : Nat} {ws : List (List Nat)} {mt : List Nat} (h : Lvl f n m s0 c d ws mt) (hs0 : s0 < 2 ^ n) {sw : List (List Nat)} (hsw : sw.Perm (nxW m ws)) (hno : ∀ w ∈ nxW m ws, card n (pw f n s0 w) ≤ c) (hne : (frW (pw f n s0) sw mt).1 ≠ []) : Lvl f n m s0 c (d + 1) (frW (pw f n s0) sw mt).1 (frW (pw f n s0) sw mt).2 := by
  obtain ⟨h1, h2, h3, h4, h5, h6, h7⟩ := frW_spec (pw f n s0) sw mt h.mnd
  have hin : ∀ w ∈ (frW (pw f n s0) sw mt).1, w ∈ nxW m ws := fun w hw => hsw.subset (h1 w hw)
  have hsub : ∀ s ∈ (frW (pw f n s0) sw mt).2, s < 2 ^ n := fun s hs => by
    rcases h4 s hs with c1 | ⟨w, hw, rfl⟩
    · exact h.lt s c1
    · exact pw_lt hs0 w
  have hl : (frW (pw f n s0) sw mt).2.length ≤ 2 ^ n := by
    have := nodup_sub (T := List.range (2 ^ n)) h5 fun s hs => List.mem_range.2 (hsub s hs)
    simpa using this
  have hstep : ∀ s ∈ mt, ∀ x, x < m → bk f s x n ∈ (frW (pw f n s0) sw mt).2 := fun s hs x hx => by
    rcases h.cl s hs with ⟨w, hw, rfl⟩ | hcl
    · exact h3 (x :: w) (hsw.symm.subset (nxW_mem.2 ⟨x, w, hx, hw, rfl⟩))
    · exact h2 _ (hcl x hx)
  refine ⟨fun w hw => ?_, ?_, fun w hw => h3 w (h1 w hw), hsub, h5, fun w hw hl => ?_, fun s hs => ?_, fun s hs => ?_, by omega, ?_⟩
  · obtain ⟨x, u, hx, hu, rfl⟩ := nxW_mem.1 (hin w hw)
    obtain ⟨a, b⟩ := h.wd u hu
    exact ⟨Wd.cons hx a, by rw [List.length_cons, b]⟩
  · exact h7.nodup ((hsw.nodup_iff).2 (nxW_nodup h.nd m))
  · cases w with
    | nil => exact h2 _ (h.all [] (Wd.nil _) (Nat.zero_le _))
    | cons x w => exact hstep _ (h.all w hw.tail (by simpa using hl)) x hw.head
  · rcases h4 s hs with c1 | c1
    · exact .inr (hstep s c1)
    · exact .inl c1
  · rcases h4 s hs with c1 | ⟨w, hw, rfl⟩
    · exact h.few s c1
    · exact hno w (hin w hw)
  · have : 0 < (frW (pw f n s0) sw mt).1.length := List.length_pos_iff.2 hne
    have := h.dl
    omega
/-- what the search returns -/
def ExtSays (f : Nat → Nat → Nat) (n m s0 c : Nat) (r : List Int × Int) : Prop :=
  (∃ w, Wd m w ∧ r = (toI w, 0) ∧ c < card n (pw f n s0 w) ∧ (∀ v, Wd m v → c < card n (pw f n s0 v) → w.length ≤ v.length) ∧ w.length ≤ 4096) ∨ (r = ([], 4) ∧ ∀ v, Wd m v → card n (pw f n s0 v) ≤ c)
section
variable {rows : List (List Int)} {n m : Nat} (V : VA rows n m) (hn : n ≤ 12) {s0 : Nat} (h0 : s0 < 2 ^ n) {c : Nat}
include V hn h0
theorem l0_ev : ∀ (e d : Nat) (ws : List (List Nat)) (mt : List Nat), 2 ^ n + 1 ≤ mt.length + e → Lvl (nx rows) n m s0 c d ws mt → ∃ r, ExtSays (nx rows) n m s0 c r ∧ Ev (fun k => euler_Extend.l0 k rows (c : Int) (ws.map (tl (nx rows) n s0)) (toI mt)) r
  | 0, d, ws, mt, he, h => by have := h.len; omega
  | e + 1, d, ws, mt, he, h => by
    have hlen := h.len
    have hp : 2 ^ n ≤ 4096 := Nat.le_trans (Nat.pow_le_pow_right (by decide : 0 < 2) hn) (by decide)
    have hm0 := V.m0
    have hm6 := V.m6
    have hdl := h.dl
    have hwl := h.wl
    by_cases hws : ws = []
    · subst hws
      refine ⟨([], 4), .inr ⟨rfl, fun v hv => h.few _ (h.closed v hv)⟩, ?_⟩
      refine Ev.next (g := fun k => euler_Extend.l0 k rows (c : Int) (([] : List (List Nat)).map (tl (nx rows) n s0)) (toI mt)) ?_
      have e : ∀ k, euler_Extend.l0 (k + 1) rows (c : Int) (([] : List (List Nat)).map (tl (nx rows) n s0)) (toI mt) = some ([], 4) := fun k => by
        rw [euler_Extend.l0, if_neg (by simp)]
      exact Ev.congr e (Ev.now _)
    · have hpos : 0 < ws.length := List.length_pos_iff.2 hws
      have h1 := l1_ev V hn h0 (c := c) ws (fun w hw => by have := (h.wd w hw).2; omega) (by omega)
      have hnl : (nxW m ws).length ≤ 24576 := by
        rw [nxW_len]
        exact Nat.le_trans (Nat.mul_le_mul hm6 (show ws.length ≤ 4096 by omega)) (by decide)
      have hnl0 : 0 < (nxW m ws).length := by rw [nxW_len]; exact Nat.mul_pos hm0 hpos
      have hnw : ∀ w ∈ nxW m ws, Wd m w ∧ w.length = d + 1 := fun w hw => by
        obtain ⟨x, u, hx, hu, rfl⟩ := nxW_mem.1 hw
        obtain ⟨a, b⟩ := h.wd u hu
        exact ⟨Wd.cons hx a, by rw [List.length_cons, b]⟩
      have hL : auto_Letters.f rows = some (m : Int) := by
        have h : (rd_L1 rows 0).length = m := V.row 0 V.n0
        have h60 := V.n60
        have hn0 := V.n0
        have hlen := V.len
        unfold auto_Letters.f
        rw [if_pos (by omega), h]
      -- one level
      have hstep : ∀ {r : List Int × Int} {g : Nat → Option (List Int × Int)}, (∀ k, (if 0 < (((nxW m ws).filter fun w => decide (c < card n (pw (nx rows) n s0 w))).map toI).length then ((slices_MinFunc.f k (((nxW m ws).filter fun w => decide (c < card n (pw (nx rows) n s0 w))).map toI)).bind fun o => some (o, 0)) else (if freshOk ((nxW m ws).map (tl (nx rows) n s0)) = true then euler_Extend.l0 k rows (c : Int) (freshF (sortM ((nxW m ws).map (tl (nx rows) n s0))) (toI mt)).1 (freshF (sortM ((nxW m ws).map (tl (nx rows) n s0))) (toI mt)).2 else none)) = g k) → Ev g r → Ev (fun k => euler_Extend.l0 k rows (c : Int) (ws.map (tl (nx rows) n s0)) (toI mt)) r := fun hg h => by
        refine Ev.step (f := fun k => (euler_Extend.l1 k rows (c : Int) (ws.map (tl (nx rows) n s0)) (m : Int) 0 [] []).bind fun p => if 0 < p.2.length then ((slices_MinFunc.f k p.2).bind fun o => some (o, 0)) else (if freshOk p.1 = true then euler_Extend.l0 k rows (c : Int) (freshF (sortM p.1) (toI mt)).1 (freshF (sortM p.1) (toI mt)).2 else none)) (fun k => ?_) (Ev.bind h1 (Ev.congr hg h))
        rw [euler_Extend.l0, List.length_map, if_pos hpos, hL, Option.bind_some]
      generalize hF : (nxW m ws).filter (fun w => decide (c < card n (pw (nx rows) n s0 w))) = F at hstep
      have hFm : ∀ w, w ∈ F ↔ w ∈ nxW m ws ∧ c < card n (pw (nx rows) n s0 w) := fun w => by rw [← hF, List.mem_filter, decide_eq_true_iff]
      by_cases hFe : F = []
      · -- nothing larger: the next level
        subst hFe
        have hno : ∀ w ∈ nxW m ws, card n (pw (nx rows) n s0 w) ≤ c := fun w hw => by
          apply Classical.byContradiction
          intro hc
          have := (hFm w).2 ⟨hw, by omega⟩
          cases this
        have hok : freshOk ((nxW m ws).map (tl (nx rows) n s0)) = true := by
          unfold freshOk
          refine decide_eq_true ⟨by rw [List.length_map]; exact hnl0, by rw [List.length_map]; omega, fun r hr => ?_, ?_⟩
          · obtain ⟨w, hw, rfl⟩ := List.mem_map.1 hr
            show (toI w).length < _
            rw [toI_len, (hnw w hw).2]; omega
          · rw [List.map_map]
            exact List.pairwise_map.2 ((nxW_nodup h.nd m).imp fun hne e => hne (toI_inj e))
        obtain ⟨sw, hsw, hse⟩ := perm_tl (sortM_perm ((nxW m ws).map (tl (nx rows) n s0)))
        have hfr := frW_told (nx rows) n s0 sw mt
        rw [← hse] at hfr
        obtain ⟨f1, f2, f3, f4, f5, f6, f7⟩ := frW_spec (pw (nx rows) n s0) sw mt h.mnd
        by_cases hne : (frW (pw (nx rows) n s0) sw mt).1 = []
        · have hall : ∀ w, Wd m w → pw (nx rows) n s0 w ∈ mt := by
            intro w
            induction w with
            | nil => intro _; exact h.all [] (Wd.nil _) (Nat.zero_le _)
            | cons x w ihw =>
              intro hw
              rcases h.cl _ (ihw hw.tail) with ⟨v, hv, hve⟩ | hcl
              · have h7 := f3 (x :: v) (hsw.symm.subset (nxW_mem.2 ⟨x, v, hw.head, hv, rfl⟩))
                have h8 : pw (nx rows) n s0 (x :: v) = pw (nx rows) n s0 (x :: w) := by
                  show bk (nx rows) (pw (nx rows) n s0 v) x n = bk (nx rows) (pw (nx rows) n s0 w) x n
                  rw [hve]
                rw [h8] at h7
                rcases f4 _ h7 with h9 | ⟨u, hu, _⟩
                · exact h9
                · rw [hne] at hu; cases hu
              · exact hcl x hw.head
          refine ⟨([], 4), .inr ⟨rfl, fun v hv => h.few _ (hall v hv)⟩, ?_⟩
          refine hstep (g := fun k => euler_Extend.l0 k rows (c : Int) (([] : List (List Nat)).map (tl (nx rows) n s0)) (toI (frW (pw (nx rows) n s0) sw mt).2)) (fun k => ?_) ?_
          · rw [if_neg (by simp), if_pos hok, hfr, hne]
          · refine Ev.next (g := fun k => euler_Extend.l0 k rows (c : Int) (([] : List (List Nat)).map (tl (nx rows) n s0)) (toI (frW (pw (nx rows) n s0) sw mt).2)) ?_
            have e : ∀ k, euler_Extend.l0 (k + 1) rows (c : Int) (([] : List (List Nat)).map (tl (nx rows) n s0)) (toI (frW (pw (nx rows) n s0) sw mt).2) = some ([], 4) := fun k => by
              rw [euler_Extend.l0, if_neg (by simp)]
            exact Ev.congr e (Ev.now _)
        · have hnext := h.next h0 hsw hno hne
          have hlp : 0 < (frW (pw (nx rows) n s0) sw mt).1.length := List.length_pos_iff.2 hne
          obtain ⟨r, hr1, hr2⟩ := l0_ev e (d + 1) _ _ (by omega) hnext
          refine ⟨r, hr1, hstep (g := fun k => euler_Extend.l0 k rows (c : Int) ((frW (pw (nx rows) n s0) sw mt).1.map (tl (nx rows) n s0)) (toI (frW (pw (nx rows) n s0) sw mt).2)) (fun k => ?_) hr2⟩
          rw [if_neg (by simp), if_pos hok, hfr]
      · have hFl : 0 < F.length := List.length_pos_iff.2 hFe
        have hFle : F.length ≤ 24576 := by rw [← hF]; exact Nat.le_trans (List.length_filter_le _ _) hnl
        obtain ⟨o, ho, hmin, hev⟩ := min_ev (l := F.map toI) (by rw [List.length_map]; exact hFl) (by rw [List.length_map]; omega) fun u hu => by
          obtain ⟨w, hw, rfl⟩ := List.mem_map.1 hu
          rw [toI_len, (hnw w ((hFm w).1 hw).1).2]; omega
        obtain ⟨w, hw, rfl⟩ := List.mem_map.1 ho
        obtain ⟨hw1, hw2⟩ := (hFm w).1 hw
        obtain ⟨hw3, hw4⟩ := hnw w hw1
        refine ⟨(toI w, 0), .inl ⟨w, hw3, rfl, hw2, fun v hv hc => ?_, by omega⟩, ?_⟩
        · rw [hw4]
          apply Classical.byContradiction
          intro hlt
          have := h.few _ (h.all v hv (by omega))
          omega
        · refine hstep (g := fun k => (slices_MinFunc.f k (F.map toI)).bind fun o => some (o, 0)) (fun k => ?_) (Ev.bind hev (Ev.now _))
          rw [if_pos (by rw [List.length_map]; exact hFl)]
end
end Go.Proofs.Ytcpmmkennnjalaa.Pure
end
section
namespace Go.Proofs.Ytcpmmkennnjalaa.Pure
open Go.RowKit Go.Proofs.YtcpmmkennnjalaaW.PrintWords Go.Proofs.YtcpmmkennnjalaaW.PrintLast Go.Proofs.YtcpmmkennnjalaaW.PrintMore Go.Proofs.Ytcpmmkennnjalaa.Q
set_option linter.unusedVariables false
set_option linter.unusedSectionVars false
set_option linter.unusedSimpArgs false
/-! ### Extend -/
def mkq (a : Nat) : List Nat → Nat
  | [] => a
  | t :: q => mkq (a ||| 2 ^ t) q
theorem mkq_bit (t : Nat) : ∀ (q : List Nat) (a : Nat), (mkq a q).testBit t = (a.testBit t || decide (t ∈ q))
  | [], a => by simp [mkq]
  | u :: q, a => by
    rw [mkq, mkq_bit t q, Nat.testBit_or, Nat.testBit_two_pow]
    by_cases h : u = t
    · subst h; simp
    · have : t ∈ u :: q ↔ t ∈ q := by rw [List.mem_cons]; exact ⟨fun h1 => h1.elim (fun e => absurd e.symm h) id, .inr⟩
      simp [h, this]
theorem mkq_lt {n : Nat} : ∀ (q : List Nat) (a : Nat), a < 2 ^ n → (∀ x ∈ q, x < n) → mkq a q < 2 ^ n
  | [], a, ha, _ => ha
  | t :: q, a, ha, hq => mkq_lt q _ (Nat.or_lt_two_pow ha (Nat.pow_lt_pow_right (by decide : 1 < 2) (hq t List.mem_cons_self))) fun x hx => hq x (List.mem_cons_of_mem _ hx)
theorem firstE_mkq {n : Nat} (hn : n ≤ 12) (q : List Nat) (hq : ∀ x ∈ q, x < n) : firstE (toI q) = ((mkq 0 q : Nat) : Int) := by
  have key : ∀ (q : List Nat) (a : Nat), a < 2 ^ n → (∀ x ∈ q, x < n) → (toI q).foldl (fun a s => Go.bits .or .u16 a (IntKind.u16.wrap (2 ^ min s.toNat 16))) (a : Int) = ((mkq a q : Nat) : Int) := by
    intro q
    induction q with
    | nil => intro a _ _; rfl
    | cons t q ih =>
      intro a ha hq
      have ht : t < n := hq t List.mem_cons_self
      have h2 : 2 ^ t < 2 ^ n := Nat.pow_lt_pow_right (by decide : 1 < 2) ht
      have h12 := p12 hn ha
      have h12' := p12 hn h2
      show (toI q).foldl _ (Go.bits .or .u16 (a : Int) (IntKind.u16.wrap (2 ^ min ((t : Int)).toNat 16))) = _
      rw [Int.toNat_natCast, Nat.min_eq_left (by omega), show ((2 : Int) ^ t) = ((2 ^ t : Nat) : Int) from pow_cast t, Q.wrap_small (show 2 ^ t < 65536 by omega), bits_or_u16_nat _ _ (by omega) (by omega)]
      exact ih (a ||| 2 ^ t) (Nat.or_lt_two_pow ha h2) fun x hx => hq x (List.mem_cons_of_mem _ hx)
  exact key q 0 (Nat.two_pow_pos n) hq
section
variable {rows : List (List Int)} {n m : Nat} (V : VA rows n m) {q : List Nat} (hq : ∀ x ∈ q, x < n)
include V hq
theorem card_pw {w : List Nat} (hw : Wd m w) : card n (pw (nx rows) n (mkq 0 q) w) = cntS (nx rows) n (fun t => decide (t ∈ q)) w := by
  unfold card cntS
  rw [List.countP_eq_length_filter]
  congr 1
  refine List.filter_congr fun t ht => ?_
  rw [pw_bit (fun s x hs hx => V.nxLt hs hx) w t hw (List.mem_range.1 ht), mkq_bit, Nat.zero_testBit, Bool.false_or]
theorem ext_ev (hn : n ≤ 12) (hs : q.Pairwise (· < ·)) (hl : q.length ≤ n) : (∃ w, Wd m w ∧ q.length < cntS (nx rows) n (fun t => decide (t ∈ q)) w ∧ (∀ v, Wd m v → q.length < cntS (nx rows) n (fun t => decide (t ∈ q)) v → w.length ≤ v.length) ∧ w.length ≤ 4096 ∧ Ev (fun k => euler_Extend.f k rows (toI q)) (toI w, 0)) ∨ ((∀ v, Wd m v → cntS (nx rows) n (fun t => decide (t ∈ q)) v ≤ q.length) ∧ Ev (fun k => euler_Extend.f k rows (toI q)) ([], 4)) := by
  have hlen := V.len
  have h0 : mkq 0 q < 2 ^ n := mkq_lt q 0 (Nat.two_pow_pos n) hq
  have hc0 : card n (mkq 0 q) ≤ q.length := by
    unfold card
    have hnd : ((List.range n).filter fun t => (mkq 0 q).testBit t).Nodup := List.Pairwise.filter _ List.nodup_range
    refine nodup_sub hnd fun t ht => ?_
    rw [List.mem_filter, mkq_bit, Nat.zero_testBit, Bool.false_or] at ht
    exact of_decide_eq_true ht.2
  have hL : Lvl (nx rows) n m (mkq 0 q) q.length 0 [[]] [mkq 0 q] := by
    refine ⟨fun w hw => ?_, by simp, fun w hw => ?_, fun s hs => ?_, by simp, fun w hw hl => ?_, fun s hs => ?_, fun s hs => ?_, ?_, by simp⟩
    · rw [List.mem_singleton.1 hw]; exact ⟨Wd.nil _, rfl⟩
    · rw [List.mem_singleton.1 hw]; exact List.mem_singleton.2 rfl
    · rw [List.mem_singleton.1 hs]; exact h0
    · rw [List.eq_nil_of_length_eq_zero (Nat.le_zero.1 hl)]; exact List.mem_singleton.2 rfl
    · exact .inl ⟨[], List.mem_singleton.2 rfl, (List.mem_singleton.1 hs).symm⟩
    · rw [List.mem_singleton.1 hs]; exact hc0
    · exact Nat.two_pow_pos n
  obtain ⟨r, hr, hev⟩ := l0_ev V hn h0 (2 ^ n) 0 [[]] [mkq 0 q] (by simp; omega) hL
  have hf : Ev (fun k => euler_Extend.f k rows (toI q)) r := by
    unfold euler_Extend.f
    have hv : auto_Valid.f rows = some true := by unfold auto_Valid.f; rw [validB_of V]
    rw [hv]
    simp only [Option.bind_some, if_true]
    refine Ev.bind (auto_set_yes V hq hs (by omega)) ?_
    simp only [if_true, hlen, if_neg (show ¬ 12 < n by omega), inB_toI.2 (show Wd n q from hq), firstE_mkq hn q hq, toI_len]
    exact hev
  rcases hr with ⟨w, hw, rfl, h1, h2, h3⟩ | ⟨rfl, h1⟩
  · refine .inl ⟨w, hw, by rw [← card_pw V hq hw]; exact h1, fun v hv hc => h2 v hv (by rw [card_pw V hq hv]; exact hc), h3, hf⟩
  · exact .inr ⟨fun v hv => by rw [← card_pw V hq hv]; exact h1 v hv, hf⟩
end
end Go.Proofs.Ytcpmmkennnjalaa.Pure
end
