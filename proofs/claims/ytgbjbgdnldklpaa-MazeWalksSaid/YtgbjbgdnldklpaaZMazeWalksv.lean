/- The law MazeWalks holds: Connected, Walk and Visits answer as the reference does, or with the documented error, for any maze, room and word; no bound on the arguments beyond their types'. (text 22 of 23) -/
import Derived.Test.YtgbjbgdnldklpaaZMazeWalksj
import Derived.Test.YtgbjbgdnldklpaaZMazeWalksl
import Derived.Test.YtgbjbgdnldklpaaZMazeWalksu
import Derived.Test.YtgbjbgdnldklpaaZMazeWalksh
import Derived.Test.YtgbjbgdnldklpaaZMazeWalkst
/-! Part StmtMazeWalks -/
section
-- Written by xrow.py, a program of this session's. Lean checks it.
namespace Go.Proofs.Ytgbjbgdnldklpaa.Q
/-- What is left to prove of the law MazeWalks. -/
def mizmazelaw10_MazeWalks.Pure : Prop := ∀ (l0_0 : List (List S44)), ∀ (a1 : Int), ∀ (l2 : List Int), MazeOk l0_0 → (-9223372036854775808 ≤ a1 ∧ a1 ≤ 9223372036854775807) → IntsOk l2 → ∃ k, mizmazelaw10_MazeWalks.f k l0_0 a1 l2 = some true
end Go.Proofs.Ytgbjbgdnldklpaa.Q
end
/-! Part PureMazeWalks -/
section
namespace Go.Proofs.Ytgbjbgdnldklpaa.Pure
open Go.RowKit Go.Proofs.YtgbjbgdnldklpaaW.PrintWords Go.Proofs.YtgbjbgdnldklpaaW.PrintLast Go.Proofs.YtgbjbgdnldklpaaW.PrintMore Go.Proofs.Ytgbjbgdnldklpaa.Q
set_option linter.unusedVariables false
set_option linter.unusedSectionVars false
set_option linter.unusedSimpArgs false
theorem tidy_natZ (l : List Nat) : ∃ Q : List Nat, tidy (toI l) = toI Q ∧ Q.Nodup ∧ ∀ x, x ∈ Q ↔ x ∈ l := by
  have hpos : ∀ z ∈ tidy (toI l), ∃ x : Nat, x ∈ l ∧ z = (x : Int) := fun z hz => by
    obtain ⟨x, hx, rfl⟩ := List.mem_map.1 (tidy_iff.1 hz)
    exact ⟨x, hx, rfl⟩
  have e : tidy (toI l) = toI ((tidy (toI l)).map Int.toNat) := by
    unfold toI
    rw [List.map_map]
    conv => lhs; rw [← List.map_id (tidy _)]
    refine List.map_congr_left fun z hz => ?_
    obtain ⟨x, _, rfl⟩ := hpos z hz
    simp
  refine ⟨(tidy (toI l)).map Int.toNat, e, ?_, fun x => ?_⟩
  · unfold List.Nodup
    rw [List.pairwise_map]
    refine List.Pairwise.imp_of_mem ?_ (tidy_srt _)
    intro a b ha hb hab
    obtain ⟨x, _, rfl⟩ := hpos a ha
    obtain ⟨y, _, rfl⟩ := hpos b hb
    simp; omega
  · rw [List.mem_map]
    constructor
    · rintro ⟨z, hz, rfl⟩
      obtain ⟨x, hx, rfl⟩ := hpos z hz
      simpa using hx
    · intro hx
      exact ⟨(x : Int), tidy_iff.2 (List.mem_map.2 ⟨x, hx, rfl⟩), by simp⟩
section
variable {z : List (List S44)} {n m : Nat} (V : VZ z n m)
include V
theorem ref_walk {w : List Nat} (hw : Wd m w) (hl : w.length ≤ 1000000) {s : Nat} (hs : s < n) : Ev (fun k => mizmazeref10_Walk.f k z (s : Int) (toI w)) (toI (pathZ z s w)) := by
  have hlen := V.len
  have key : ∀ (e i s : Nat) (out : List Int), i + e = w.length → s < n → out.length ≤ i + 1 → Ev (fun k => mizmazeref10_Walk.l0 k (s : Int) (toI w) out (i : Int) z) (out ++ toI (stepsZ z s (w.drop i))) := by
    intro e
    induction e with
    | zero =>
      intro i s out he hs ho
      refine Ev.step (f := fun _ => some out) (fun k => by rw [mizmazeref10_Walk.l0, if_neg (by rw [toI_len]; omega)]) (Ev.ret ?_)
      rw [List.drop_eq_nil_of_le (by omega)]
      simp [stepsZ, toI]
    | succ e ih =>
      intro i s out he hs ho
      have hi : i < w.length := by omega
      have hx : w[i] < m := hw _ (List.getElem_mem hi)
      have hrow := V.row s hs
      have ih := ih (i + 1) (gz z s w[i]) (out ++ [((gz z s w[i] : Nat) : Int)]) (by omega) (V.gLt s _ hs hx) (by simp; omega)
      have e1 : out ++ toI (stepsZ z s (w.drop i)) = (out ++ [((gz z s w[i] : Nat) : Int)]) ++ toI (stepsZ z (gz z s w[i]) (w.drop (i + 1))) := by
        rw [List.drop_eq_getElem_cons hi]
        simp [stepsZ, toI]
      rw [e1]
      refine Ev.step (fun k => by rw [mizmazeref10_Walk.l0, if_pos (by rw [toI_len]; omega), if_pos (by omega), if_pos (by omega), if_pos (by omega), toI_rd hi, if_pos (by omega), if_pos (by omega), if_pos (by omega), V.f0 s _ hs hx, wrapS (by omega)]) ih
  have := key w.length 0 s [(s : Int)] (by omega) hs (by simp)
  have e1 : [(s : Int)] ++ toI (stepsZ z s (w.drop 0)) = toI (pathZ z s w) := by simp [pathZ, toI]
  rw [e1] at this
  exact this
theorem ref_visits {w : List Nat} (hw : Wd m w) (hl : w.length ≤ 1000000) {s : Nat} (hs : s < n) : ∃ r, Ev (fun k => mizmazeref10_Visits.f k z (s : Int) (toI w)) r ∧ (r = true ↔ ∀ t, t < n → t ∈ pathZ z s w) := by
  have hlen := V.len; have h60 := V.n60
  have key : ∀ (e i s : Nat) (b : List Bool), i + e = w.length → s < n → b.length = n → ∃ r, Ev (fun k => mizmazeref10_Visits.l0 k (s : Int) (toI w) b ((n : Int) - (trues b : Nat)) (i : Int) z) r ∧ (r = true ↔ ∀ t, t < n → rdOf false b (t : Int) = true ∨ t ∈ stepsZ z s (w.drop i)) := by
    intro e
    have stop : ∀ (i s : Nat) (b : List Bool), b.length = n → Ev (fun k => mizmazeref10_Visits.j1 k (s : Int) (toI w) b ((n : Int) - (trues b : Nat)) (i : Int) false z) ((n : Int) - (trues b : Nat) == 0) := fun i s b hb => Ev.step (f := fun _ => some ((n : Int) - (trues b : Nat) == 0)) (fun k => by rw [mizmazeref10_Visits.j1, if_neg (by simp)]) (Ev.now _)
    induction e with
    | zero =>
      intro i s b he hs hb
      refine ⟨_, Ev.step (fun k => by rw [mizmazeref10_Visits.l0, if_neg (by rw [toI_len]; omega)]) (stop i s b hb), ?_⟩
      rw [List.drop_eq_nil_of_le (by omega), beq_iff_eq]
      have := trues_all (b := b)
      rw [hb] at this
      constructor
      · intro h t ht
        exact Or.inl (this.1 (by omega) t ht)
      · intro h
        have := this.2 fun t ht => (h t ht).elim id fun h => by cases h
        omega
    | succ e ih =>
      intro i s b he hs hb
      have hi : i < w.length := by omega
      have hx : w[i] < m := hw _ (List.getElem_mem hi)
      have hg := V.gLt s _ hs hx
      have hrow := V.row s hs
      have hle := trues_le b
      by_cases hT : trues b = n
      · refine ⟨_, Ev.step (fun k => by rw [mizmazeref10_Visits.l0, if_pos (by rw [toI_len]; omega), decide_eq_false (by omega)]) (stop i s b hb), ?_⟩
        have := (trues_all (b := b)).1 (by omega)
        rw [hb] at this
        simp only [beq_iff_eq]
        exact ⟨fun _ t ht => Or.inl (this t ht), fun _ => by omega⟩
      · have e0 : w.drop i = w[i] :: w.drop (i + 1) := List.drop_eq_getElem_cons hi
        cases hc : rdOf false b ((gz z s w[i] : Nat) : Int) with
        | true =>
          obtain ⟨r, h1, h2⟩ := ih (i + 1) (gz z s w[i]) b (by omega) hg hb
          refine ⟨r, Ev.step (fun k => by rw [mizmazeref10_Visits.l0, if_pos (by rw [toI_len]; omega), decide_eq_true (by omega)]) (Ev.step (fun k => by rw [mizmazeref10_Visits.j1, if_pos rfl, if_pos (by omega), if_pos (by omega), if_pos (by omega), if_pos (by rw [toI_len]; omega), toI_rd hi, if_pos (by omega), if_pos (by omega), V.f0 s _ hs hx, if_pos (by omega), if_pos (by omega), if_pos hc, wrapS (by omega)]) h1), h2.trans ?_⟩
          rw [e0]
          constructor
          · intro h t ht
            exact (h t ht).imp id fun h => List.mem_cons_of_mem _ h
          · intro h t ht
            rcases h t ht with h | h
            · exact Or.inl h
            · rcases List.mem_cons.1 h with rfl | h
              · exact Or.inl hc
              · exact Or.inr h
        | false =>
          have ht := trues_set (by omega) hc
          obtain ⟨r, h1, h2⟩ := ih (i + 1) (gz z s w[i]) (b.set (gz z s w[i]) true) (by omega) hg (by rw [List.length_set]; exact hb)
          refine ⟨r, Ev.step (fun k => by rw [mizmazeref10_Visits.l0, if_pos (by rw [toI_len]; omega), decide_eq_true (by omega)]) (Ev.step (fun k => by rw [mizmazeref10_Visits.j1, if_pos rfl, if_pos (by omega), if_pos (by omega), if_pos (by omega), if_pos (by rw [toI_len]; omega), toI_rd hi, if_pos (by omega), if_pos (by omega), V.f0 s _ hs hx, if_pos (by omega), if_pos (by omega), if_neg (by rw [hc]; simp), wrapS (by omega), wrapI (by omega) (by omega), Int.toNat_natCast, show (n : Int) - ((trues b : Nat) : Int) - 1 = (n : Int) - ((trues (b.set (gz z s w[i]) true) : Nat) : Int) by omega]) h1), h2.trans ?_⟩
          rw [e0]
          constructor
          · intro h t ht
            rcases h t ht with h | h
            · rw [rdB_set (by omega)] at h
              by_cases e : gz z s w[i] = t
              · exact Or.inr (by rw [← e]; exact List.mem_cons_self)
              · rw [if_neg e] at h; exact Or.inl h
            · exact Or.inr (List.mem_cons_of_mem _ h)
          · intro h t ht
            rw [rdB_set (by omega)]
            by_cases e : gz z s w[i] = t
            · rw [if_pos e]; exact Or.inl rfl
            · rw [if_neg e]
              rcases h t ht with h | h
              · exact Or.inl h
              · rcases List.mem_cons.1 h with h | h
                · exact absurd h.symm e
                · exact Or.inr h
  have hn0 := V.n0
  have t1 : trues ((List.replicate n false).set s true) = 1 := by
    rw [trues_set (by simpa using hs) (by
      have : s < (List.replicate n false).length := by simpa using hs
      rw [rdBE this]; simp), trues_none]
  obtain ⟨r, h1, h2⟩ := key w.length 0 s ((List.replicate n false).set s true) (by omega) hs (by simp)
  refine ⟨r, h1.congr fun k => ?_, h2.trans ?_⟩
  · unfold mizmazeref10_Visits.f
    rw [if_pos (by omega), if_pos (by rw [Int.toNat_natCast]; omega), Option.bind_some, Int.toNat_natCast, hlen, if_pos (by omega), if_pos (by rw [List.length_replicate]; omega), t1, wrapI (by omega) (by omega)]
    rfl
  · constructor
    · intro h t ht
      rcases h t ht with h | h
      · rw [rdB_set (by simpa using ht), rdBE (by simpa using ht)] at h
        by_cases e : s = t
        · exact List.mem_cons.2 (Or.inl e.symm)
        · rw [if_neg e] at h; simp at h
      · exact List.mem_cons_of_mem _ h
    · intro h t ht
      rcases List.mem_cons.1 (h t ht) with h | h
      · subst h; exact Or.inl (by rw [rdB_set (by simpa using ht), if_pos rfl])
      · exact Or.inr h
theorem visits_ev {w : List Nat} (hw : Wd m w) (hl : w.length ≤ 40000) {s : Nat} (hs : s < n) : ∃ r, Ev (fun k => maze_Visits.f k z (s : Int) (toI w)) (r, 0) ∧ (r = true ↔ ∀ t, t < n → t ∈ pathZ z s w) := by
  obtain ⟨Q, h1, h2, h3⟩ := tidy_natZ (pathZ z s w)
  have hlen := V.len
  have hle := nodup_sub h2 fun x hx => (h3 x).1 hx
  have hQn := nodup_le n Q h2 fun x hx => pathZ_lt V hs hw x ((h3 x).1 hx)
  have hpl := pathZ_len z s w
  refine ⟨((Q.length : Nat) : Int) == (n : Int), ?_, ?_⟩
  · unfold maze_Visits.f
    refine Ev.bind (walk_ev V hw hl hs) ?_
    simp only [if_true]
    refine Ev.congr (f := fun _ => some (((Q.length : Nat) : Int) == (n : Int), 0)) (fun k => ?_) (Ev.now _)
    rw [if_pos (by rw [toI_len]; omega), h1, if_pos (by rw [toI_len, toI_len]; omega), toI_len, hlen]
  · rw [beq_iff_eq]
    constructor
    · intro h t ht
      exact (h3 t).1 (nodup_full h2 (fun x hx => pathZ_lt V hs hw x ((h3 x).1 hx)) (by omega) ht)
    · intro h
      have := nodup_sub (S := List.range n) (T := Q) List.nodup_range fun t ht => (h3 t).2 (h t (List.mem_range.1 ht))
      rw [List.length_range] at this
      omega
theorem visits_arg {a : Int} {l : List Int} (h : ¬ ((0 ≤ a ∧ a < n) ∧ l.length ≤ 40000 ∧ inB (m : Int) l = true)) : Ev (fun k => maze_Visits.f k z a l) (false, 2) := by
  unfold maze_Visits.f
  refine Ev.bind (walk_arg V h) ?_
  exact Ev.now _
end
theorem visits_form {z : List (List S44)} (h : mvB z = false) (a : Int) (l : List Int) : Ev (fun k => maze_Visits.f k z a l) (false, 1) := by
  unfold maze_Visits.f
  refine Ev.bind (walk_form h a l) ?_
  exact Ev.now _
theorem conn_form {z : List (List S44)} (h : mvB z = false) : Ev (fun k => maze_Connected.f k z) (false, 1) := by
  refine Ev.congr (f := fun _ => some (false, 1)) (fun k => ?_) (Ev.now _)
  unfold maze_Connected.f maze_Valid.f
  rw [h, Option.bind_some, if_neg (by simp)]
theorem MazeWalks : Q.mizmazelaw10_MazeWalks.Pure := by
  intro z a l hz ha hl
  refine Ev.rounds (g := fun k => mizmazelaw10_MazeWalks.f k z a l) ?_
  unfold mizmazelaw10_MazeWalks.f
  have out : Ev (fun k => mizmazelaw10_MazeWalks.j0 k a l true z) true := by
    refine Ev.next ?_
    simp only [mizmazelaw10_MazeWalks.j0, if_true]
    exact awake10_end
  obtain ⟨b, hb, hv⟩ := wide_ev z
  refine Ev.bind hb ?_
  cases b with
  | true => simp only [if_true]; exact out
  | false =>
    simp only [Bool.false_eq_true, if_false]
    by_cases h5 : (l.length : Int) > 50000
    · rw [decide_eq_true h5]; exact out
    rw [decide_eq_false h5]
    refine Ev.next ?_
    simp only [mizmazelaw10_MazeWalks.j0, Bool.false_eq_true, if_false]
    cases hm : mvB z with
    | false =>
      refine Ev.bind (conn_form hm) (Ev.bind (walk_form hm a l) (Ev.bind (visits_form hm a l) ?_))
      refine Ev.bind (Ev.const (show maze_Valid.f z = some false by unfold maze_Valid.f; rw [hm])) ?_
      refine Ev.bind (hm ▸ ref_valid10 z) ?_
      simp only [bne_self_eq_false, Bool.false_eq_true, if_false]
      refine Ev.bind (hm ▸ ref_valid10 z) ?_
      simp only [Bool.false_eq_true, if_false, if_true, List.length_nil, Int.natCast_zero]
      exact awake10_end
    | true =>
      have V := mvB_iff.1 hm
      generalize hn : z.length = n at V
      generalize hk : (rd_L4 z 0).length = m at V
      have h0 := V.n0
      obtain ⟨c, hc1, hc2, _⟩ := conn_both V
      refine Ev.bind hc1 ?_
      by_cases hok : (0 ≤ a ∧ a < n) ∧ l.length ≤ 40000 ∧ inB (m : Int) l = true
      · obtain ⟨⟨ha0, ha1⟩, hl4, hin⟩ := hok
        obtain ⟨s, rfl⟩ := Int.eq_ofNat_of_zero_le ha0
        have hs : s < n := by omega
        obtain ⟨w, hw, rfl⟩ := toI_of hin
        rw [toI_len] at hl4
        obtain ⟨r1, hr1, hr1'⟩ := visits_ev V hw hl4 hs
        obtain ⟨r2, hr2, hr2'⟩ := ref_visits V hw (by omega) hs
        have hrr : r1 = r2 := by
          rw [Bool.eq_iff_iff, hr1', hr2']
        subst hrr
        refine Ev.bind (walk_ev V hw hl4 hs) (Ev.bind hr1 ?_)
        refine Ev.bind (Ev.const (show maze_Valid.f z = some true by unfold maze_Valid.f; rw [hm])) ?_
        refine Ev.bind (hm ▸ ref_valid10 z) ?_
        simp only [bne_self_eq_false, Bool.false_eq_true, if_false]
        refine Ev.bind (hm ▸ ref_valid10 z) ?_
        simp only [if_true]
        refine Ev.bind hc2 ?_
        simp only [bne_self_eq_false]
        refine Ev.next ?_
        simp only [mizmazelaw10_MazeWalks.j1, Bool.false_eq_true, if_false, hn, if_neg (show ¬ (s : Int) < 0 by omega), if_neg (show ¬ (s : Int) ≥ (n : Int) by omega), if_pos (show (0 : Int) < (n : Int) by omega), hk]
        refine Ev.bind (ref_word10 (m : Int) (toI w)) ?_
        rw [decide_eq_true (by rw [toI_len]; omega), Bool.true_and, inB_toI.2 hw]
        refine Ev.next ?_
        simp only [mizmazelaw10_MazeWalks.j2, Bool.not_true, Bool.false_eq_true, if_false, if_true]
        refine Ev.bind (ref_walk V hw (by omega) hs) ?_
        refine Ev.bind (same07 _ (by rw [toI_len, pathZ_len]; omega)) ?_
        simp only [if_true]
        refine Ev.bind hr2 ?_
        simp only [beq_self_eq_true, if_true]
        exact awake10_end
      · have fin : Ev (fun k => mizmazelaw10_MazeWalks.j2 k a l [] 2 false 2 true z) true := by
          refine Ev.next ?_
          simp only [mizmazelaw10_MazeWalks.j2, if_true, List.length_nil, Bool.false_eq_true, if_false]
          exact awake10_end
        refine Ev.bind (walk_arg V hok) (Ev.bind (visits_arg V hok) ?_)
        refine Ev.bind (Ev.const (show maze_Valid.f z = some true by unfold maze_Valid.f; rw [hm])) ?_
        refine Ev.bind (hm ▸ ref_valid10 z) ?_
        simp only [bne_self_eq_false, Bool.false_eq_true, if_false]
        refine Ev.bind (hm ▸ ref_valid10 z) ?_
        simp only [if_true]
        refine Ev.bind hc2 ?_
        simp only [bne_self_eq_false]
        refine Ev.next ?_
        simp only [mizmazelaw10_MazeWalks.j1, Bool.false_eq_true, if_false, hn]
        by_cases h1 : a < 0
        · simp only [if_pos h1]; exact fin
        simp only [if_neg h1]
        by_cases h2 : a ≥ (n : Int)
        · simp only [if_pos h2]; exact fin
        simp only [if_neg h2, if_pos (show (0 : Int) < (n : Int) by omega), hk]
        refine Ev.bind (ref_word10 (m : Int) l) ?_
        have : (decide (l.length ≤ 40000) && inB (m : Int) l) = false := by
          rw [← Bool.not_eq_true, Bool.and_eq_true, decide_eq_true_eq]
          exact fun h => hok ⟨⟨by omega, by omega⟩, h.1, h.2⟩
        rw [this]
        exact fin
end Go.Proofs.Ytgbjbgdnldklpaa.Pure
end
