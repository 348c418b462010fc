/- One word for all mazes: the word that is found for some numbers of rooms and doors visits all rooms of whatever connected maze with at most this number of rooms, also with doors before it and after it; it is proved for every input, without conditions. (text 14 of 31) -/
import Derived.Test.YtgbjbgdnldklpaaZTopMazeg
import Derived.Test.YtgbjbgdnldklpaaZTopMazem
import Derived.Test.YtgbjbgdnldklpaaZTopMazek
/-! Part XMVisits -/
section
namespace Go.Proofs.Ytgbjbgdnldklpaa.Q
open Go.RowKit Go.Proofs.YtgbjbgdnldklpaaW.PrintWords Go.Proofs.YtgbjbgdnldklpaaW.PrintLast Go.Proofs.YtgbjbgdnldklpaaW.PrintMore
set_option linter.unusedVariables false
set_option linter.unusedSimpArgs false
/-! ### maze.Visits -/
def maze_Visits.f (k : Nat) (l0_0 : List (List S44)) (a1 : Int) (l2 : List Int) : Option (Bool × Int) := (maze_Walk.f k l0_0 a1 l2).bind fun p => if p.2 = 0 then (if p.1.length < 4611686018427387904 then (if (tidy p.1).length ≤ p.1.length then some (((tidy p.1).length : Int) == (l0_0.length : Int), 0) else none) else none) else some (false, p.2)
theorem maze_Visits.mono : ∀ a0 a1 a2 k, LeO (maze_Visits.f k a0 a1 a2) (maze_Visits.f (k + 1) a0 a1 a2) := fun _ _ _ k => LeO.bind (maze_Walk.mono _ _ _ _) fun _ => LeO.refl _
def maze_Visits.T5 : Bool × List (List Nat × List Nat) := (true, [([], []), ([0], [0]), ([1], [1]), ([], []), ([3], [3]), ([4], [4]), ([2, 5], [2, 5]), ([6, 1, 0, 1, 2, 3, 4, 5, 6], [6]), ([7, 0, 1, 2, 3, 4, 5, 6, 7], [])])
def maze_Visits.B5 : List Nat := [0, 1, 3, 0, 8, 24, 63, 127, 255]
theorem maze_Visits.tab5 : rtab .any (opsOf Try.f31 5) = maze_Visits.T5 := by kernel_rfl
theorem maze_Visits.bits5 : waitsOk maze_Visits.T5.2 maze_Visits.B5 = true := by kernel_rfl
set_option maxHeartbeats 1000000 in
set_option maxRecDepth 100000 in
theorem maze_Visits.calls (k : Nat) (A0_0 : Option Addr) (c0_0 : Nat) (l0_0 : List (List S44)) (a1 : Int) (A2 : Option Addr) (c2 : Nat) (l2 : List Int) (r1 : Bool) (r2 : Int) (w : World) (hr0_0 : Kd.C (Kd.slice 44 k44) w A0_0 l0_0.length l0_0) (hc0_0 : l0_0.length ≤ c0_0) (hr2 : Kd.C (Kd.int .i64) w A2 l2.length l2) (hc2 : l2.length ≤ c2) (h : maze_Visits.f k l0_0 a1 l2 = some (r1, r2)) :
  Calls Try.prog 31 #[.agg #[.slice A0_0 l0_0.length c0_0], .int .i64 a1, .slice A2 l2.length c2] w fun e w' => e = .returned (.tuple #[.bool r1, .int .i64 r2]) ∧ Below w.heap.size w w' := by
 have HR := Aside0.mk hr0_0
 have HC := Aside0.mk hc0_0
 have HR2 := Aside0.mk hr2
 have HC2 := Aside0.mk hc2
 obtain ⟨⟨out, e⟩, hw, h⟩ := Option.bind_eq_some_iff.1 h
 have HW := Aside0.mk hw
 clear hr0_0 hc0_0 hr2 hc2 hw
 simp only at h
 by_cases d1 : e = 0
 ·rw [if_pos d1] at h
  by_cases d2 : out.length < 4611686018427387904
  ·rw [if_pos d2] at h
   by_cases d3 : (tidy out).length ≤ out.length
   ·rw [if_pos d3] at h
    obtain ⟨rfl, rfl⟩ := Prod.mk.inj (Option.some.inj h)
    subst d1
    have D2 := Aside0.mk d2
    have D3 := Aside0.mk d3
    clear h d2 d3
    go_enter Try.func31, Try.ntmps31
    go_wp2_with (first | ((with_reducible refine gate_dst (N := 3) rfl ?_); refine box_event ?hg (N := 3) ?hd (cs := #[.slice A0_0 l0_0.length c0_0]) (t := 38) ?hr ?_; (case hd => rfl); (case hg => rfl); (case hr => first | (go_simp; done) | (go_simp; rfl)); intro B hBe w1 hbox hb1; have HX := Aside0.mk hbox; have HB1 := Aside0.mk (below_step (Below.refl w.heap.size w) hb1); have hcb : w1.cell? ⟨B, 0, none⟩ = some (.slice A0_0 l0_0.length c0_0) := (blk_cell hbox 0).trans rfl; clear hbox hb1 hBe)  | (go_at_call 22; refine (maze_Walk.calls k _ _ l0_0 a1 _ _ l2 out 0 _ (Kd.C_below HR.out HB1.out) HC.out (Kd.C_below HR2.out HB1.out) HC2.out HW.out).mono ?_; rintro e w2 ⟨v8, rfl, hO, hb2⟩; have HO2 := Aside0.mk (Kd.R_lower hO HB1.out.size); have HB2 := Aside0.mk (below_step HB1.out hb2); have HX2 := Aside0.mk (blk_below HX.out hb2); clear hO hb2 hcb)  | (go_at_call 49; refine (sort_R HO2.out D2.out).mono ?_; rintro e w3 ⟨rfl, hO3, hg3⟩; have HO3 := Aside0.mk hO3; have HB3 := Aside0.mk (pw_below_grown HB2.out v8.ownBlock HB2.out.size hg3 (fun k hk => Kd.R_base HO2.out k hk)); have HX3 := Aside0.mk (blk_grown HX2.out hg3 (Kd.R_ne HO2.out HX2.out (by decide))); clear hO3 hg3))
    have hS : w3.drew.cell? ⟨B, 0, none⟩ = some (.slice A0_0 l0_0.length c0_0) := (blk_cell (w := w3.drew) HX3.out 0).trans rfl
    refine start_ (n := 9) (S := fun w' => w'.cell? ⟨B, 0, none⟩ = some (.slice A0_0 l0_0.length c0_0)) (ds := []) #[false, false, false, false, false, false, false, false, false] (by kernel_rfl) rfl rfl hS (fun hHeld => ?_); refine with_tabW maze_Visits.tab5 maze_Visits.bits5 (fun HT_ HW_ => ?_)
    clear hS
    refine pure_ (i := 0) (N := some 22) (v := ?_) (a' := ?_) #[true, false, false, false, false, false, false, false, false] rfl rfl (any_of HT_.out (by kernel_rfl)) (fun _ _ _ h => h) (Or.inl ⟨by rfl, ?_⟩) ?_ ?_
    rotate_left
    ·intro w'
     go_simp
     (try with_reducible rfl)
    rotate_left
    ·simp only [Act.put, List.setIfInBounds_toArray, List.set_cons_zero, List.set_cons_succ, i64_w, i32_w]
     rfl
    refine pure_ (i := 3) (N := some 25) (v := ?_) (a' := ?_) #[true, false, false, true, false, false, false, false, false] rfl rfl (any_of HT_.out (by kernel_rfl)) (fun _ _ _ h => h) (Or.inl ⟨by rfl, ?_⟩) ?_ ?_
    rotate_left
    ·intro w'
     go_simp
     (try with_reducible rfl)
    rotate_left
    ·simp only [Act.put, List.setIfInBounds_toArray, List.set_cons_zero, List.set_cons_succ, i64_w, i32_w]
     rfl
    refine take_ (i := 4) (N := some 26) (v := ?_) (a' := ?_) #[true, false, false, true, true, false, false, false, false] rfl rfl (take_ofW HT_.out HW_.out (by kernel_rfl)) (fun _ _ _ h => h) (Or.inl ⟨by rfl, ?_⟩) hHeld ?_ ?_
    rotate_left
    ·intro w' s0
     go_simp
     (try with_reducible rfl)
    rotate_left
    ·simp only [Act.put, List.setIfInBounds_toArray, List.set_cons_zero, List.set_cons_succ, i64_w, i32_w]
     rfl
    refine pure_ (i := 5) (N := some 27) (v := ?_) (a' := ?_) #[true, false, false, true, true, true, false, false, false] rfl rfl (any_of HT_.out (by kernel_rfl)) (fun _ _ _ h => h) (Or.inl ⟨by rfl, ?_⟩) ?_ ?_
    rotate_left
    ·intro w'
     go_simp
     (try with_reducible rfl)
    rotate_left
    ·simp only [Act.put, List.setIfInBounds_toArray, List.set_cons_zero, List.set_cons_succ, i64_w, i32_w]
     rfl
    refine one_ (i := 1) (N := some 23) #[true, true, false, true, true, true, false, false, false] rfl rfl (one_of HT_.out (by kernel_rfl)) (by decide) (fun K hK => ?_)
    refine goes_ Try.func50 (by kernel_rfl) rfl #[v8] (by rfl) rfl rfl (by (try simp only [List.map_toArray, List.map_cons, List.map_nil]); first | done | rfl | (simp only [List.length_drop, List.length_take]; rfl)) ?_
    have HO3d := Aside0.mk (Kd.R_drewN HO3.out 1)
    refine (compact_R (w := w3.drew) HO3d.out (by have := D3.out; rw [tidy_eq] at this; rw [List.length_mergeSort]; exact this)).mono ?_
    rintro e w4 ⟨v9, rfl, hv9, hO4, hg4⟩
    refine ⟨_, rfl, ?_⟩
    rw [← tidy_eq] at hO4
    have HB4 := Aside0.mk (pw_below_grown (pw_below_drewN HB3.out 1) v8.ownBlock (pw_below_drewN HB3.out 1).size hg4 (fun k hk => Kd.R_base HO3.out k hk))
    have HX4 := blk_grown (w := w3.drew) HX3.out hg4 (Kd.R_ne HO3.out HX3.out (by decide))
    have hcb4 : w4.cell? ⟨B, 0, none⟩ = some (.slice A0_0 l0_0.length c0_0) := (blk_cell HX4 0).trans rfl
    obtain ⟨A9, c9, e9⟩ := Kd.R_slice hO4
    subst e9
    clear hO4 hg4 HX4
    refine hK.out _ _ hcb4 (fun hHeld => ?_)
    clear hK K hcb4
    refine norm_ (a' := ?_) ?_ ?_
    rotate_left
    ·show Act.put _ (some 23) _ = _
     simp only [Act.put, List.setIfInBounds_toArray, List.set_cons_zero, List.set_cons_succ, i64_w, i32_w]
     rfl
    refine pure_ (i := 2) (N := some 24) (v := ?_) (a' := ?_) #[true, true, true, true, true, true, false, false, false] rfl rfl (any_of HT_.out (by kernel_rfl)) (fun _ _ _ h => h) (Or.inl ⟨by rfl, ?_⟩) ?_ ?_
    rotate_left
    ·intro w'
     go_simp
     (try with_reducible rfl)
    rotate_left
    ·simp only [Act.put, List.setIfInBounds_toArray, List.set_cons_zero, List.set_cons_succ, i64_w, i32_w]
     rfl
    refine pure_ (i := 6) (N := some 28) (v := ?_) (a' := ?_) #[true, true, true, true, true, true, true, false, false] rfl rfl (any_of HT_.out (by kernel_rfl)) (fun _ _ _ h => h) (Or.inl ⟨by rfl, ?_⟩) ?_ ?_
    rotate_left
    ·intro w'
     go_simp
     (try with_reducible rfl)
    rotate_left
    ·simp only [Act.put, List.setIfInBounds_toArray, List.set_cons_zero, List.set_cons_succ, i64_w, i32_w]
     rfl
    refine pure_ (i := 7) (N := some 6) (v := ?_) (a' := ?_) #[true, true, true, true, true, true, true, true, false] rfl rfl (any_of HT_.out (by kernel_rfl)) (fun _ _ _ h => h) (Or.inl ⟨by rfl, ?_⟩) ?_ ?_
    rotate_left
    ·intro w'
     go_simp
     (try with_reducible rfl)
    rotate_left
    ·simp only [Act.put, List.setIfInBounds_toArray, List.set_cons_zero, List.set_cons_succ, i64_w, i32_w]
     rfl
    refine pure_ (i := 8) (N := some 7) (v := ?_) (a' := ?_) #[true, true, true, true, true, true, true, true, true] rfl rfl (any_of HT_.out (by kernel_rfl)) (fun _ _ _ h => h) (Or.inl ⟨by rfl, ?_⟩) ?_ ?_
    rotate_left
    ·intro w'
     go_simp
     (try with_reducible rfl)
    rotate_left
    ·simp only [Act.put, List.setIfInBounds_toArray, List.set_cons_zero, List.set_cons_succ, i64_w, i32_w]
     rfl
    refine done_ (done_of HT_.out (by kernel_rfl)) ?_
    clear HT_ HW_
    go_wp2_with fail
    go_ret2
    exact ⟨rfl, HB4.out⟩
   ·rw [if_neg d3] at h; cases h
  ·rw [if_neg d2] at h; cases h
 ·rw [if_neg d1] at h
  obtain ⟨rfl, rfl⟩ := Prod.mk.inj (Option.some.inj h)
  have d1b : (e == 0) = false := by simp [d1]
  clear h
  go_enter Try.func31, Try.ntmps31
  go_wp2_with (first | ((with_reducible refine gate_dst (N := 3) rfl ?_); refine box_event ?hg (N := 3) ?hd (cs := #[.slice A0_0 l0_0.length c0_0]) (t := 38) ?hr ?_; (case hd => rfl); (case hg => rfl); (case hr => first | (go_simp; done) | (go_simp; rfl)); intro B hBe w1 hbox hb1; have HX := Aside0.mk hbox; have HB1 := Aside0.mk (below_step (Below.refl w.heap.size w) hb1); have hcb : w1.cell? ⟨B, 0, none⟩ = some (.slice A0_0 l0_0.length c0_0) := (blk_cell hbox 0).trans rfl; clear hbox hb1 hBe)  | (go_at_call 22; refine (maze_Walk.calls k _ _ l0_0 a1 _ _ l2 out e _ (Kd.C_below HR.out HB1.out) HC.out (Kd.C_below HR2.out HB1.out) HC2.out HW.out).mono ?_; rintro e w2 ⟨v8, rfl, hO, hb2⟩; have HB2 := Aside0.mk (below_step HB1.out hb2); clear hO hb2 hcb))
  go_ret2
  exact ⟨rfl, HB2.out⟩
end Go.Proofs.Ytgbjbgdnldklpaa.Q
end
