/- Whatever connected maze of the size there is, and wherever one begins, what Universal returns visits all of its rooms, also with letters before it and behind it; it is proved for every input, without conditions. (text 10 of 30) -/
import Derived.Test.YtgbjbgdnldklpaaZMazeHomeg
import Derived.BigRegion
/-! Part XGoes -/
section
namespace Go.Proofs.Ytgbjbgdnldklpaa.Q
open Go.RowKit Go.Proofs.YtgbjbgdnldklpaaW.PrintWords Go.Proofs.YtgbjbgdnldklpaaW.PrintLast Go.Proofs.YtgbjbgdnldklpaaW.PrintMore
set_option linter.unusedVariables false
set_option linter.unusedSimpArgs false
/-! ### one who walks through a small maze -/
def waC (Z : Nat) (at_ met : Int) : Array Value := #[.pointer (some ⟨Z, 0, none⟩), .int .u8 at_, .int .u16 met]
def WaB (w : World) (G Z : Nat) (at_ met : Int) : Prop := w.heap[G]? = some (.cells (waC Z at_ met) 81 (0, 0))
def goesF (n d : Int) (rs : List Int) (at_ met x : Int) : Option (Int × Int × Bool) :=
 if 0 ≤ n then (if 0 ≤ portU at_ d x then (if portU at_ d x < 12 then (if 0 ≤ rd rs (portU at_ d x) then some (rd rs (portU at_ d x), addU met (rd rs (portU at_ d x)), addU met (rd rs (portU at_ d x)) == fullU n) else none) else none) else none) else none
def maze_goes.T1 : Bool × List (List Nat × List Nat) := (true, [([], []), ([], []), ([1], [1]), ([2], [2]), ([3], [3]), ([], []), ([5], [5]), ([6], [6]), ([7], [7]), ([8], [8]), ([], []), ([10], [10]), ([11], [11]), ([12], [12]), ([13], [13]), ([14], [14]), ([15], [15]), ([9, 16], [9, 16]), ([], []), ([17, 18], [17, 18]), ([4], [4]), ([20], [20]), ([21, 19], [19, 21]), ([22], [22]), ([0, 0, 1, 2, 3, 4, 5, 6, 7, 8, 9, 10, 11, 12, 13, 14, 15, 16, 17, 18, 19, 20, 21, 22, 23], [0]), ([24, 0, 1, 2, 3, 4, 5, 6, 7, 8, 9, 10, 11, 12, 13, 14, 15, 16, 17, 18, 19, 20, 21, 22, 23], [24]), ([25, 23, 0, 1, 2, 3, 4, 5, 6, 7, 8, 9, 10, 11, 12, 13, 14, 15, 16, 17, 18, 19, 20, 21, 22, 23], [23, 25])])
def maze_goes.B1 : List Nat := [0, 0, 2, 6, 14, 0, 32, 96, 224, 480, 0, 1024, 3072, 7168, 15360, 31744, 64512, 131040, 0, 524256, 30, 1048606, 4194302, 8388606, 16777215, 33554431, 67108863]
theorem maze_goes.tab1 : rtab .any (opsOf Try.f47 1) = maze_goes.T1 := by kernel_rfl
theorem maze_goes.bits1 : waitsOk maze_goes.T1.2 maze_goes.B1 = true := by kernel_rfl
def maze_goes.T2 : Bool × List (List Nat × List Nat) := (true, [([], []), ([0], [0]), ([1], [1]), ([2], [2]), ([], []), ([4], [4]), ([5], [5]), ([6], [6]), ([7], [7]), ([3, 8], [3, 8]), ([0, 0, 1, 2, 3, 4, 5, 6, 7, 8, 9], [0]), ([10, 0, 1, 2, 3, 4, 5, 6, 7, 8, 9], [10]), ([11, 9, 0, 1, 2, 3, 4, 5, 6, 7, 8, 9], [9, 11])])
def maze_goes.B2 : List Nat := [0, 1, 3, 7, 0, 16, 48, 112, 240, 511, 1023, 2047, 4095]
theorem maze_goes.tab2 : rtab .any (opsOf Try.f47 2) = maze_goes.T2 := by kernel_rfl
theorem maze_goes.bits2 : waitsOk maze_goes.T2.2 maze_goes.B2 = true := by kernel_rfl
theorem WaB.set1 {w : World} {G Z : Nat} {at_ met : Int} (h : WaB w G Z at_ met) (v : Int) : WaB (w.setCell ⟨G, 1, none⟩ (.int .u8 v)) G Z v met := blk_put h 1 _ rfl
theorem WaB.set2 {w : World} {G Z : Nat} {at_ met : Int} (h : WaB w G Z at_ met) (v : Int) : WaB (w.setCell ⟨G, 2, none⟩ (.int .u16 v)) G Z at_ v := blk_put h 2 _ rfl
theorem grown_trans'' {w w1 w2 : World} {row : Option Nat} (h : w.grownBy w1 row) (h2 : w1.grownBy w2 row) : w.grownBy w2 row :=
 ⟨h2.os.trans h.os, h2.tape.trans h.tape, h2.output.trans h.output, Nat.le_trans h.size h2.size, fun i hi hne => (h2.block i (Nat.lt_of_lt_of_le hi h.size) hne).trans (h.block i hi hne)⟩
set_option maxHeartbeats 1000000 in
set_option maxRecDepth 100000 in
theorem goes_calls (n d : Int) (rs : List Int) (at_ met x a2 m2 : Int) (b : Bool) (G Z : Nat) (w : World) (hZ : SmB w Z n d rs) (hG : WaB w G Z at_ met) (h : goesF n d rs at_ met x = some (a2, m2, b)) :
  Calls Try.prog 47 #[.pointer (some ⟨G, 0, none⟩), .int .i64 x] w fun e w' => e = .returned (.bool b) ∧ WaB w' G Z a2 m2 ∧ w.grownBy w' (some G) := by
 unfold goesF at h
 by_cases c0 : 0 ≤ n
 ·rw [if_pos c0] at h
  obtain ⟨idx, hidx⟩ : ∃ z, portU at_ d x = z := ⟨_, rfl⟩
  rw [hidx] at h
  unfold portU at hidx
  have hidx2 : wrap64 (wrap64 (wrap64 at_ * d) + x) = idx := by rw [← hidx]; simp only [i64_w]
  by_cases c1 : 0 ≤ idx
  ·rw [if_pos c1] at h
   by_cases c2 : idx < 12
   ·rw [if_pos c2] at h
    have hci := hZ.at_ idx c1 c2
    obtain ⟨tt, htt⟩ : ∃ z, rd rs idx = z := ⟨_, rfl⟩
    rw [htt] at h hci
    by_cases c3 : 0 ≤ tt
    ·rw [if_pos c3] at h
     simp only [Option.some.injEq, Prod.mk.injEq] at h
     obtain ⟨rfl, rfl, hb⟩ := h
     have HB := Aside0.mk hb
     have HZ := Aside0.mk hZ
     have HG := Aside0.mk hG
     have C0 := Aside0.mk c0
     have hcd := hZ.d
     have hg0 : w.cell? ⟨G, 0, none⟩ = some (.pointer (some ⟨Z, 0, none⟩)) := (blk_cell hG 0).trans rfl
     have hg1 : w.cell? ⟨G, 1, none⟩ = some (.int .u8 at_) := (blk_cell hG 1).trans rfl
     have hS : w.drew.cell? ⟨G, 0, none⟩ = some (.pointer (some ⟨Z, 0, none⟩)) ∧ w.drew.cell? ⟨G, 1, none⟩ = some (.int .u8 at_) ∧ w.drew.cell? ⟨Z, 1, none⟩ = some (.int .i64 d) ∧ w.drew.cell? ⟨Z, 2 + idx.toNat, none⟩ = some (.int .u8 tt) := ⟨hg0, hg1, hcd, hci⟩
     have p1 := eq_true c1
     have p2 := eq_true c2
     have p3 := eq_true c3
     clear hb hZ hG htt hci hcd hg0 hg1 c0 c1 c2 c3
     go_enter Try.func47, Try.ntmps47
     go_wp2_with fail
     refine start_ (n := 27) (S := fun w' => w'.cell? ⟨G, 0, none⟩ = some (.pointer (some ⟨Z, 0, none⟩)) ∧ w'.cell? ⟨G, 1, none⟩ = some (.int .u8 at_) ∧ w'.cell? ⟨Z, 1, none⟩ = some (.int .i64 d) ∧ w'.cell? ⟨Z, 2 + idx.toNat, none⟩ = some (.int .u8 tt)) (ds := [26]) #[false, false, false, false, false, false, false, false, false, false, false, false, false, false, false, false, false, false, false, false, false, false, false, false, false, false, false] (by kernel_rfl) rfl rfl hS (fun hHeld => ?_); refine with_tabW maze_goes.tab1 maze_goes.bits1 (fun HT_ HW_ => ?_)
     clear hS
     refine pure_ (i := 0) (N := some 5) (v := ?_) (a' := ?_) #[true, false, false, false, false, false, false, false, false, false, false, false, false, false, false, false, false, false, false, false, false, false, false, false, false, false, false] rfl rfl (any_of HT_.out (by kernel_rfl)) (fun _ _ _ h => h) (Or.inl ⟨by rfl, ?_⟩) ?_ ?_
     rotate_left
     ·intro w'
      go_simp
      (try with_reducible rfl)
     rotate_left
     ·simp only [Act.put, List.setIfInBounds_toArray, List.set_cons_zero, List.set_cons_succ, i64_w, i32_w]
      rfl
     refine pure_ (i := 1) (N := some 6) (v := ?_) (a' := ?_) #[true, true, false, false, false, false, false, false, false, false, false, false, false, false, false, false, false, false, false, false, false, false, false, false, false, false, false] rfl rfl (any_of HT_.out (by kernel_rfl)) (fun _ _ _ h => h) (Or.inl ⟨by rfl, ?_⟩) ?_ ?_
     rotate_left
     ·intro w'
      go_simp
      (try with_reducible rfl)
     rotate_left
     ·simp only [Act.put, List.setIfInBounds_toArray, List.set_cons_zero, List.set_cons_succ, i64_w, i32_w]
      rfl
     refine pure_ (i := 2) (N := some 7) (v := ?_) (a' := ?_) #[true, true, true, false, false, false, false, false, false, false, false, false, false, false, false, false, false, false, false, false, false, false, false, false, false, false, false] rfl rfl (any_of HT_.out (by kernel_rfl)) (fun _ _ _ h => h) (Or.inl ⟨by rfl, ?_⟩) ?_ ?_
     rotate_left
     ·intro w'
      go_simp
      (try with_reducible rfl)
     rotate_left
     ·simp only [Act.put, List.setIfInBounds_toArray, List.set_cons_zero, List.set_cons_succ, i64_w, i32_w]
      rfl
     refine pure_ (i := 3) (N := some 8) (v := ?_) (a' := ?_) #[true, true, true, true, false, false, false, false, false, false, false, false, false, false, false, false, false, false, false, false, false, false, false, false, false, false, false] rfl rfl (any_of HT_.out (by kernel_rfl)) (fun _ _ _ h => h) (Or.inl ⟨by rfl, ?_⟩) ?_ ?_
     rotate_left
     ·intro w'
      go_simp
      (try with_reducible rfl)
     rotate_left
     ·simp only [Act.put, List.setIfInBounds_toArray, List.set_cons_zero, List.set_cons_succ, i64_w, i32_w]
      rfl
     refine pure_ (i := 5) (N := some 10) (v := ?_) (a' := ?_) #[true, true, true, true, false, true, false, false, false, false, false, false, false, false, false, false, false, false, false, false, false, false, false, false, false, false, false] rfl rfl (any_of HT_.out (by kernel_rfl)) (fun _ _ _ h => h) (Or.inl ⟨by rfl, ?_⟩) ?_ ?_
     rotate_left
     ·intro w'
      go_simp
      (try with_reducible rfl)
     rotate_left
     ·simp only [Act.put, List.setIfInBounds_toArray, List.set_cons_zero, List.set_cons_succ, i64_w, i32_w]
      rfl
     refine pure_ (i := 6) (N := some 11) (v := ?_) (a' := ?_) #[true, true, true, true, false, true, true, false, false, false, false, false, false, false, false, false, false, false, false, false, false, false, false, false, false, false, false] rfl rfl (any_of HT_.out (by kernel_rfl)) (fun _ _ _ h => h) (Or.inl ⟨by rfl, ?_⟩) ?_ ?_
     rotate_left
     ·intro w'
      go_simp
      (try with_reducible rfl)
     rotate_left
     ·simp only [Act.put, List.setIfInBounds_toArray, List.set_cons_zero, List.set_cons_succ, i64_w, i32_w]
      rfl
     refine pure_ (i := 7) (N := some 12) (v := ?_) (a' := ?_) #[true, true, true, true, false, true, true, true, false, false, false, false, false, false, false, false, false, false, false, false, false, false, false, false, false, false, false] rfl rfl (any_of HT_.out (by kernel_rfl)) (fun _ _ _ h => h) (Or.inl ⟨by rfl, ?_⟩) ?_ ?_
     rotate_left
     ·intro w'
      go_simp
      (try with_reducible rfl)
     rotate_left
     ·simp only [Act.put, List.setIfInBounds_toArray, List.set_cons_zero, List.set_cons_succ, i64_w, i32_w]
      rfl
     refine pure_ (i := 10) (N := some 15) (v := ?_) (a' := ?_) #[true, true, true, true, false, true, true, true, false, false, true, false, false, false, false, false, false, false, false, false, false, false, false, false, false, false, false] rfl rfl (any_of HT_.out (by kernel_rfl)) (fun _ _ _ h => h) (Or.inl ⟨by rfl, ?_⟩) ?_ ?_
     rotate_left
     ·intro w'
      go_simp
      (try with_reducible rfl)
     rotate_left
     ·simp only [Act.put, List.setIfInBounds_toArray, List.set_cons_zero, List.set_cons_succ, i64_w, i32_w]
      rfl
     refine pure_ (i := 11) (N := some 16) (v := ?_) (a' := ?_) #[true, true, true, true, false, true, true, true, false, false, true, true, false, false, false, false, false, false, false, false, false, false, false, false, false, false, false] rfl rfl (any_of HT_.out (by kernel_rfl)) (fun _ _ _ h => h) (Or.inl ⟨by rfl, ?_⟩) ?_ ?_
     rotate_left
     ·intro w'
      go_simp
      (try with_reducible rfl)
     rotate_left
     ·simp only [Act.put, List.setIfInBounds_toArray, List.set_cons_zero, List.set_cons_succ, i64_w, i32_w]
      rfl
     refine pure_ (i := 12) (N := some 17) (v := ?_) (a' := ?_) #[true, true, true, true, false, true, true, true, false, false, true, true, true, false, false, false, false, false, false, false, false, false, false, false, false, false, false] rfl rfl (any_of HT_.out (by kernel_rfl)) (fun _ _ _ h => h) (Or.inl ⟨by rfl, ?_⟩) ?_ ?_
     rotate_left
     ·intro w'
      go_simp
      (try with_reducible rfl)
     rotate_left
     ·simp only [Act.put, List.setIfInBounds_toArray, List.set_cons_zero, List.set_cons_succ, i64_w, i32_w]
      rfl
     refine pure_ (i := 18) (N := some 23) (v := ?_) (a' := ?_) #[true, true, true, true, false, true, true, true, false, false, true, true, true, false, false, false, false, false, true, false, false, false, false, false, false, false, false] rfl rfl (any_of HT_.out (by kernel_rfl)) (fun _ _ _ h => h) (Or.inl ⟨by rfl, ?_⟩) ?_ ?_
     rotate_left
     ·intro w'
      go_simp
      (try with_reducible rfl)
     rotate_left
     ·simp only [Act.put, List.setIfInBounds_toArray, List.set_cons_zero, List.set_cons_succ, i64_w, i32_w]
      rfl
     refine take_ (i := 4) (N := some 9) (v := ?_) (a' := ?_) #[true, true, true, true, true, true, true, true, false, false, true, true, true, false, false, false, false, false, true, false, false, false, false, false, false, false, false] rfl rfl (take_ofW HT_.out HW_.out (by kernel_rfl)) (fun _ _ _ h => h) (Or.inl ⟨by rfl, ?_⟩) hHeld ?_ ?_
     rotate_left
     ·intro w' ⟨s0, s1, s2, s3⟩
      go_simp
      (try with_reducible rfl)
     rotate_left
     ·simp only [Act.put, List.setIfInBounds_toArray, List.set_cons_zero, List.set_cons_succ, i64_w, i32_w]
      rfl
     refine pure_ (i := 20) (N := some 25) (v := ?_) (a' := ?_) #[true, true, true, true, true, true, true, true, false, false, true, true, true, false, false, false, false, false, true, false, true, false, false, false, false, false, false] rfl rfl (any_of HT_.out (by kernel_rfl)) (fun _ _ _ h => h) (Or.inl ⟨by rfl, ?_⟩) ?_ ?_
     rotate_left
     ·intro w'
      go_simp
      (try with_reducible rfl)
     rotate_left
     ·simp only [Act.put, List.setIfInBounds_toArray, List.set_cons_zero, List.set_cons_succ, i64_w, i32_w]
      rfl
     refine pure_ (i := 21) (N := some 26) (v := ?_) (a' := ?_) #[true, true, true, true, true, true, true, true, false, false, true, true, true, false, false, false, false, false, true, false, true, true, false, false, false, false, false] rfl rfl (any_of HT_.out (by kernel_rfl)) (fun _ _ _ h => h) (Or.inl ⟨by rfl, ?_⟩) ?_ ?_
     rotate_left
     ·intro w'
      go_simp
      (try with_reducible rfl)
     rotate_left
     ·simp only [Act.put, List.setIfInBounds_toArray, List.set_cons_zero, List.set_cons_succ, i64_w, i32_w]
      rfl
     refine take_ (i := 8) (N := some 13) (v := ?_) (a' := ?_) #[true, true, true, true, true, true, true, true, true, false, true, true, true, false, false, false, false, false, true, false, true, true, false, false, false, false, false] rfl rfl (take_ofW HT_.out HW_.out (by kernel_rfl)) (fun _ _ _ h => h) (Or.inl ⟨by rfl, ?_⟩) hHeld ?_ ?_
     rotate_left
     ·intro w' ⟨s0, s1, s2, s3⟩
      go_simp
      (try with_reducible rfl)
     rotate_left
     ·simp only [Act.put, List.setIfInBounds_toArray, List.set_cons_zero, List.set_cons_succ, i64_w, i32_w]
      rfl
     refine pure_ (i := 9) (N := some 14) (v := ?_) (a' := ?_) #[true, true, true, true, true, true, true, true, true, true, true, true, true, false, false, false, false, false, true, false, true, true, false, false, false, false, false] rfl rfl (any_of HT_.out (by kernel_rfl)) (fun _ _ _ h => h) (Or.inl ⟨by rfl, ?_⟩) ?_ ?_
     rotate_left
     ·intro w'
      go_simp
      (try with_reducible rfl)
     rotate_left
     ·simp only [Act.put, List.setIfInBounds_toArray, List.set_cons_zero, List.set_cons_succ, i64_w, i32_w]
      rfl
     refine take_ (i := 13) (N := some 18) (v := ?_) (a' := ?_) #[true, true, true, true, true, true, true, true, true, true, true, true, true, true, false, false, false, false, true, false, true, true, false, false, false, false, false] rfl rfl (take_ofW HT_.out HW_.out (by kernel_rfl)) (fun _ _ _ h => h) (Or.inl ⟨by rfl, ?_⟩) hHeld ?_ ?_
     rotate_left
     ·intro w' ⟨s0, s1, s2, s3⟩
      go_simp
      (try with_reducible rfl)
     rotate_left
     ·simp only [Act.put, List.setIfInBounds_toArray, List.set_cons_zero, List.set_cons_succ, i64_w, i32_w]
      rfl
     refine pure_ (i := 14) (N := some 19) (v := ?_) (a' := ?_) #[true, true, true, true, true, true, true, true, true, true, true, true, true, true, true, false, false, false, true, false, true, true, false, false, false, false, false] rfl rfl (any_of HT_.out (by kernel_rfl)) (fun _ _ _ h => h) (Or.inl ⟨by rfl, ?_⟩) ?_ ?_
     rotate_left
     ·intro w'
      go_simp
      (try with_reducible rfl)
     rotate_left
     ·simp only [Act.put, List.setIfInBounds_toArray, List.set_cons_zero, List.set_cons_succ, i64_w, i32_w]
      rfl
     refine pure_ (i := 15) (N := some 20) (v := ?_) (a' := ?_) #[true, true, true, true, true, true, true, true, true, true, true, true, true, true, true, true, false, false, true, false, true, true, false, false, false, false, false] rfl rfl (any_of HT_.out (by kernel_rfl)) (fun _ _ _ h => h) (Or.inl ⟨by rfl, ?_⟩) ?_ ?_
     rotate_left
     ·intro w'
      go_simp
      (try with_reducible rfl)
     rotate_left
     ·simp only [Act.put, List.setIfInBounds_toArray, List.set_cons_zero, List.set_cons_succ, i64_w, i32_w]
      rfl
     refine take_ (i := 16) (N := some 21) (v := ?_) (a' := ?_) #[true, true, true, true, true, true, true, true, true, true, true, true, true, true, true, true, true, false, true, false, true, true, false, false, false, false, false] rfl rfl (take_ofW HT_.out HW_.out (by kernel_rfl)) (fun _ _ _ h => h) (Or.inl ⟨by rfl, ?_⟩) hHeld ?_ ?_
     rotate_left
     ·intro w' ⟨s0, s1, s2, s3⟩
      go_simp
      (try with_reducible rfl)
     rotate_left
     ·simp only [Act.put, List.setIfInBounds_toArray, List.set_cons_zero, List.set_cons_succ, i64_w, i32_w]
      rfl
     refine pure_ (i := 17) (N := some 22) (v := ?_) (a' := ?_) #[true, true, true, true, true, true, true, true, true, true, true, true, true, true, true, true, true, true, true, false, true, true, false, false, false, false, false] rfl rfl (any_of HT_.out (by kernel_rfl)) (fun _ _ _ h => h) (Or.inl ⟨by rfl, ?_⟩) ?_ ?_
     rotate_left
     ·intro w'
      go_simp
      (try with_reducible rfl)
     rotate_left
     ·simp only [Act.put, List.setIfInBounds_toArray, List.set_cons_zero, List.set_cons_succ, i64_w, i32_w]
      rfl
     refine pure_ (i := 19) (N := some 24) (v := ?_) (a' := ?_) #[true, true, true, true, true, true, true, true, true, true, true, true, true, true, true, true, true, true, true, true, true, true, false, false, false, false, false] rfl rfl (any_of HT_.out (by kernel_rfl)) (fun _ _ _ h => h) (Or.inl ⟨by rfl, ?_⟩) ?_ ?_
     rotate_left
     ·intro w'
      go_simp
      (try with_reducible rfl)
     rotate_left
     ·simp only [Act.put, List.setIfInBounds_toArray, List.set_cons_zero, List.set_cons_succ, i64_w, i32_w]
      rfl
     refine pure_ (i := 22) (N := some 27) (v := ?_) (a' := ?_) #[true, true, true, true, true, true, true, true, true, true, true, true, true, true, true, true, true, true, true, true, true, true, true, false, false, false, false] rfl rfl (any_of HT_.out (by kernel_rfl)) (fun _ _ _ h => h) (Or.inl ⟨by rfl, ?_⟩) ?_ ?_
     rotate_left
     ·intro w'
      go_simp
      (try with_reducible rfl)
     rotate_left
     ·simp only [Act.put, List.setIfInBounds_toArray, List.set_cons_zero, List.set_cons_succ, i64_w, i32_w]
      rfl
     refine take_ (i := 23) (N := some 28) (v := ?_) (a' := ?_) #[true, true, true, true, true, true, true, true, true, true, true, true, true, true, true, true, true, true, true, true, true, true, true, true, false, false, false] rfl rfl (take_ofW HT_.out HW_.out (by kernel_rfl)) (fun _ _ _ h => h) (Or.inl ⟨by rfl, ?_⟩) hHeld ?_ ?_
     rotate_left
     ·intro w' ⟨s0, s1, s2, s3⟩
      go_simp
      (try with_reducible rfl)
     rotate_left
     ·simp only [Act.put, List.setIfInBounds_toArray, List.set_cons_zero, List.set_cons_succ, i64_w, i32_w]
      rfl
     refine pure_ (i := 24) (N := some 29) (v := ?_) (a' := ?_) #[true, true, true, true, true, true, true, true, true, true, true, true, true, true, true, true, true, true, true, true, true, true, true, true, true, false, false] rfl rfl (any_of HT_.out (by kernel_rfl)) (fun _ _ _ h => h) (Or.inl ⟨by rfl, ?_⟩) ?_ ?_
     rotate_left
     ·intro w'
      go_simp
      (try with_reducible rfl)
     rotate_left
     ·simp only [Act.put, List.setIfInBounds_toArray, List.set_cons_zero, List.set_cons_succ, i64_w, i32_w]
      rfl
     refine pure_ (i := 25) (N := some 30) (v := ?_) (a' := ?_) #[true, true, true, true, true, true, true, true, true, true, true, true, true, true, true, true, true, true, true, true, true, true, true, true, true, true, false] rfl rfl (any_of HT_.out (by kernel_rfl)) (fun _ _ _ h => h) (Or.inl ⟨by rfl, ?_⟩) ?_ ?_
     rotate_left
     ·intro w'
      go_simp
      (try with_reducible rfl)
     rotate_left
     ·simp only [Act.put, List.setIfInBounds_toArray, List.set_cons_zero, List.set_cons_succ, i64_w, i32_w]
      rfl
     refine last_ (i := 26) (N := none) #[true, true, true, true, true, true, true, true, true, true, true, true, true, true, true, true, true, true, true, true, true, true, true, true, true, true, true] rfl rfl (one_of HT_.out (by kernel_rfl)) (by decide) (fun K hK => ?_)
     have hfz := blk_frozen (w := w.drew) HG.out 1
     have hcz : w.drew.cell? ⟨G, 1, none⟩ = some (.int .u8 at_) := (blk_cell (w := w.drew) HG.out 1).trans rfl
     refine skip_ (w1 := w.drew.setCell ⟨G, 1, none⟩ (.int .u8 tt)) (by rfl) rfl (by first | (go_simp; done) | (go_simp; rfl)) ?_
     have HG1 : Aside0 (WaB (w.drew.setCell ⟨G, 1, none⟩ (.int .u8 tt)) G Z tt met) := ⟨WaB.set1 (w := w.drew) HG.out tt⟩
     have HW1 : Aside0 (w.grownBy (w.drew.setCell ⟨G, 1, none⟩ (.int .u8 tt)) (some G)) := ⟨by
      have h1 := grown_of_below (below_drew (Below.refl _ w)) (some G)
      have h2 : w.drew.grownBy (w.drew.setCell ⟨G, 1, none⟩ (.int .u8 tt)) (some G) := ⟨rfl, rfl, rfl, by simp [World.setCell], fun k _ hk => Below.heap_setCell _ _ _ k (fun e => hk (by rw [e]))⟩
      exact ⟨h2.os.trans h1.os, h2.tape.trans h1.tape, h2.output.trans h1.output, Nat.le_trans h1.size h2.size, fun i hi hne => (h2.block i (Nat.lt_of_lt_of_le hi h1.size) hne).trans (h1.block i hi hne)⟩⟩
     clear hfz hcz hHeld
     generalize w.drew.setCell ⟨G, 1, none⟩ (.int .u8 tt) = wa at HG1 HW1 ⊢
     refine hK.out _ _ ?_
     clear hK K
     refine done_ (done_of HT_.out (by kernel_rfl)) ?_
     clear HT_ HW_
     go_wp2_with fail
     have hS : wa.drew.cell? ⟨G, 1, none⟩ = some (.int .u8 tt) ∧ wa.drew.cell? ⟨G, 2, none⟩ = some (.int .u16 met) := ⟨(blk_cell (w := wa.drew) HG1.out 1).trans rfl, (blk_cell (w := wa.drew) HG1.out 2).trans rfl⟩
     refine start_ (n := 13) (S := fun w' => w'.cell? ⟨G, 1, none⟩ = some (.int .u8 tt) ∧ w'.cell? ⟨G, 2, none⟩ = some (.int .u16 met)) (ds := [12]) #[false, false, false, false, false, false, false, false, false, false, false, false, false] (by kernel_rfl) rfl rfl hS (fun hHeld => ?_); refine with_tabW maze_goes.tab2 maze_goes.bits2 (fun HT_ HW_ => ?_)
     clear hS
     refine pure_ (i := 0) (N := some 31) (v := ?_) (a' := ?_) #[true, false, false, false, false, false, false, false, false, false, false, false, false] rfl rfl (any_of HT_.out (by kernel_rfl)) (fun _ _ _ h => h) (Or.inl ⟨by rfl, ?_⟩) ?_ ?_
     rotate_left
     ·intro w'
      go_simp
      (try with_reducible rfl)
     rotate_left
     ·simp only [Act.put, List.setIfInBounds_toArray, List.set_cons_zero, List.set_cons_succ, i64_w, i32_w]
      rfl
     refine pure_ (i := 1) (N := some 32) (v := ?_) (a' := ?_) #[true, true, false, false, false, false, false, false, false, false, false, false, false] rfl rfl (any_of HT_.out (by kernel_rfl)) (fun _ _ _ h => h) (Or.inl ⟨by rfl, ?_⟩) ?_ ?_
     rotate_left
     ·intro w'
      go_simp
      (try with_reducible rfl)
     rotate_left
     ·simp only [Act.put, List.setIfInBounds_toArray, List.set_cons_zero, List.set_cons_succ, i64_w, i32_w]
      rfl
     refine pure_ (i := 2) (N := some 33) (v := ?_) (a' := ?_) #[true, true, true, false, false, false, false, false, false, false, false, false, false] rfl rfl (any_of HT_.out (by kernel_rfl)) (fun _ _ _ h => h) (Or.inl ⟨by rfl, ?_⟩) ?_ ?_
     rotate_left
     ·intro w'
      go_simp
      (try with_reducible rfl)
     rotate_left
     ·simp only [Act.put, List.setIfInBounds_toArray, List.set_cons_zero, List.set_cons_succ, i64_w, i32_w]
      rfl
     refine pure_ (i := 4) (N := some 35) (v := ?_) (a' := ?_) #[true, true, true, false, true, false, false, false, false, false, false, false, false] rfl rfl (any_of HT_.out (by kernel_rfl)) (fun _ _ _ h => h) (Or.inl ⟨by rfl, ?_⟩) ?_ ?_
     rotate_left
     ·intro w'
      go_simp
      (try with_reducible rfl)
     rotate_left
     ·simp only [Act.put, List.setIfInBounds_toArray, List.set_cons_zero, List.set_cons_succ, i64_w, i32_w]
      rfl
     refine pure_ (i := 5) (N := some 36) (v := ?_) (a' := ?_) #[true, true, true, false, true, true, false, false, false, false, false, false, false] rfl rfl (any_of HT_.out (by kernel_rfl)) (fun _ _ _ h => h) (Or.inl ⟨by rfl, ?_⟩) ?_ ?_
     rotate_left
     ·intro w'
      go_simp
      (try with_reducible rfl)
     rotate_left
     ·simp only [Act.put, List.setIfInBounds_toArray, List.set_cons_zero, List.set_cons_succ, i64_w, i32_w]
      rfl
     refine pure_ (i := 6) (N := some 37) (v := ?_) (a' := ?_) #[true, true, true, false, true, true, true, false, false, false, false, false, false] rfl rfl (any_of HT_.out (by kernel_rfl)) (fun _ _ _ h => h) (Or.inl ⟨by rfl, ?_⟩) ?_ ?_
     rotate_left
     ·intro w'
      go_simp
      (try with_reducible rfl)
     rotate_left
     ·simp only [Act.put, List.setIfInBounds_toArray, List.set_cons_zero, List.set_cons_succ, i64_w, i32_w]
      rfl
     refine take_ (i := 3) (N := some 34) (v := ?_) (a' := ?_) #[true, true, true, true, true, true, true, false, false, false, false, false, false] rfl rfl (take_ofW HT_.out HW_.out (by kernel_rfl)) (fun _ _ _ h => h) (Or.inl ⟨by rfl, ?_⟩) hHeld ?_ ?_
     rotate_left
     ·intro w' ⟨s0, s1⟩
      go_simp
      (try with_reducible rfl)
     rotate_left
     ·simp only [Act.put, List.setIfInBounds_toArray, List.set_cons_zero, List.set_cons_succ, i64_w, i32_w]
      rfl
     refine take_ (i := 7) (N := some 38) (v := ?_) (a' := ?_) #[true, true, true, true, true, true, true, true, false, false, false, false, false] rfl rfl (take_ofW HT_.out HW_.out (by kernel_rfl)) (fun _ _ _ h => h) (Or.inl ⟨by rfl, ?_⟩) hHeld ?_ ?_
     rotate_left
     ·intro w' ⟨s0, s1⟩
      go_simp
      (try with_reducible rfl)
     rotate_left
     ·simp only [Act.put, List.setIfInBounds_toArray, List.set_cons_zero, List.set_cons_succ, i64_w, i32_w]
      rfl
     refine pure_ (i := 8) (N := some 39) (v := ?_) (a' := ?_) #[true, true, true, true, true, true, true, true, true, false, false, false, false] rfl rfl (any_of HT_.out (by kernel_rfl)) (fun _ _ _ h => h) (Or.inl ⟨by rfl, ?_⟩) ?_ ?_
     rotate_left
     ·intro w'
      go_simp
      (try with_reducible rfl)
     rotate_left
     ·simp only [Act.put, List.setIfInBounds_toArray, List.set_cons_zero, List.set_cons_succ, i64_w, i32_w]
      rfl
     refine pure_ (i := 9) (N := some 40) (v := ?_) (a' := ?_) #[true, true, true, true, true, true, true, true, true, true, false, false, false] rfl rfl (any_of HT_.out (by kernel_rfl)) (fun _ _ _ h => h) (Or.inl ⟨by rfl, ?_⟩) ?_ ?_
     rotate_left
     ·intro w'
      go_simp
      (try with_reducible rfl)
     rotate_left
     ·simp only [Act.put, List.setIfInBounds_toArray, List.set_cons_zero, List.set_cons_succ, i64_w, i32_w]
      rfl
     refine pure_ (i := 10) (N := some 41) (v := ?_) (a' := ?_) #[true, true, true, true, true, true, true, true, true, true, true, false, false] rfl rfl (any_of HT_.out (by kernel_rfl)) (fun _ _ _ h => h) (Or.inl ⟨by rfl, ?_⟩) ?_ ?_
     rotate_left
     ·intro w'
      go_simp
      (try with_reducible rfl)
     rotate_left
     ·simp only [Act.put, List.setIfInBounds_toArray, List.set_cons_zero, List.set_cons_succ, i64_w, i32_w]
      rfl
     refine pure_ (i := 11) (N := some 42) (v := ?_) (a' := ?_) #[true, true, true, true, true, true, true, true, true, true, true, true, false] rfl rfl (any_of HT_.out (by kernel_rfl)) (fun _ _ _ h => h) (Or.inl ⟨by rfl, ?_⟩) ?_ ?_
     rotate_left
     ·intro w'
      go_simp
      (try with_reducible rfl)
     rotate_left
     ·simp only [Act.put, List.setIfInBounds_toArray, List.set_cons_zero, List.set_cons_succ, i64_w, i32_w]
      rfl
     refine last_ (i := 12) (N := none) #[true, true, true, true, true, true, true, true, true, true, true, true, true] rfl rfl (one_of HT_.out (by kernel_rfl)) (by decide) (fun K hK => ?_)
     have hfz := blk_frozen (w := wa.drew) HG1.out 2
     have hcz : wa.drew.cell? ⟨G, 2, none⟩ = some (.int .u16 met) := (blk_cell (w := wa.drew) HG1.out 2).trans rfl
     refine skip_ (w1 := wa.drew.setCell ⟨G, 2, none⟩ (.int .u16 (addU met tt))) (by rfl) rfl (by unfold addU; first | (go_simp; done) | (go_simp; rfl)) ?_
     have HG2 : Aside0 (WaB (wa.drew.setCell ⟨G, 2, none⟩ (.int .u16 (addU met tt))) G Z tt (addU met tt)) := ⟨WaB.set2 (w := wa.drew) HG1.out _⟩
     have HW2 : Aside0 (w.grownBy (wa.drew.setCell ⟨G, 2, none⟩ (.int .u16 (addU met tt))) (some G)) := ⟨by
      have h1 := grown_of_below (below_drew (Below.refl _ wa)) (some G)
      have h2 : wa.drew.grownBy (wa.drew.setCell ⟨G, 2, none⟩ (.int .u16 (addU met tt))) (some G) := ⟨rfl, rfl, rfl, by simp [World.setCell], fun k _ hk => Below.heap_setCell _ _ _ k (fun e => hk (by rw [e]))⟩
      have h3 := HW1.out
      exact ⟨(h2.os.trans h1.os).trans h3.os, (h2.tape.trans h1.tape).trans h3.tape, (h2.output.trans h1.output).trans h3.output, Nat.le_trans h3.size (Nat.le_trans h1.size h2.size), fun i hi hne => ((h2.block i (Nat.lt_of_lt_of_le hi (Nat.le_trans h3.size h1.size)) hne).trans (h1.block i (Nat.lt_of_lt_of_le hi h3.size) hne)).trans (h3.block i hi hne)⟩⟩
     have HZ2 : Aside0 (SmB (wa.drew.setCell ⟨G, 2, none⟩ (.int .u16 (addU met tt))) Z n d rs) := ⟨⟨blk_grown HZ.out.1 HW2.out (fun e => ne_type HZ.out.1 HG.out (by decide) (Option.some.inj e)), HZ.out.2⟩⟩
     clear hfz hcz hHeld HG1 HW1
     generalize wa.drew.setCell ⟨G, 2, none⟩ (.int .u16 (addU met tt)) = wb at HG2 HW2 HZ2 ⊢
     refine hK.out _ _ ?_
     clear hK K
     refine done_ (done_of HT_.out (by kernel_rfl)) ?_
     clear HT_ HW_
     have hg0 : wb.cell? ⟨G, 0, none⟩ = some (.pointer (some ⟨Z, 0, none⟩)) := (blk_cell HG2.out 0).trans rfl
     have hg2 : wb.cell? ⟨G, 2, none⟩ = some (.int .u16 (addU met tt)) := (blk_cell HG2.out 2).trans rfl
     go_wp2_with fail
     have HFq : Aside0 (∀ k, Calls Try.prog 53 #[.pointer (some ⟨Z, 0, none⟩)] (wb.drewN k) fun e w' => e = .returned (.int .u16 (fullU n)) ∧ w' = wb.drewN k) := ⟨fun k => (full_calls (wb.drewN k) Z n d rs ⟨HZ2.out.1, HZ2.out.2⟩ C0.out).mono fun _ _ ⟨h1, h2⟩ => ⟨h1, h2.symm⟩⟩
     go_quiet ((go_at_call 53; exact Calls.quiet_of_same (HFq.out _)))
     have HW3 := Aside0.mk (grown_trans'' HW2.out (grown_of_below (pw_below_drewN (Below.refl _ wb) nq) (some G)))
     go_wp2_with fail
     go_ret
     exact ⟨by rw [← HB.out]; rfl, blk_drewN HG2.out nq, HW3.out⟩
    ·rw [if_neg c3] at h; cases h
   ·rw [if_neg c2] at h; cases h
  ·rw [if_neg c1] at h; cases h
 ·rw [if_neg c0] at h; cases h
end Go.Proofs.Ytgbjbgdnldklpaa.Q
end
/-! Part XVisited -/
section
namespace Go.Proofs.Ytgbjbgdnldklpaa.Q
open Go.RowKit Go.Proofs.YtgbjbgdnldklpaaW.PrintWords Go.Proofs.YtgbjbgdnldklpaaW.PrintLast Go.Proofs.YtgbjbgdnldklpaaW.PrintMore
set_option linter.unusedVariables false
set_option linter.unusedSimpArgs false
/-- At which letter all rooms have been visited, or -1. -/
def goI (n d : Int) (rs : List Int) : List Int → Int → Int → Int → Option Int
 | [], _, _, _ => some (-1)
 | x :: l, at_, met, i => (goesF n d rs at_ met x).bind fun p => if p.2.2 = true then some i else goI n d rs l p.1 p.2.1 (i + 1)
set_option maxRecDepth 100000 in
set_option maxHeartbeats 1000000 in
theorem indexG_calls (n d : Int) (rs : List Int) (G Z : Nat) (A : Option Addr) (c : Nat) (l : List Int) (at_ met r : Int) (w0 w : World)
  (hr : Kd.C (Kd.int .i64) w0 A l.length l) (hB : Below w0.heap.size w0 w) (hG0 : w0.heap.size ≤ G) (hZ : SmB w Z n d rs) (hG : WaB w G Z at_ met) (h : goI n d rs l at_ met 0 = some r) :
  Calls Try.prog 62 #[.slice A l.length c, .func (.func 47) #[.pointer (some ⟨G, 0, none⟩)] #[]] w fun e w' => e = .returned (.int .i64 r) ∧ w.grownBy w' (some G) := by
 have hm : l.length ≤ 9223372036854775807 := hr.2.1
 have HR := Aside0.mk hr
 have HB := Aside0.mk hB
 have HG0 := Aside0.mk hG0
 have HZ := Aside0.mk hZ
 have HG := Aside0.mk hG
 have H := Aside0.mk h
 have HNE := Aside0.mk (ne_type hZ.1 hG (by decide))
 clear hr hB hG0 hZ hG h
 go_enter Try.func62, Try.ntmps62
 go_wp2
 go_loopw [8] (fun i wr => ∃ (x a m : Int), 0 ≤ x ∧ x ≤ l.length ∧ i = .int .i64 x ∧ Aside0 (goI n d rs (l.drop x.toNat) a m x = some r) ∧ Aside0 (WaB wr G Z a m) ∧ Aside0 (w.grownBy wr (some G))) (fun i _ => l.length - (intOf i).toNat)
 case atStart => exact ⟨0, at_, met, by omega, by omega, rfl, ⟨by simpa using H.out⟩, HG, ⟨grown_of_below (Below.refl _ _) _⟩⟩
 case round =>
  clear H HG
  obtain ⟨x, a, m, h0, h1, rfl, HA, HG, HW⟩ := hrel
  rename_i wr
  have HBr := Aside0.mk (pw_below_grown HB.out (some G) HB.out.size HW.out (fun k e => by cases e; exact HG0.out))
  by_cases hlt : x < l.length
  ·obtain ⟨ad, e, hx⟩ := Kd.at_int (Kd.C_below HR.out HBr.out) x h0 hlt
   cases e
   have c3 : decide (x < (l.length : Int)) = true := decide_eq_true hlt
   have k0 := Aside0.mk h0
   have k1 := Aside0.mk hlt
   have hdrop : l.drop x.toNat = rd l x :: l.drop (x.toNat + 1) := by
    rw [List.drop_eq_getElem_cons (by omega : x.toNat < l.length)]
    congr 1
    unfold rd
    rw [List.getD_eq_getElem?_getD, List.getElem?_eq_getElem (by omega)]; rfl
   have hA := HA.out
   rw [hdrop] at hA
   obtain ⟨⟨a2, m2, b⟩, hg, hA2⟩ := Option.bind_eq_some_iff.1 hA
   have HZr : SmB wr Z n d rs := ⟨blk_grown HZ.out.1 HW.out (fun e => HNE.out (Option.some.inj e)), HZ.out.2⟩
   have HC := Aside0.mk (goes_calls n d rs a m (rd l x) a2 m2 b G Z wr HZr HG.out hg)
   have HA2 := Aside0.mk hA2
   replace h0 := eq_true h0
   replace hlt := eq_true hlt
   clear hA hg hdrop hA2 HZr
   cases b with
   | true =>
    have hr2 : x = r := by have := HA2.out; simpa using this
    have HR2 := Aside0.mk hr2
    clear hr2
    go_wp2_with (refine (HC.out.mono ?_); rintro e w' ⟨rfl, hg', hw'⟩; have HW2 := Aside0.mk (grown_trans'' HW.out hw'); clear hg' hw')
    go_ret
    exact ⟨by rw [← HR2.out]; rfl, HW2.out⟩
   | false =>
    have hr2 : goI n d rs (l.drop (x.toNat + 1)) a2 m2 (x + 1) = some r := by have := HA2.out; simpa using this
    have HR2 := Aside0.mk hr2
    clear hr2
    go_wp2_with (refine (HC.out.mono ?_); rintro e w' ⟨rfl, hg', hw'⟩; have HW2 := Aside0.mk (grown_trans'' HW.out hw'); have HG2 := Aside0.mk hg'; clear hg' hw')
    go_roundw
    case rel => exact ⟨x + 1, a2, m2, by have := k0.out; omega, by have := k1.out; omega, by rw [wrap_in k0.out k1.out hm], ⟨by rw [show (x + 1).toNat = x.toNat + 1 by have := k0.out; omega]; exact HR2.out⟩, HG2, HW2⟩
    case measure => have := k0.out; have := k1.out; rw [wrap_in k0.out k1.out hm]; simp [intOf]; omega
  ·have hr2 : -1 = r := by
    have := HA.out
    rw [List.drop_eq_nil_of_le (by omega)] at this
    simpa [goI] using this
   have HR2 := Aside0.mk hr2
   clear hr2
   go_wp2
   go_ret
   exact ⟨by rw [← HR2.out]; rfl, HW.out⟩
set_option maxHeartbeats 1000000 in
theorem containsG_calls (n d : Int) (rs : List Int) (G Z : Nat) (A : Option Addr) (c : Nat) (l : List Int) (at_ met r : Int) (w0 w : World)
  (hr : Kd.C (Kd.int .i64) w0 A l.length l) (hB : Below w0.heap.size w0 w) (hG0 : w0.heap.size ≤ G) (hZ : SmB w Z n d rs) (hG : WaB w G Z at_ met) (h : goI n d rs l at_ met 0 = some r) :
  Calls Try.prog 55 #[.slice A l.length c, .func (.func 47) #[.pointer (some ⟨G, 0, none⟩)] #[]] w fun e w' => e = .returned (.bool (decide (0 ≤ r))) ∧ w.grownBy w' (some G) := by
 have HC := Aside0.mk (indexG_calls n d rs G Z A c l at_ met r w0 w hr hB hG0 hZ hG h)
 clear hr hB hG0 hZ hG h
 go_enter Try.func55, Try.ntmps55
 go_wp2_with (refine (HC.out.mono ?_); rintro e w' ⟨rfl, hw'⟩; have HW := Aside0.mk hw'; clear hw')
 go_ret
 exact ⟨rfl, HW.out⟩
def maze_visited.l0 : Nat → Int → Int → List Int → List Int → Int → Option Bool
 | 0, _, _, _, _, _ => none
 | k + 1, n, d, rs, l, s => if s < n % 256 then (if 0 ≤ s then (goI n d rs l s (IntKind.u16.wrap (2 ^ min s.toNat 16)) 0).bind fun r => (if 0 ≤ r then maze_visited.l0 k n d rs l ((s + 1) % 256) else some false) else none) else some true
def maze_visited.f (k : Nat) (n d : Int) (rs l : List Int) : Option Bool := maze_visited.l0 k n d rs l 0
theorem maze_visited.mono_l : ∀ k y0 y1 y2 y3 y4, LeO (maze_visited.l0 k y0 y1 y2 y3 y4) (maze_visited.l0 (k + 1) y0 y1 y2 y3 y4)
 | 0 => fun _ _ _ _ _ r h => by simp [maze_visited.l0] at h
 | k + 1 => by
  intro y0 y1 y2 y3 y4
  unfold maze_visited.l0
  exact LeO.ite (LeO.ite (LeO.bind (LeO.refl _) fun r => LeO.ite (maze_visited.mono_l k _ _ _ _ _) (LeO.refl _)) (LeO.none _)) (LeO.refl _)
theorem maze_visited.mono : ∀ a0 a1 a2 a3 k, LeO (maze_visited.f k a0 a1 a2 a3) (maze_visited.f (k + 1) a0 a1 a2 a3) := fun _ _ _ _ k => maze_visited.mono_l k _ _ _ _ _
set_option maxHeartbeats 1000000 in
set_option maxRecDepth 100000 in
theorem maze_visited.calls (k : Nat) (n d : Int) (rs l : List Int) (A : Option Addr) (c : Nat) (r : Bool) (Z : Nat) (w0 w : World) (hr : Kd.C (Kd.int .i64) w0 A l.length l) (hB : Below w0.heap.size w0 w) (hZ : SmB w Z n d rs) (h : maze_visited.f k n d rs l = some r) :
  Calls Try.prog 42 #[.pointer (some ⟨Z, 0, none⟩), .slice A l.length c] w fun e w' => e = .returned (.bool r) ∧ Below w.heap.size w w' := by
 have HR := Aside0.mk hr
 have HB := Aside0.mk hB
 have HZ := Aside0.mk hZ
 have H' : Aside0 (maze_visited.l0 k n d rs l 0 = some r) := ⟨h⟩
 have hcn := hZ.n
 clear hr hB hZ h
 go_enter Try.func42, Try.ntmps42
 go_wp2_with fail
 clear hcn
 go_loopg [12] k (fun kq v12 w' => ∃ (s : Int), v12 = .int .u8 s ∧ Aside0 (maze_visited.l0 kq n d rs l s = some r) ∧ Aside0 (kq ≤ k) ∧ Aside0 (Below w.heap.size w w'))
 case atStart => exact ⟨0, rfl, H', ⟨Nat.le_refl _⟩, ⟨Below.refl _ _⟩⟩
 case round =>
  clear H'
  obtain ⟨s, rfl, HA, HK, HBw⟩ := hrel
  cases gk with
  | zero => exact absurd HA.out (by simp [maze_visited.l0])
  | succ k1 =>
   have H := HA.out
   clear HA
   simp only [maze_visited.l0] at H
   by_cases d1 : s < n % 256
   ·rw [if_pos d1] at H
    by_cases d2 : 0 ≤ s
    ·rw [if_pos d2] at H
     obtain ⟨z, hz, H2⟩ := Option.bind_eq_some_iff.1 H
     have HZZ := Aside0.mk hz
     have d1b := decide_eq_true d1
     have q2 := eq_true d2
     clear H hz d1 d2
     by_cases d3 : 0 ≤ z
     ·rw [if_pos d3] at H2
      have H3 := Aside0.mk H2
      have d3b := decide_eq_true d3
      clear H2 d3
      go_wp2_with (first | ((with_reducible refine gate_dst (N := 20) rfl ?_); refine box_event ?hg (N := 20) ?hd (cs := waC Z s (IntKind.u16.wrap (2 ^ min s.toNat 16))) (t := 81) ?hr ?_; (case hd => rfl); (case hg => rfl); (case hr => first | (go_simp; done) | (go_simp; rfl)); intro G hGe w1 hbox hb1; have HG := Aside0.mk hbox; have HGE := Aside0.mk (show wr.heap.size ≤ G by omega); have HB1 := Aside0.mk (below_step HBw.out hb1); clear hbox hb1 hGe)  | (go_at_call 55; refine (containsG_calls n d rs G Z A c l s _ z w0 _ HR.out (below_step HB.out HB1.out) (Nat.le_trans HB.out.size (Nat.le_trans HBw.out.size HGE.out)) ⟨blk_below HZ.out.1 HB1.out, HZ.out.2⟩ HG.out HZZ.out).mono ?_; rintro e w3 ⟨rfl, hw3⟩; have HB3 := Aside0.mk (pw_below_grown HB1.out (some G) HB1.out.size hw3 (fun k e => by cases e; exact Nat.le_trans HBw.out.size HGE.out)); clear hw3; rw [d3b]))
      go_roundg k1
      case measure => omega
      case rel => exact ⟨_, rfl, H3, ⟨by have := HK.out; omega⟩, HB3⟩
     ·rw [if_neg d3] at H2
      obtain rfl := Option.some.inj H2
      have d3b := decide_eq_false d3
      clear H2 d3
      go_wp2_with (first | ((with_reducible refine gate_dst (N := 20) rfl ?_); refine box_event ?hg (N := 20) ?hd (cs := waC Z s (IntKind.u16.wrap (2 ^ min s.toNat 16))) (t := 81) ?hr ?_; (case hd => rfl); (case hg => rfl); (case hr => first | (go_simp; done) | (go_simp; rfl)); intro G hGe w1 hbox hb1; have HG := Aside0.mk hbox; have HGE := Aside0.mk (show wr.heap.size ≤ G by omega); have HB1 := Aside0.mk (below_step HBw.out hb1); clear hbox hb1 hGe)  | (go_at_call 55; refine (containsG_calls n d rs G Z A c l s _ z w0 _ HR.out (below_step HB.out HB1.out) (Nat.le_trans HB.out.size (Nat.le_trans HBw.out.size HGE.out)) ⟨blk_below HZ.out.1 HB1.out, HZ.out.2⟩ HG.out HZZ.out).mono ?_; rintro e w3 ⟨rfl, hw3⟩; have HB3 := Aside0.mk (pw_below_grown HB1.out (some G) HB1.out.size hw3 (fun k e => by cases e; exact Nat.le_trans HBw.out.size HGE.out)); clear hw3; rw [d3b]))
      go_ret
      exact ⟨rfl, HB3.out⟩
    ·rw [if_neg d2] at H; exact absurd H (by simp)
   ·rw [if_neg d1] at H
    obtain rfl := Option.some.inj H
    have d1b := decide_eq_false d1
    clear H d1
    go_wp2_with fail
    go_ret
    exact ⟨rfl, HBw.out⟩
end Go.Proofs.Ytgbjbgdnldklpaa.Q
end
