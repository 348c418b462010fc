/- The law MazeNames holds: a maze whose rooms are named anew is connected if and only if the maze is, and is walked through alike; no bound on the arguments beyond their types'. (text 12 of 19) -/
import Derived.Test.YtgbjbgdnldklpaaZMazeNamesj
import Derived.Laws.EntriesVeiled
/-! Part XAll1 -/
section
namespace Go.Proofs.Ytgbjbgdnldklpaa.Q
open Go.RowKit Go.Proofs.YtgbjbgdnldklpaaW.PrintWords Go.Proofs.YtgbjbgdnldklpaaW.PrintLast Go.Proofs.YtgbjbgdnldklpaaW.PrintMore
set_option linter.unusedVariables false
set_option linter.unusedSimpArgs false
theorem from_ok (l base : Nat) (n d N : Int) (Rb Db Yb Zb Ub Fb : Nat) (L : List (List Int)) (J Jx : (Nat → Prop) → List (List Int) → World → Prop)
    (hN : wrap64 (n * d) = N) (hsJ : StableJ base J) (hOwn : ∀ b, ownF Rb Db Yb Zb Ub Fb b → base ≤ b) (hY : YieldsF l base n d Rb Db L J Jx)
    (k : Nat) : FromOk l n d N Rb Db Yb Zb Ub Fb L J Jx k := by
  induction k using Nat.strongRecOn with
  | ind k ih =>
    cases k with
    | zero => intro us rs p acc R W _ _ _ h; simp [maze_from.l0] at h
    | succ k => exact from_step l base n d N Rb Db Yb Zb Ub Fb L J Jx hN hsJ hOwn hY k (fun j hj => ih j (by omega))
def maze_all.f (k : Nat) (n d : Int) : Option (List (List Int)) := (maze_from.l0 k (wrap64 (n * d)) d (List.replicate 12 false) (List.replicate 12 0) 0 []).bind fun R => some R.2.2
theorem maze_all.mono : ∀ a0 a1 k, LeO (maze_all.f k a0 a1) (maze_all.f (k + 1) a0 a1) := fun _ _ k => LeO.bind ((maze_from.mono_l k).1 _ _ _ _ _ _) (fun _ => LeO.refl _)
set_option maxHeartbeats 1000000 in
set_option maxRecDepth 100000 in
theorem maze_all.seq (k : Nat) (n d : Int) (L : List (List Int)) (Rb Db : Nat) (w0 : World) (h : maze_all.f k n d = some L) :
    SeqP Try.prog w0.heap.size 51 #[.pointer (some ⟨Rb, 0, none⟩), .pointer (some ⟨Db, 0, none⟩)] (EncM n d) L (fun b => b = Rb ∨ b = Db) (fun W => W.heap[Rb]? = some (.cells #[.int .i64 n] 3 (0, 0)) ∧ W.heap[Db]? = some (.cells #[.int .i64 d] 3 (0, 0))) := by
  intro l J Jx W hSt hown hbase hsJ hsJx hY h0
  obtain ⟨R, hR, hL⟩ := Option.bind_eq_some_iff.1 h
  have hL := Option.some.inj hL
  have HR := Aside0.mk hR
  have HL := Aside0.mk hL
  have HSt := Aside0.mk hSt
  have Hown := Aside0.mk hown
  have Hbase := Aside0.mk hbase
  have HsJ := Aside0.mk hsJ
  have HY := Aside0.mk hY
  have HJ := Aside0.mk h0
  have hcR : W.cell? ⟨Rb, 0, none⟩ = some (.int .i64 n) := (blk_cell hSt.1 0).trans rfl
  have hcD : W.cell? ⟨Db, 0, none⟩ = some (.int .i64 d) := (blk_cell hSt.2 0).trans rfl
  have e1 : (#[Value.func (.yield l) #[] #[]] ++ #[Value.pointer (some ⟨Rb, 0, none⟩), Value.pointer (some ⟨Db, 0, none⟩)] : Array Value) = #[.func (.yield l) #[] #[], .pointer (some ⟨Rb, 0, none⟩), .pointer (some ⟨Db, 0, none⟩)] := rfl
  have hcR1 : (W.alloc (.cells #[.func (.yield l) #[] #[]] 87)).cell? ⟨Rb, 0, none⟩ = some (.int .i64 n) := pw_cell_below (below_alloc (Below.refl _ _) _) hcR
  have hcD1 : (W.alloc (.cells #[.func (.yield l) #[] #[]] 87)).cell? ⟨Db, 0, none⟩ = some (.int .i64 d) := pw_cell_below (below_alloc (Below.refl _ _) _) hcD
  clear hR hL hcR hcD hSt hown hbase hsJ hsJx hY h0 h
  rw [e1]
  clear e1
  go_enter Try.func51, Try.ntmps51
  go_wp2_with fail
  obtain ⟨W1, hW1⟩ : ∃ W1, W1 = ((((W.alloc (.cells #[.func (.yield l) #[] #[]] 87)).alloc (.cells (smC n d (List.replicate 12 0)) 66)).alloc (.cells ((List.replicate 12 false).map Value.bool).toArray 88)).alloc (.cells #[.func (.func 52) #[] (caF Rb Db W.heap.size (W.heap.size + 1) (W.heap.size + 1 + 1) (W.heap.size + 1 + 1 + 1))] 83)) := ⟨_, rfl⟩
  have hb : Below W.heap.size W W1 := by rw [hW1]; exact ((((Below.refl _ W).alloc (Nat.le_refl _) _).alloc (by simp) _).alloc (by simp; omega) _).alloc (by simp; omega) _
  have hS : FS l n d Rb Db W.heap.size (W.heap.size + 1) (W.heap.size + 1 + 1) (W.heap.size + 1 + 1 + 1) W1 (List.replicate 12 false) (List.replicate 12 0) := by
    refine ⟨blk_below HSt.out.1 hb, blk_below HSt.out.2 hb, ?_, ⟨?_, rfl⟩, ?_, rfl, ?_⟩
    · rw [hW1]; exact blk_alloc (blk_alloc (blk_alloc (blk_new _ _) _) _) _
    · rw [hW1]; refine blk_alloc (blk_alloc ?_ _) _
      have := blk_new (W.alloc (.cells #[.func (.yield l) #[] #[]] 87)) (.cells (smC n d (List.replicate 12 0)) 66)
      rwa [World.size_alloc] at this
    · rw [hW1]; refine blk_alloc ?_ _
      have := blk_new ((W.alloc (.cells #[.func (.yield l) #[] #[]] 87)).alloc (.cells (smC n d (List.replicate 12 0)) 66)) (.cells ((List.replicate 12 false).map Value.bool).toArray 88)
      rwa [World.size_alloc, World.size_alloc] at this
    · rw [hW1]
      have := blk_new (((W.alloc (.cells #[.func (.yield l) #[] #[]] 87)).alloc (.cells (smC n d (List.replicate 12 0)) 66)).alloc (.cells ((List.replicate 12 false).map Value.bool).toArray 88)) (.cells #[.func (.func 52) #[] (caF Rb Db W.heap.size (W.heap.size + 1) (W.heap.size + 1 + 1) (W.heap.size + 1 + 1 + 1))] 83)
      rwa [World.size_alloc, World.size_alloc, World.size_alloc] at this
  have hO : ∀ b, ownF Rb Db W.heap.size (W.heap.size + 1) (W.heap.size + 1 + 1) (W.heap.size + 1 + 1 + 1) b → w0.heap.size ≤ b := by
    have h0 := Hbase.out
    rintro b (rfl | rfl | rfl | rfl | rfl | rfl)
    · exact (Hown.out _ (Or.inl rfl)).2
    · exact (Hown.out _ (Or.inr rfl)).2
    all_goals omega
  have hJ1 : J (ownF Rb Db W.heap.size (W.heap.size + 1) (W.heap.size + 1 + 1) (W.heap.size + 1 + 1 + 1)) [] W1 := by
    refine HsJ.out _ _ _ _ _ HJ.out (KeptBut.of_below hb) (fun b h => (Hown.out b h).2) ?_
    rintro b (rfl | rfl | rfl | rfl | rfl | rfl)
    · exact Or.inl (Or.inl rfl)
    · exact Or.inl (Or.inr rfl)
    all_goals (right; omega)
  have HC := from_ok l w0.heap.size n d _ Rb Db W.heap.size (W.heap.size + 1) (W.heap.size + 1 + 1) (W.heap.size + 1 + 1 + 1) L J Jx rfl HsJ.out hO HY.out k _ _ 0 [] R W1 hS hJ1 ⟨[], by rw [HL.out]; simp⟩ HR.out
  have e1 : (#[Value.int .i64 0] ++ caF Rb Db W.heap.size (W.heap.size + 1) (W.heap.size + 1 + 1) (W.heap.size + 1 + 1 + 1) : Array Value) = #[.int .i64 0, .pointer (some ⟨Rb, 0, none⟩), .pointer (some ⟨Db, 0, none⟩), .pointer (some ⟨W.heap.size + 1 + 1, 0, none⟩), .pointer (some ⟨W.heap.size, 0, none⟩), .pointer (some ⟨W.heap.size + 1, 0, none⟩), .pointer (some ⟨W.heap.size + 1 + 1 + 1, 0, none⟩)] := rfl
  rw [e1, hW1] at HC
  have HO := Aside0.mk hO
  clear e1 hJ1 hO hS hb hW1
  refine HC.mono ?_
  rintro e w5 ⟨bq, rfl, hD⟩
  have HD := Aside0.mk hD
  clear hD HC
  go_wp2_with fail
  refine bodyPost_end (results_none rfl _ _ _) rfl ⟨⟨_, rfl⟩, ?_⟩
  rcases HD.out with ⟨rfl, _, hJ5⟩ | ⟨rfl, pre, hx5⟩
  · exact Or.inl ⟨_, HO.out, by rw [← HL.out]; exact hJ5⟩
  · exact Or.inr ⟨_, pre, HO.out, hx5⟩
end Go.Proofs.Ytgbjbgdnldklpaa.Q
end
