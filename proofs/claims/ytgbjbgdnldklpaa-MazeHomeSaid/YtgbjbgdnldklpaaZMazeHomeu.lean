/- Whatever connected maze of the size there is, and wherever one begins, what Universal returns visits all of its rooms, also with letters before it and behind it; it is proved for every input, without conditions. (text 21 of 30) -/
import Derived.Test.YtgbjbgdnldklpaaZMazeHomes
import Derived.Test.YtgbjbgdnldklpaaZMazeHomet
import Derived.Test.YtgbjbgdnldklpaaZMazeHomeg
/-! Part XMazes -/
section
namespace Go.Proofs.Ytgbjbgdnldklpaa.Q
open Go.RowKit Go.Proofs.YtgbjbgdnldklpaaW.PrintWords Go.Proofs.YtgbjbgdnldklpaaW.PrintLast Go.Proofs.YtgbjbgdnldklpaaW.PrintMore
attribute [local go_sem] Oper.semAt_some
set_option linter.unusedVariables false
set_option linter.unusedSimpArgs false
set_option maxHeartbeats 1000000 in
theorem maze_all.makes (n d : Int) (w : World) :
  Calls Try.prog 38 #[.int .i64 n, .int .i64 d] w fun e w' => e = .returned (.func (.func 51) #[] #[.pointer (some ⟨w.heap.size, 0, none⟩), .pointer (some ⟨w.heap.size + 1, 0, none⟩)]) ∧ w'.heap[w.heap.size]? = some (.cells #[.int .i64 n] 3 (0, 0)) ∧ w'.heap[w.heap.size + 1]? = some (.cells #[.int .i64 d] 3 (0, 0)) ∧ Below w.heap.size w w' := by
 go_enter Try.func38, Try.ntmps38
 go_wp2
 go_ret
 refine ⟨rfl, blk_alloc (blk_new _ _) _, ?_, ((Below.refl _ _).alloc (Nat.le_refl _) _).alloc (by simp) _⟩
 have := blk_new (w.alloc (.cells #[.int .i64 n] 3)) (.cells #[.int .i64 d] 3)
 rwa [World.size_alloc] at this
def countS (k : Nat) (n d : Int) : List (List Int) → Int → Int → Option (Int × Int)
 | [], a, c => some (a, c)
 | x :: r, a, c => (small_connected.f k n d x).bind fun b => countS k n d r (wrap64 (a + 1)) (if b = true then wrap64 (c + 1) else c)
theorem countS.mono (n d : Int) : ∀ (L : List (List Int)) (a c : Int) (k : Nat), LeO (countS k n d L a c) (countS (k + 1) n d L a c)
 | [], _, _, _ => LeO.refl _
 | x :: r, a, c, k => LeO.bind (small_connected.mono _ _ _ _) fun b => countS.mono n d r _ _ _
def maze_Mazes.f (k : Nat) (a0 a1 : Int) : Option (Int × Int × Int) := (maze_asks.f a0 a1).bind fun e => if e = 0 then (maze_all.f k a0 a1).bind fun L => (countS k a0 a1 L 0 0).bind fun p => some (p.1, p.2, 0) else some (0, 0, e)
theorem maze_Mazes.mono : ∀ a0 a1 k, LeO (maze_Mazes.f k a0 a1) (maze_Mazes.f (k + 1) a0 a1) := by
 intro a0 a1 k
 unfold maze_Mazes.f
 repeat' first
 | (with_reducible exact maze_all.mono _ _ _)
 | (with_reducible exact countS.mono _ _ _ _ _ _)
 | (with_reducible exact LeO.refl _)
 | (with_reducible refine LeO.ite ?_ ?_)
 | (with_reducible refine LeO.bind ?_ (fun _ => ?_))
theorem IF.startI {w w1 : World} (h : Below w.heap.size w w1) : IF 3 3 w w1.heap.size (w1.heap.size + 1) (fun _ => False) ((w1.alloc (.cells #[.int .i64 0] 3)).alloc (.cells #[.int .i64 0] 3)) (.int .i64 0) (.int .i64 0) := by
 have hs := h.size
 refine ⟨(h.alloc hs _).alloc (by simp; omega) _, blk_alloc (World.alloc_heap_new _ _) _, ?_, id, id, hs, by omega⟩
 have := World.alloc_heap_new (w1.alloc (.cells #[.int .i64 0] 3)) (.cells #[.int .i64 0] 3)
 rwa [World.size_alloc] at this
set_option maxHeartbeats 1000000 in
set_option maxRecDepth 100000 in
theorem maze_Mazes.calls (k : Nat) (a0 a1 : Int) (r1 r2 r3 : Int) (w : World) (h : maze_Mazes.f k a0 a1 = some (r1, r2, r3)) :
  Calls Try.prog 12 #[.int .i64 a0, .int .i64 a1] w fun e w' => e = .returned (.tuple #[.int .i64 r1, .int .i64 r2, .int .i64 r3]) ∧ Below w.heap.size w w' := by
 have HB0 := Below.refl w.heap.size w
 obtain ⟨e, he, h⟩ := Option.bind_eq_some_iff.1 h
 have HE := Aside0.mk he
 have H := Aside0.mk h
 clear he h
 refine callsIn_wide.1 (callsIn_of_wp_marks (n := 0) Try.func12 rfl trivial (wpIn_wide.2 ?_) rfl)
 simp only [Try.ntmps12, List.size_toArray, List.length_cons, List.length_nil, Nat.reduceAdd, Nat.reduceSub, Array.replicate_succ, Array.replicate_zero, List.push_toArray, List.append_toArray, List.nil_append, List.cons_append]
 by_cases d : e = 0
 ·rw [if_pos d] at H
  subst d
  have d' : ((0 : Int) == 0) = true := rfl
  obtain ⟨L, hL, hG⟩ := Option.bind_eq_some_iff.1 H.out
  obtain ⟨⟨p1, p2⟩, hF, hp⟩ := Option.bind_eq_some_iff.1 hG
  simp only [Option.some.injEq, Prod.mk.injEq] at hp
  obtain ⟨rfl, rfl, rfl⟩ := hp
  have HF := Aside0.mk hF
  have HL := Aside0.mk hL
  clear hF hG hL H
  go_wp2_with (first | (go_at_call 37; refine (maze_asks.calls _ _ _ _ HE.out).mono ?_; rintro e2 w2 ⟨rfl, hd2⟩; have HB1 := Aside0.mk hd2.below; have HI1 := Aside0.mk (IF.startI HB1.out); clear hd2)  | (go_at_call 38; refine (maze_all.makes _ _ _).mono ?_; rintro e2 w3 ⟨rfl, hxR, hxD, hb3⟩; have HI3 := Aside0.mk (HI1.out.next hb3); have HXR := Aside0.mk hxR; have HXD := Aside0.mk hxD; have HS3 := Aside0.mk hb3.size; clear hxR hxD hb3))
  obtain ⟨C2, hC2⟩ : ∃ C2, C2 = w2.heap.size := ⟨_, rfl⟩
  have e3 : ((w2.alloc (.cells #[.int .i64 0] 3)).alloc (.cells #[.int .i64 0] 3)).heap.size = C2 + 1 + 1 := by rw [hC2]; simp
  rw [e3] at HXR HXD HS3
  rw [← hC2] at HI3 ⊢
  have HC2 : Aside0 (w.heap.size ≤ C2) := ⟨by rw [hC2]; exact HB1.out.size⟩
  have HLT : Aside0 (C2 + 1 + 1 + 1 < w3.heap.size) := ⟨blk_ltS HXD.out⟩
  clear e3 hC2 HI1 HB1 HE d'
  have seq := maze_all.seq k a0 a1 L (C2 + 1 + 1) (C2 + 1 + 1 + 1) w HL.out
  refine wp_rangeFunc_iter (base := w.heap.size) (own0 := fun b => b = C2 + 1 + 1 ∨ b = C2 + 1 + 1 + 1) rfl (enters_ Try.func51 (by kernel_rfl) rfl) seq HI3.out.below.size (fun b hb => by have := HC2.out; have := HLT.out; rcases hb with rfl | rfl <;> exact ⟨by omega, by omega⟩) (fun W hW => ⟨blk_below HXR.out hW, blk_below HXD.out hW⟩) (fun own x W vs he => by obtain ⟨rfl, _⟩ := he; rfl)
   (fun own pre W => ∃ (a c : Int) (rest : List (List Int)), IF 3 3 w C2 (C2 + 1) own W (.int .i64 a) (.int .i64 c) ∧ L = pre ++ rest ∧ countS k a0 a1 rest a c = some (p1, p2))
   (fun _ _ _ _ => False)
   ?stI ?stX ?start ?round ?done ?stop
  case stI =>
   rintro own own' s A B ⟨a, c, rest, hi, hr⟩ hk hs hn
   exact ⟨a, c, rest, hi.stable hk hs hn, hr⟩
  case stX => exact fun _ _ _ _ _ _ h _ _ _ => h.elim
  case start => exact ⟨0, 0, L, ⟨HI3.out.below, HI3.out.c2, HI3.out.c3, by rintro (h | h) <;> omega, by rintro (h | h) <;> omega, HI3.out.h2, HI3.out.h3⟩, rfl, HF.out⟩
  case round =>
   rintro l D own pre x vs W ⟨a, c, rest, hi, hL, hF⟩ ⟨rest2, hL2⟩ ⟨rfl, hx12, _⟩ ⟨r, hr⟩ ⟨dd, hd⟩ hl hD hnl hnD hbs
   obtain rfl : rest = x :: rest2 := List.append_cancel_left (hL.symm.trans hL2)
   obtain ⟨bc, hbc, hF2⟩ := Option.bind_eq_some_iff.1 hF
   have HBC := Aside0.mk hbc
   have HF2 := Aside0.mk hF2
   have HP : Aside0 (L = pre ++ [x] ++ rest2) := ⟨by rw [hL2]; simp⟩
   have HI := Aside0.mk hi
   have HBS := Aside0.mk hbs
   have HLW := Aside0.mk (show w.heap.size ≤ l from Nat.le_trans HI3.out.below.size hl)
   have n2l : C2 ≠ l := fun e => by subst e; rw [hi.c2] at hr; cases hr
   have n3l : C2 + 1 ≠ l := fun e => by subst e; rw [hi.c3] at hr; cases hr
   have n2D : C2 ≠ D := fun e => by subst e; rw [hi.c2] at hd; cases hd
   have n3D : C2 + 1 ≠ D := fun e => by subst e; rw [hi.c3] at hd; cases hd
   have K2 : Aside0 (¬ keepR w.heap.size own l D C2) := ⟨fun h => by rcases h with (h | h) | h | h; exact absurd hi.h2 (by omega); exact hi.n2 h; exact n2l h; exact n2D h⟩
   have K3 : Aside0 (¬ keepR w.heap.size own l D (C2 + 1)) := ⟨fun h => by rcases h with (h | h) | h | h; exact absurd hi.h3 (by omega); exact hi.n3 h; exact n3l h; exact n3D h⟩
   clear hi hbs hbc hF2 hF hL hL2 hd hr n2l n3l n2D n3D
   obtain ⟨r0, r1, r2, r3, r4, r5, r6, r7, r8, r9, r10, r11, hrs⟩ := len12 hx12
   subst hrs
   rw [zip1]
   simp only [List.setIfInBounds_toArray, List.set_cons_succ, List.set_cons_zero, smC, List.map_cons, List.map_nil]
   gi_wp2
   have hBa := below_alloc (Below.refl W.heap.size W) (.cells (smC a0 a1 [r0, r1, r2, r3, r4, r5, r6, r7, r8, r9, r10, r11]) 66)
   have HZ : Aside0 (SmB (W.alloc (.cells (smC a0 a1 [r0, r1, r2, r3, r4, r5, r6, r7, r8, r9, r10, r11]) 66)) W.heap.size a0 a1 [r0, r1, r2, r3, r4, r5, r6, r7, r8, r9, r10, r11]) := ⟨⟨blk_new _ _, hx12⟩⟩
   have HIa := Aside0.mk (HI.out.next hBa)
   refine ⟨RoundKept.of_below hBa, ?_⟩
   rintro W2 ⟨rl, r1', hr1, rfl⟩
   have HK2 := Aside0.mk (KeptL.putObj (own := own) (.loop r1') hr1 HLW.out)
   have HI2 := Aside0.mk (HIa.out.stable HK2.out HBS.out fun b hb => Or.inl hb)
   have HZ2 : Aside0 (SmB ((W.alloc (.cells (smC a0 a1 [r0, r1, r2, r3, r4, r5, r6, r7, r8, r9, r10, r11]) 66)).putObj l (.loop r1')) W.heap.size a0 a1 [r0, r1, r2, r3, r4, r5, r6, r7, r8, r9, r10, r11]) := ⟨⟨(World.putObj_heap_other (fun e => by have h1 := HZ.out.1; rw [e] at h1; have h2 := hr1.symm.trans h1; cases h2)).trans HZ.out.1, hx12⟩⟩
   have HKW : Aside0 (W.heap.size < ((W.alloc (.cells (smC a0 a1 [r0, r1, r2, r3, r4, r5, r6, r7, r8, r9, r10, r11]) 66)).putObj l (.loop r1')).heap.size) := ⟨blk_ltS HZ2.out.1⟩
   simp only [smC, List.map_cons, List.map_nil] at HI2 HZ2 HKW
   clear HK2 HI HIa HZ hr1 hBa
   generalize (W.alloc (.cells _ 66)).putObj l (.loop r1') = W2 at HI2 HZ2 HKW ⊢
   generalize W.heap.size = Z at HZ2 HKW ⊢
   have HNE : Aside0 (C2 ≠ C2 + 1) := ⟨by omega⟩
   have hc2 : W2.cell? ⟨C2, 0, none⟩ = some (.int .i64 a) := (blk_cell HI2.out.c2 0).trans rfl
   have hf2 := blk_frozen HI2.out.c2 0
   have HI3 := Aside0.mk (HI2.out.put2 HNE.out (.int .i64 (wrap64 (a + 1))))
   have HZ3 : Aside0 (SmB (W2.setCell ⟨C2, 0, none⟩ (.int .i64 (wrap64 (a + 1)))) Z a0 a1 [r0, r1, r2, r3, r4, r5, r6, r7, r8, r9, r10, r11]) := ⟨⟨blk_grown HZ2.out.1 (grown_set W2 C2 0 _) (fun e => ne_type HZ2.out.1 HI2.out.c2 (by decide) (Option.some.inj e)), hx12⟩⟩
   have hc3 : (W2.setCell ⟨C2, 0, none⟩ (.int .i64 (wrap64 (a + 1)))).cell? ⟨C2 + 1, 0, none⟩ = some (.int .i64 c) := (blk_cell HI3.out.c3 0).trans rfl
   clear HI2 HZ2
   cases bc with
   | true =>
    have HF3 : Aside0 (countS k a0 a1 rest2 (wrap64 (a + 1)) (wrap64 (c + 1)) = some (p1, p2)) := ⟨by simpa using HF2.out⟩
    clear HF2
    gi_wp2_with (refine ⟨trivial, rfl, ?_⟩; refine (CallsIn.inRound l (callsIn_wide.2 (small_connected.calls k a0 a1 _ true _ Z HZ3.out HBC.out))).mono ?_; rintro e3 W4 ⟨rfl, hb4⟩; have HB4 := Aside0.mk hb4; have HI4 := Aside0.mk (HI3.out.next hb4); have hc4 : W4.cell? ⟨C2 + 1, 0, none⟩ = some (.int .i64 c) := (blk_cell (HI3.out.next hb4).c3 0).trans rfl; have hf4 := blk_frozen (HI3.out.next hb4).c3 0; clear hb4)
    exact ⟨((RoundKept.set _ K2.out).trans (RoundKept.of_below HB4.out)).trans (RoundKept.set _ K3.out), _, _, rest2, HI4.out.put3 HNE.out _, HP.out, HF3.out⟩
   | false =>
    have HF3 : Aside0 (countS k a0 a1 rest2 (wrap64 (a + 1)) c = some (p1, p2)) := ⟨by simpa using HF2.out⟩
    clear HF2
    gi_wp2_with (refine ⟨trivial, rfl, ?_⟩; refine (CallsIn.inRound l (callsIn_wide.2 (small_connected.calls k a0 a1 _ false _ Z HZ3.out HBC.out))).mono ?_; rintro e3 W4 ⟨rfl, hb4⟩; have HB4 := Aside0.mk hb4; have HI4 := Aside0.mk (HI3.out.next hb4); clear hb4)
    exact ⟨(RoundKept.set _ K2.out).trans (RoundKept.of_below HB4.out), _, _, rest2, HI4.out, HP.out, HF3.out⟩
  case done =>
   rintro D own W ⟨a, c, rest, hi, hL, hF⟩ hbs hK hD
   obtain rfl : rest = [] := List.append_cancel_left (hL.symm.trans (List.append_nil L).symm)
   obtain ⟨rfl, rfl⟩ := Prod.mk.inj (Option.some.inj hF)
   have HI := Aside0.mk hi
   have HK := Aside0.mk hK
   have hc2 : W.cell? ⟨C2, 0, none⟩ = some (.int .i64 a) := (blk_cell hi.c2 0).trans rfl
   have hc3 : W.cell? ⟨C2 + 1, 0, none⟩ = some (.int .i64 c) := (blk_cell hi.c3 0).trans rfl
   have HD := Aside0.mk (show w.heap.size ≤ D from Nat.le_trans HI3.out.below.size hD)
   clear hi hK hL hF seq
   go_wp2_with fail
   go_quiet (fail)
   go_wp2_with fail
   have hb9 := pw_below_drewN (Below.refl W.heap.size W) nq
   have hK4 := (hb9.block D (blk_ltS HK.out)).trans HK.out
   have HI4 := (HI.out.next hb9).putD hK4 HD.out (.deferred none)
   refine ⟨by simp, .inl ⟨_, _, rfl, run_takeDeferred hK4, ?_⟩⟩
   exact ⟨_, results_tmp3 rfl _ _ _, rfl, HI4.below⟩
  case stop => exact fun _ _ _ _ _ h _ _ _ => h.elim
 ·rw [if_neg d] at H
  have hh := Option.some.inj H.out
  simp only [Prod.mk.injEq] at hh
  obtain ⟨rfl, rfl, rfl⟩ := hh
  have d' : (e == 0) = false := by simp [d]
  clear H
  go_wp2_with ((go_at_call 37; refine (maze_asks.calls _ _ _ _ HE.out).mono ?_; rintro e2 w2 ⟨rfl, hd2⟩; have HB1 := Aside0.mk hd2.below; clear hd2))
  exact ⟨_, results_tmp3 rfl _ _ _, rfl, HB1.out⟩
end Go.Proofs.Ytgbjbgdnldklpaa.Q
end
