/- The law MazeNames holds: a maze whose rooms are named anew is connected if and only if the maze is, and is walked through alike; no bound on the arguments beyond their types'. (text 14 of 19) -/
import Derived.Test.YtgbjbgdnldklpaaZMazeNamesm
import Derived.Test.YtgbjbgdnldklpaaZMazeNamesi
import Derived.Test.YtgbjbgdnldklpaaZMazeNamesf
/-! Part XCheck -/
section
namespace Go.Proofs.Ytgbjbgdnldklpaa.Q
open Go.RowKit Go.Proofs.YtgbjbgdnldklpaaW.PrintWords Go.Proofs.YtgbjbgdnldklpaaW.PrintLast Go.Proofs.YtgbjbgdnldklpaaW.PrintMore
attribute [local go_sem] Oper.semAt_some
set_option linter.unusedVariables false
set_option linter.unusedSimpArgs false
def chkS (k : Nat) (n d : Int) (l : List Int) : List (List Int) → Option Bool
  | [] => some true
  | x :: r => (small_connected.f k n d x).bind fun b => if b = true then (maze_visited.f k n d x l).bind fun v => (if v = true then chkS k n d l r else some false) else chkS k n d l r
theorem chkS.mono (n d : Int) (l : List Int) : ∀ (L : List (List Int)) (k : Nat), LeO (chkS k n d l L) (chkS (k + 1) n d l L)
  | [], _ => LeO.refl _
  | x :: r, k => LeO.bind (small_connected.mono _ _ _ _) fun b => LeO.ite (LeO.bind (maze_visited.mono _ _ _ _ _) fun v => LeO.ite (chkS.mono n d l r k) (LeO.refl _)) (chkS.mono n d l r k)
def maze_Check.l0 : Nat → Int → Int → List Int → Int → Option (Bool × Int)
  | 0, _, _, _, _ => none
  | k + 1, a0, a1, l, n => if n ≤ a0 then (maze_all.f k n a1).bind fun L => (chkS k n a1 l L).bind fun b => (if b = true then maze_Check.l0 k a0 a1 l (wrap64 (n + 1)) else some (false, 0)) else some (true, 0)
def maze_Check.f (k : Nat) (a0 a1 : Int) (l : List Int) : Option (Bool × Int) := (maze_asks.f a0 a1).bind fun e => if e = 0 then (maze_fits.f l a1).bind fun t => (if t = true then (if (l.length : Int) > 500 then some (false, 2) else maze_Check.l0 k a0 a1 l 2) else some (false, 2)) else some (false, e)
theorem maze_Check.mono_l : ∀ k y0 y1 y2 y3, LeO (maze_Check.l0 k y0 y1 y2 y3) (maze_Check.l0 (k + 1) y0 y1 y2 y3)
  | 0 => fun _ _ _ _ r h => by simp [maze_Check.l0] at h
  | k + 1 => by
    intro y0 y1 y2 y3
    unfold maze_Check.l0
    exact LeO.ite (LeO.bind (maze_all.mono _ _ _) fun L => LeO.bind (chkS.mono _ _ _ _ _) fun b => LeO.ite (maze_Check.mono_l k _ _ _ _) (LeO.refl _)) (LeO.refl _)
theorem maze_Check.mono : ∀ a0 a1 a2 k, LeO (maze_Check.f k a0 a1 a2) (maze_Check.f (k + 1) a0 a1 a2) := fun _ _ _ k => LeO.bind (LeO.refl _) fun e => LeO.ite (LeO.bind (LeO.refl _) fun t => LeO.ite (LeO.ite (LeO.refl _) (maze_Check.mono_l k _ _ _ _)) (LeO.refl _)) (LeO.refl _)
/-- The caller's memory: the word's box, the results' boxes, the marks of the ranges that are behind. -/
structure CF (w : World) (C : Nat) (A : Option Addr) (len c : Nat) (dl : List Deferred) (own : Nat → Prop) (W : World) (u6 : Bool) (u7 : Int) : Prop where
  below : Below w.heap.size w W
  c5 : W.heap[C]? = some (.cells #[.slice A len c] 30 (0, 0))
  c6 : W.heap[C + 1]? = some (.cells #[.bool u6] 4 (0, 0))
  c7 : W.heap[C + 1 + 1]? = some (.cells #[.int .i64 u7] 22 (0, 0))
  no : ∀ b, own b → C + 1 + 1 < b
  hC : w.heap.size ≤ C
  ms : ∀ d ∈ dl, ∃ D, d = { target := .collected D, args := #[] } ∧ W.heap[D]? = some (.deferred (some [])) ∧ C + 1 + 1 < D ∧ ¬ own D
  nd : dl.Nodup
section
variable {w : World} {C len c : Nat} {A : Option Addr} {dl : List Deferred} {own own' : Nat → Prop} {W W' : World} {u6 : Bool} {u7 : Int}
theorem CF.stable (h : CF w C A len c dl own W u6 u7) (hk : KeptL w.heap.size own W W') (hs : ∀ b, own b → w.heap.size ≤ b) (hn : ∀ b, own' b → own b ∨ W.heap.size ≤ b) : CF w C A len c dl own' W' u6 u7 :=
  ⟨hk.below h.below hs, hk.cells h.c5 (fun ho => by have := h.no _ ho; omega), hk.cells h.c6 (fun ho => by have := h.no _ ho; omega), hk.cells h.c7 (fun ho => by have := h.no _ ho; omega),
    fun b hb => (hn b hb).elim (h.no b) (fun h2 => by have := blk_ltS h.c7; omega), h.hC,
    fun d hd => by
      obtain ⟨D, e, h1, h2, h3⟩ := h.ms d hd
      exact ⟨D, e, (hk.block D (blk_ltS h1) h3 (Or.inr fun r e => by rw [h1] at e; cases e)).trans h1, h2, fun ho => (hn D ho).elim h3 (by have := blk_ltS h1; omega)⟩, h.nd⟩
theorem CF.next (h : CF w C A len c dl own W u6 u7) (hb : Below W.heap.size W W') : CF w C A len c dl own W' u6 u7 :=
  ⟨below_step h.below hb, blk_below h.c5 hb, blk_below h.c6 hb, blk_below h.c7 hb, h.no, h.hC, fun d hd => by
    obtain ⟨D, e, h1, h2, h3⟩ := h.ms d hd
    exact ⟨D, e, blk_below h1 hb, h2, h3⟩, h.nd⟩
theorem CF.put (h : CF w C A len c dl own W u6 u7) (v6 : Bool) (v7 : Int) : CF w C A len c dl own ((W.setCell ⟨C + 1, 0, none⟩ (.bool v6)).setCell ⟨C + 1 + 1, 0, none⟩ (.int .i64 v7)) v6 v7 := by
  have a6 := blk_put (cs := #[.bool u6]) h.c6 0 (.bool v6) rfl
  have a7 : (W.setCell ⟨C + 1, 0, none⟩ (.bool v6)).heap[C + 1 + 1]? = some (.cells #[.int .i64 u7] 22 (0, 0)) := (Below.heap_setCell W ⟨C + 1, 0, none⟩ _ (C + 1 + 1) (by simp)).trans h.c7
  have b7 := blk_put (cs := #[.int .i64 u7]) a7 0 (.int .i64 v7) rfl
  have far : ∀ b, b ≠ C + 1 → b ≠ C + 1 + 1 → ((W.setCell ⟨C + 1, 0, none⟩ (.bool v6)).setCell ⟨C + 1 + 1, 0, none⟩ (.int .i64 v7)).heap[b]? = W.heap[b]? := fun b h1 h2 => by
    rw [Below.heap_setCell _ ⟨C + 1 + 1, 0, none⟩ _ b h2, Below.heap_setCell _ ⟨C + 1, 0, none⟩ _ b h1]
  have hC := h.hC
  exact ⟨(h.below.setCell (p := ⟨C + 1, 0, none⟩) (by show _ ≤ C + 1; omega) _).setCell (p := ⟨C + 1 + 1, 0, none⟩) (by show _ ≤ C + 1 + 1; omega) _, (far C (by omega) (by omega)).trans h.c5, (Below.heap_setCell _ ⟨C + 1 + 1, 0, none⟩ _ (C + 1) (by simp)).trans a6, b7, h.no, h.hC, fun d hd => by
    obtain ⟨D, e, h1, h2, h3⟩ := h.ms d hd
    exact ⟨D, e, (far D (by omega) (by omega)).trans h1, h2, h3⟩, h.nd⟩
end
theorem CF.start (w : World) (A : Option Addr) (len c : Nat) : CF w w.heap.size A len c [] (fun _ => False) (((w.alloc (.cells #[.slice A len c] 30)).alloc (.cells #[.bool false] 4)).alloc (.cells #[.int .i64 0] 22)) false 0 := by
  have hb := (((Below.refl _ w).alloc (Nat.le_refl _) (.cells #[.slice A len c] 30)).alloc (by simp) (.cells #[.bool false] 4)).alloc (by simp; omega) (.cells #[.int .i64 0] 22)
  refine ⟨hb, blk_alloc (blk_alloc (blk_new _ _) _) _, blk_alloc ?_ _, ?_, fun b h => h.elim, Nat.le_refl _, (by intro d hd; cases hd), List.nodup_nil⟩
  · have := blk_new (w.alloc (.cells #[.slice A len c] 30)) (.cells #[.bool false] 4)
    rwa [World.size_alloc] at this
  · have := blk_new ((w.alloc (.cells #[.slice A len c] 30)).alloc (.cells #[.bool false] 4)) (.cells #[.int .i64 0] 22)
    rwa [World.size_alloc, World.size_alloc] at this
/-- What the marks' ends leave as it was. -/
structure MarkRel (lim : Nat) (W W' : World) : Prop where
  os : W'.os = W.os
  tape : W'.tape = W.tape
  output : W'.output = W.output
  size : W.heap.size ≤ W'.heap.size
  block : ∀ b, b < lim → W'.heap[b]? = W.heap[b]?
theorem leaves_marks {F : Fence} {n : Nat} {P : Program} {fn : Func} {tmps : Array Value} {R : Ending → World → Prop} {lim : Nat} : ∀ (dl : List Deferred) (W : World), (∀ d ∈ dl, ∃ D, d = { target := .collected D, args := #[] } ∧ W.heap[D]? = some (.deferred (some [])) ∧ lim ≤ D) → dl.Nodup →
    (∀ W', MarkRel lim W W' → LeavesInM F n P fn tmps R [] .returning W') → LeavesInM F n P fn tmps R dl .returning W
  | [], W, _, _, h => h W ⟨rfl, rfl, rfl, Nat.le_refl _, fun _ _ => rfl⟩
  | d :: dl, W, hm, hn, h => by
    obtain ⟨D, rfl, h1, h2⟩ := hm d List.mem_cons_self
    rw [List.nodup_cons] at hn
    refine ⟨by simp, .inl ⟨_, _, rfl, run_takeDeferred h1, ?_⟩⟩
    refine leaves_marks dl (W.putObj D (.deferred none)) (fun d' hd' => ?_) hn.2 fun W' hr => h W' ⟨hr.os, hr.tape, hr.output, by have := hr.size; simpa using this, fun b hb => (hr.block b hb).trans (World.putObj_heap_other (by omega))⟩
    obtain ⟨D', rfl, h3, h4⟩ := hm d' (List.mem_cons_of_mem _ hd')
    exact ⟨D', rfl, (World.putObj_heap_other (fun e => hn.1 (by rw [← e]; exact hd'))).trans h3, h4⟩
theorem res_cells67 {fn : Func} (hf : fn.results = #[.cell 6 4, .cell 7 22]) {tmps : Array Value} {C2 C3 : Nat} (h2 : tmps.getD 6 undef = .pointer (some ⟨C2, 0, none⟩)) (h3 : tmps.getD 7 undef = .pointer (some ⟨C3, 0, none⟩)) {W : World} {b : Bool} {r : Int}
    (c2 : W.cell? ⟨C2, 0, none⟩ = some (.bool b)) (c3 : W.cell? ⟨C3, 0, none⟩ = some (.int .i64 r)) : (results fn tmps).run Try.prog W = .ok (.tuple #[.bool b, .int .i64 r]) W := by
  have h2' : tmps[6]?.getD undef = .pointer (some ⟨C2, 0, none⟩) := by simpa using h2
  have h3' : tmps[7]?.getD undef = .pointer (some ⟨C3, 0, none⟩) := by simpa using h3
  simp [results, hf, h2', h3', go_sem, c2, c3]
theorem CF.ends {F : Fence} {n : Nat} {fn : Func} {tmps : Array Value} {w : World} {C len c : Nat} {A : Option Addr} {dl : List Deferred} {own : Nat → Prop} {W : World} {u6 : Bool} {u7 : Int} (h : CF w C A len c dl own W u6 u7)
    (hf : fn.results = #[.cell 6 4, .cell 7 22]) (h2 : tmps.getD 6 undef = .pointer (some ⟨C + 1, 0, none⟩)) (h3 : tmps.getD 7 undef = .pointer (some ⟨C + 1 + 1, 0, none⟩)) :
    LeavesInM F n Try.prog fn tmps (fun e w' => e = .returned (.tuple #[.bool u6, .int .i64 u7]) ∧ Below w.heap.size w w') dl .returning W := by
  have hC := h.hC
  refine leaves_marks (lim := C + 1 + 1 + 1) dl W (fun d hd => by obtain ⟨D, e, h1, h2, _⟩ := h.ms d hd; exact ⟨D, e, h1, by omega⟩) h.nd fun W' hr => ?_
  refine ⟨_, res_cells67 hf h2 h3 ((blk_cell ((hr.block (C + 1) (by omega)).trans h.c6) 0).trans rfl) ((blk_cell ((hr.block (C + 1 + 1) (by omega)).trans h.c7) 0).trans rfl), rfl, ?_⟩
  exact ⟨hr.os.trans h.below.os, hr.tape.trans h.below.tape, hr.output.trans h.below.output, Nat.le_trans h.below.size hr.size, fun b hb => (hr.block b (by omega)).trans (h.below.block b hb)⟩
set_option maxHeartbeats 1000000 in
set_option maxRecDepth 100000 in
theorem maze_Check.calls (k : Nat) (a0 a1 : Int) (A2 : Option Addr) (c2 : Nat) (l2 : List Int) (r1 : Bool) (r2 : Int) (w : World) (hr2 : Kd.C (Kd.int .i64) w A2 l2.length l2) (hc2 : l2.length ≤ c2) (h : maze_Check.f k a0 a1 l2 = some (r1, r2)) :
    Calls Try.prog 18 #[.int .i64 a0, .int .i64 a1, .slice A2 l2.length c2] w fun e w' => e = .returned (.tuple #[.bool r1, .int .i64 r2]) ∧ Below w.heap.size w w' := by
  have HB0 := Below.refl w.heap.size w
  have HR := Aside0.mk hr2
  have HC := Aside0.mk hc2
  obtain ⟨e, he, h⟩ := Option.bind_eq_some_iff.1 h
  have HE := Aside0.mk he
  have H := Aside0.mk h
  clear he h hr2 hc2
  refine callsIn_wide.1 (callsIn_of_wp_marks (n := 0) Try.func18 rfl trivial (wpIn_wide.2 ?_) rfl)
  simp only [Try.ntmps18, List.size_toArray, List.length_cons, List.length_nil, Nat.reduceAdd, Nat.reduceSub, Array.replicate_succ, Array.replicate_zero, List.push_toArray, List.append_toArray, List.nil_append, List.cons_append]
  by_cases d : e = 0
  · rw [if_pos d] at H
    subst d
    have d' : ((0 : Int) == 0) = true := rfl
    obtain ⟨t, ht, hG⟩ := Option.bind_eq_some_iff.1 H.out
    have HT := Aside0.mk ht
    have HG := Aside0.mk hG
    clear ht hG H
    have HI0 := Aside0.mk (CF.start w A2 l2.length c2)
    cases t with
    | true =>
      rw [if_pos rfl] at HG
      by_cases d5 : (l2.length : Int) > 500
      · rw [if_pos d5] at HG
        obtain ⟨rfl, rfl⟩ := Prod.mk.inj (Option.some.inj HG.out)
        have d5b : decide (500 < (l2.length : Int)) = true := decide_eq_true (by omega)
        clear d5 HG
        go_wp2_with (first | (go_at_call 37; refine (maze_asks.calls _ _ _ _ HE.out).mono ?_; rintro e2 w2 ⟨rfl, hd2⟩; have HI1 := Aside0.mk (HI0.out.next hd2.below); have hc5 : w2.cell? ⟨w.heap.size, 0, none⟩ = some (.slice A2 l2.length c2) := (blk_cell (HI0.out.next hd2.below).c5 0).trans rfl; clear hd2)  | (go_at_call 41; refine (maze_fits.calls _ _ _ _ _ _ (Kd.C_below HR.out HI1.out.below) HC.out HT.out).mono ?_; rintro e2 w3 ⟨rfl, hb3⟩; have hI3 := HI1.out.next hb3; have HI3 := Aside0.mk hI3; have hc53 : w3.cell? ⟨w.heap.size, 0, none⟩ = some (.slice A2 l2.length c2) := (blk_cell hI3.c5 0).trans rfl;  have hc6 : w3.cell? ⟨w.heap.size + 1, 0, none⟩ = some (.bool false) := (blk_cell hI3.c6 0).trans rfl; have hf6 := blk_frozen hI3.c6 0; have hx7 := (Below.heap_setCell w3 ⟨w.heap.size + 1, 0, none⟩ (.bool false) (w.heap.size + 1 + 1) (by simp)).trans hI3.c7; have hc7 : (w3.setCell ⟨w.heap.size + 1, 0, none⟩ (.bool false)).cell? ⟨w.heap.size + 1 + 1, 0, none⟩ = some (.int .i64 0) := (blk_cell hx7 0).trans rfl; have hf7 := blk_frozen hx7 0; clear hb3 hI3 hx7))
        exact (HI3.out.put false 2).ends rfl rfl rfl
      · rw [if_neg d5] at HG
        have d5b : decide (500 < (l2.length : Int)) = false := decide_eq_false (by omega)
        clear d5
        go_wp2_with (first | (go_at_call 37; refine (maze_asks.calls _ _ _ _ HE.out).mono ?_; rintro e2 w2 ⟨rfl, hd2⟩; have HI1 := Aside0.mk (HI0.out.next hd2.below); have hc5 : w2.cell? ⟨w.heap.size, 0, none⟩ = some (.slice A2 l2.length c2) := (blk_cell (HI0.out.next hd2.below).c5 0).trans rfl; clear hd2)  | (go_at_call 41; refine (maze_fits.calls _ _ _ _ _ _ (Kd.C_below HR.out HI1.out.below) HC.out HT.out).mono ?_; rintro e2 w3 ⟨rfl, hb3⟩; have HI3 := Aside0.mk (HI1.out.next hb3); have hc53 : w3.cell? ⟨w.heap.size, 0, none⟩ = some (.slice A2 l2.length c2) := (blk_cell (HI1.out.next hb3).c5 0).trans rfl; clear hb3))
        obtain ⟨C, hC⟩ : ∃ C, w.heap.size = C := ⟨_, rfl⟩
        have HCC := Aside0.mk hC
        rw [hC] at HI3 ⊢
        have H0 := HG
        clear hc5 hc53 hC HI0 HI1 HE HT d' HG d5b
        refine wp_loop_ghost_k (fun kq a' w' => ∃ (n : Int) (dl : List Deferred) (u10 u26 u27 u28 u29 u30 u31 u32 u33 u34 u35 u36 u37 u38 u39 u40 : Value), a' = { tmps := #[.int .i64 a0, .int .i64 a1, .slice A2 l2.length c2, undef, undef, .pointer (some ⟨C, 0, none⟩), .pointer (some ⟨C + 1, 0, none⟩), .pointer (some ⟨C + 1 + 1, 0, none⟩), .int .i64 0, .int .i64 n, u10, .int .i64 a0, .int .i64 a1, .int .i64 0, .int .i64 0, .bool false, undef, .slice A2 l2.length c2, .int .i64 a1, .bool true, .bool false, .bool false, .slice A2 l2.length c2, .int .i64 (l2.length : Int), .bool false, .bool false, u26, u27, u28, u29, u30, u31, u32, u33, u34, u35, u36, u37, u38, u39, u40], defers := dl } ∧ Aside0 (maze_Check.l0 kq a0 a1 l2 n = some (r1, r2)) ∧ Aside0 (CF w C A2 l2.length c2 dl (fun _ => False) w' false 0)) k ⟨2, [], undef, undef, undef, undef, undef, undef, undef, undef, undef, undef, undef, undef, undef, undef, undef, undef, rfl, H0, HI3⟩ ?_
        clear HI3 H0 w3 w2
        rintro kq a' wr ⟨n, dl, u10, u26, u27, u28, u29, u30, u31, u32, u33, u34, u35, u36, u37, u38, u39, u40, rfl, HA, HI⟩ J K hJ hK
        cases kq with
        | zero => exact absurd HA.out (by simp [maze_Check.l0])
        | succ k1 =>
          have H := HA.out
          clear HA
          simp only [maze_Check.l0] at H
          by_cases d1 : n ≤ a0
          · rw [if_pos d1] at H
            obtain ⟨L, hL, H2⟩ := Option.bind_eq_some_iff.1 H
            obtain ⟨bb, hbb, H3⟩ := Option.bind_eq_some_iff.1 H2
            have HL := Aside0.mk hL
            have HF := Aside0.mk hbb
            have H4 := Aside0.mk H3
            have d1b := decide_eq_true d1
            have HDL : Aside0 (∀ d ∈ dl, ∃ D, d = { target := .collected D, args := #[] } ∧ D < wr.heap.size) := ⟨fun d hd => by obtain ⟨D, e, h1, _⟩ := HI.out.ms d hd; exact ⟨D, e, blk_ltS h1⟩⟩
            clear H H2 H3 hL hbb d1
            go_wp2_with (go_at_call 38; refine (maze_all.makes _ _ _).mono ?_; rintro e2 w3 ⟨rfl, hxR, hxD, hb3⟩; have HI3 := Aside0.mk (HI.out.next hb3); have HXR := Aside0.mk hxR; have HXD := Aside0.mk hxD; have HS3 := Aside0.mk hb3.size; clear hxR hxD hb3)
            have HLT : Aside0 (wr.heap.size + 1 < w3.heap.size) := ⟨blk_ltS HXD.out⟩
            have HCW : Aside0 (C + 1 + 1 < wr.heap.size) := ⟨blk_ltS HI.out.c7⟩
            clear HI
            have seq := maze_all.seq k1 n a1 L wr.heap.size (wr.heap.size + 1) w HL.out
            refine wp_rangeFunc_iter (base := w.heap.size) (own0 := fun b => b = wr.heap.size ∨ b = wr.heap.size + 1) rfl (enters_ Try.func51 (by kernel_rfl) rfl) seq HI3.out.below.size (fun b hb => by have := HCW.out; have := HLT.out; have := HI3.out.hC; rcases hb with rfl | rfl <;> exact ⟨by omega, by omega⟩) (fun W hW => ⟨blk_below HXR.out hW, blk_below HXD.out hW⟩) (fun own x W vs he => by obtain ⟨rfl, _⟩ := he; rfl)
              (fun own pre W => ∃ (rest : List (List Int)), CF w C A2 l2.length c2 dl own W false 0 ∧ L = pre ++ rest ∧ chkS k1 n a1 l2 rest = some bb)
              (fun c own pre W => c = .ret ∧ CF w C A2 l2.length c2 dl own W false 0 ∧ bb = false)
              ?stI ?stX ?start ?round ?done ?stop
            case stI =>
              rintro own own' s A B ⟨rest, hi, hr⟩ hk hs hn
              exact ⟨rest, hi.stable hk hs hn, hr⟩
            case stX =>
              rintro c own own' s A B ⟨rfl, hi, hb⟩ hk hs hn
              exact ⟨rfl, hi.stable hk hs hn, hb⟩
            case start =>
              refine ⟨L, ⟨HI3.out.below, HI3.out.c5, HI3.out.c6, HI3.out.c7, fun b hb => by have := HCW.out; rcases hb with rfl | rfl <;> omega, HI3.out.hC, fun d hd => ?_, HI3.out.nd⟩, rfl, HF.out⟩
              obtain ⟨D, e, h1, h2, h3⟩ := HI3.out.ms d hd
              obtain ⟨D', e', h4⟩ := HDL.out d hd
              have : D = D' := by rw [e] at e'; injection e' with e' _; injection e'
              exact ⟨D, e, h1, h2, by omega⟩
            case round =>
              rintro l D own pre x vs W ⟨rest, hi, hL, hF⟩ ⟨rest2, hL2⟩ ⟨rfl, hx12⟩ ⟨r, hr⟩ ⟨dd, hd⟩ hl hD hnl hnD hbs
              obtain rfl : rest = x :: rest2 := List.append_cancel_left (hL.symm.trans hL2)
              obtain ⟨bc, hbc, hF2⟩ := Option.bind_eq_some_iff.1 hF
              have HBC := Aside0.mk hbc
              have HF2 := Aside0.mk hF2
              have HP : Aside0 (L = pre ++ [x] ++ rest2) := ⟨by rw [hL2]; simp⟩
              have HI := Aside0.mk hi
              have HBS := Aside0.mk hbs
              have HLW := Aside0.mk (show w.heap.size ≤ l from Nat.le_trans HI3.out.below.size hl)
              have hCw := hi.hC
              have n2l : C + 1 ≠ l := fun e => by rw [← e, hi.c6] at hr; cases hr
              have n3l : C + 1 + 1 ≠ l := fun e => by rw [← e, hi.c7] at hr; cases hr
              have n2D : C + 1 ≠ D := fun e => by rw [← e, hi.c6] at hd; cases hd
              have n3D : C + 1 + 1 ≠ D := fun e => by rw [← e, hi.c7] at hd; cases hd
              have K2 : Aside0 (¬ keepR w.heap.size own l D (C + 1)) := ⟨fun h => by rcases h with (h | h) | h | h; omega; exact absurd (hi.no _ h) (by omega); exact n2l h; exact n2D h⟩
              have K3 : Aside0 (¬ keepR w.heap.size own l D (C + 1 + 1)) := ⟨fun h => by rcases h with (h | h) | h | h; omega; exact absurd (hi.no _ h) (by omega); exact n3l h; exact n3D h⟩
              clear hi hbs hbc hF2 hF hL hL2 hd hr n2l n3l n2D n3D hCw
              obtain ⟨z0, z1, z2, z3, z4, z5, z6, z7, z8, z9, z10, z11, hrs⟩ := len12 hx12
              subst hrs
              rw [zip1]
              simp only [List.setIfInBounds_toArray, List.set_cons_succ, List.set_cons_zero, smC, List.map_cons, List.map_nil]
              gi_wp2
              have hBa := below_alloc (Below.refl W.heap.size W) (.cells (smC n a1 [z0, z1, z2, z3, z4, z5, z6, z7, z8, z9, z10, z11]) 66)
              have HZ : Aside0 (SmB (W.alloc (.cells (smC n a1 [z0, z1, z2, z3, z4, z5, z6, z7, z8, z9, z10, z11]) 66)) W.heap.size n a1 [z0, z1, z2, z3, z4, z5, z6, z7, z8, z9, z10, z11]) := ⟨⟨blk_new _ _, hx12⟩⟩
              have HIa := Aside0.mk (HI.out.next hBa)
              refine ⟨RoundKept.of_below hBa, ?_⟩
              rintro W2 ⟨rl, r1', hr1, rfl⟩
              have HK2 := Aside0.mk (KeptL.putObj (own := own) (.loop r1') hr1 HLW.out)
              have HI2 := Aside0.mk (HIa.out.stable HK2.out HBS.out fun b hb => Or.inl hb)
              have HZ2 : Aside0 (SmB ((W.alloc (.cells (smC n a1 [z0, z1, z2, z3, z4, z5, z6, z7, z8, z9, z10, z11]) 66)).putObj l (.loop r1')) W.heap.size n a1 [z0, z1, z2, z3, z4, z5, z6, z7, z8, z9, z10, z11]) := ⟨⟨(World.putObj_heap_other (fun e => by have h1 := HZ.out.1; rw [e] at h1; have h2 := hr1.symm.trans h1; cases h2)).trans HZ.out.1, hx12⟩⟩
              simp only [smC, List.map_cons, List.map_nil] at HI2 HZ2
              clear HK2 HI HIa HZ hr1 hBa
              generalize (W.alloc (.cells _ 66)).putObj l (.loop r1') = W2 at HI2 HZ2 ⊢
              generalize W.heap.size = Z at HZ2 ⊢
              cases bc with
              | false =>
                have HF3 : Aside0 (chkS k1 n a1 l2 rest2 = some bb) := ⟨by simpa using HF2.out⟩
                clear HF2
                gi_wp2_with (refine ⟨trivial, rfl, ?_⟩; refine (CallsIn.inRound l (callsIn_wide.2 (small_connected.calls k1 n a1 _ false _ Z HZ2.out HBC.out))).mono ?_; rintro e3 W4 ⟨rfl, hb4⟩; have HB4 := Aside0.mk hb4; have HI4 := Aside0.mk (HI2.out.next hb4); clear hb4)
                refine ⟨trivial, ?_⟩
                gi_wp2_with fail
                exact ⟨RoundKept.of_below HB4.out, rest2, HI4.out, HP.out, HF3.out⟩
              | true =>
                obtain ⟨vv, hvv, hF4⟩ := Option.bind_eq_some_iff.1 (show (maze_visited.f k1 n a1 [z0, z1, z2, z3, z4, z5, z6, z7, z8, z9, z10, z11] l2).bind (fun v => (if v = true then chkS k1 n a1 l2 rest2 else some false)) = some bb by simpa using HF2.out)
                have HVV := Aside0.mk hvv
                have HF4 := Aside0.mk hF4
                clear HF2 hvv hF4
                cases vv with
                | true =>
                  have HF3 : Aside0 (chkS k1 n a1 l2 rest2 = some bb) := ⟨by simpa using HF4.out⟩
                  clear HF4
                  gi_wp2_with (first | (refine ⟨trivial, rfl, ?_⟩; refine (CallsIn.inRound l (callsIn_wide.2 (small_connected.calls k1 n a1 _ true _ Z HZ2.out HBC.out))).mono ?_; rintro e3 W4 ⟨rfl, hb4⟩; have HB4 := Aside0.mk hb4; have HI4 := Aside0.mk (HI2.out.next hb4); have HZ4 : Aside0 (SmB W4 Z n a1 [z0, z1, z2, z3, z4, z5, z6, z7, z8, z9, z10, z11]) := ⟨⟨blk_below HZ2.out.1 hb4, hx12⟩⟩; have hc54 : W4.cell? ⟨C, 0, none⟩ = some (.slice A2 l2.length c2) := (blk_cell (HI2.out.next hb4).c5 0).trans rfl; clear hb4)  | (refine ⟨trivial, rfl, ?_⟩; refine (CallsIn.inRound l (callsIn_wide.2 (maze_visited.calls k1 n a1 _ l2 A2 c2 true Z w W4 HR.out HI4.out.below HZ4.out HVV.out))).mono ?_; rintro e3 W5 ⟨rfl, hb5⟩; have HB5 := Aside0.mk hb5; have HI5 := Aside0.mk (HI4.out.next hb5); clear hb5))
                  exact ⟨(RoundKept.of_below HB4.out).trans (RoundKept.of_below HB5.out), rest2, HI5.out, HP.out, HF3.out⟩
                | false =>
                  have HF3 : Aside0 (bb = false) := ⟨by simpa using HF4.out.symm⟩
                  clear HF4
                  gi_wp2_with (first | (refine ⟨trivial, rfl, ?_⟩; refine (CallsIn.inRound l (callsIn_wide.2 (small_connected.calls k1 n a1 _ true _ Z HZ2.out HBC.out))).mono ?_; rintro e3 W4 ⟨rfl, hb4⟩; have HB4 := Aside0.mk hb4; have HI4 := Aside0.mk (HI2.out.next hb4); have HZ4 : Aside0 (SmB W4 Z n a1 [z0, z1, z2, z3, z4, z5, z6, z7, z8, z9, z10, z11]) := ⟨⟨blk_below HZ2.out.1 hb4, hx12⟩⟩; have hc54 : W4.cell? ⟨C, 0, none⟩ = some (.slice A2 l2.length c2) := (blk_cell (HI2.out.next hb4).c5 0).trans rfl; clear hb4)  | (refine ⟨trivial, rfl, ?_⟩; refine (CallsIn.inRound l (callsIn_wide.2 (maze_visited.calls k1 n a1 _ l2 A2 c2 false Z w W4 HR.out HI4.out.below HZ4.out HVV.out))).mono ?_; rintro e3 W5 ⟨rfl, hb5⟩; have HB5 := Aside0.mk hb5; have HI5 := Aside0.mk (HI4.out.next hb5); have hc6 : W5.cell? ⟨C + 1, 0, none⟩ = some (.bool false) := (blk_cell (HI4.out.next hb5).c6 0).trans rfl; have hf6 := blk_frozen (HI4.out.next hb5).c6 0; have hc7 : (W5.setCell ⟨C + 1, 0, none⟩ (.bool false)).cell? ⟨C + 1 + 1, 0, none⟩ = some (.int .i64 0) := (blk_cell ((Below.heap_setCell W5 ⟨C + 1, 0, none⟩ _ (C + 1 + 1) (by simp)).trans (HI4.out.next hb5).c7) 0).trans rfl; have hf7 := blk_frozen ((Below.heap_setCell W5 ⟨C + 1, 0, none⟩ (.bool false) (C + 1 + 1) (by simp)).trans (HI4.out.next hb5).c7) 0; clear hb5))
                  exact ⟨(((RoundKept.of_below HB4.out).trans (RoundKept.of_below HB5.out)).trans (RoundKept.set _ K2.out)).trans (RoundKept.set _ K3.out), rfl, HI5.out.put false 0, HF3.out⟩
            case done =>
              rintro D own W ⟨rest, hi, hL, hF⟩ hbs hKd hD
              obtain rfl : rest = [] := List.append_cancel_left (hL.symm.trans (List.append_nil L).symm)
              obtain rfl := Option.some.inj hF
              have HI := Aside0.mk hi
              have HKd := Aside0.mk hKd
              have H5 : Aside0 (maze_Check.l0 k1 a0 a1 l2 (wrap64 (n + 1)) = some (r1, r2)) := ⟨by simpa using H4.out⟩
              have HDD := Aside0.mk hD
              clear hi hKd hL hF seq H4
              go_wp2_with fail
              refine Handed.intro k1 (by omega) (hJ _ _ _ ⟨_, _, _, _, _, _, _, _, _, _, _, _, _, _, _, _, _, _, rfl, H5, ⟨?_⟩⟩)
              have hw3 := HS3.out
              have hcw := HCW.out
              refine ⟨HI.out.below, HI.out.c5, HI.out.c6, HI.out.c7, fun b hb => hb.elim, HI.out.hC, fun d hd => ?_, ?_⟩
              · rcases List.mem_cons.1 hd with rfl | hd
                · exact ⟨D, rfl, HKd.out, by have := HDD.out; omega, id⟩
                · obtain ⟨D', e, h1, h2, h3⟩ := HI.out.ms d hd
                  exact ⟨D', e, h1, h2, id⟩
              · rw [List.nodup_cons]
                refine ⟨fun hd => ?_, HI.out.nd⟩
                obtain ⟨D', e', h4⟩ := HDL.out _ hd
                have : D = D' := by injection e' with e' _; injection e'
                have := HDD.out
                omega
            case stop =>
              rintro D c own pre W ⟨rfl, hi, rfl⟩ hbs hKd hD
              have HI := Aside0.mk hi
              have HKd := Aside0.mk hKd
              have HDD := Aside0.mk hD
              obtain ⟨rfl, rfl⟩ := Prod.mk.inj (Option.some.inj (show some (false, (0 : Int)) = some (r1, r2) by simpa using H4.out))
              clear hi hKd seq H4
              go_wp2_with fail
              have hw3 := HS3.out
              have hcw := HCW.out
              have HE : CF w C A2 l2.length c2 ({ target := .collected D, args := #[] } :: dl) (fun _ => False) W false 0 := by
                refine ⟨HI.out.below, HI.out.c5, HI.out.c6, HI.out.c7, fun b hb => hb.elim, HI.out.hC, fun d hd => ?_, ?_⟩
                · rcases List.mem_cons.1 hd with rfl | hd
                  · exact ⟨D, rfl, HKd.out, by have := HDD.out; omega, id⟩
                  · obtain ⟨D', e, h1, h2, h3⟩ := HI.out.ms d hd
                    exact ⟨D', e, h1, h2, id⟩
                · rw [List.nodup_cons]
                  refine ⟨fun hd => ?_, HI.out.nd⟩
                  obtain ⟨D', e', h4⟩ := HDL.out _ hd
                  have : D = D' := by injection e' with e' _; injection e'
                  have := HDD.out
                  omega
              exact HE.ends rfl rfl rfl
          · rw [if_neg d1] at H
            obtain ⟨rfl, rfl⟩ := Prod.mk.inj (Option.some.inj H)
            have d1b := decide_eq_false d1
            have hc6 : wr.cell? ⟨C + 1, 0, none⟩ = some (.bool false) := (blk_cell HI.out.c6 0).trans rfl
            have hf6 := blk_frozen HI.out.c6 0
            have hx7 := (Below.heap_setCell wr ⟨C + 1, 0, none⟩ (.bool true) (C + 1 + 1) (by simp)).trans HI.out.c7
            have hc7 : (wr.setCell ⟨C + 1, 0, none⟩ (.bool true)).cell? ⟨C + 1 + 1, 0, none⟩ = some (.int .i64 0) := (blk_cell hx7 0).trans rfl
            have hf7 := blk_frozen hx7 0
            have HE := Aside0.mk (HI.out.put true 0)
            clear H d1 hx7 HI
            go_wp2_with fail
            exact HE.out.ends rfl rfl rfl
    | false =>
      rw [if_neg (by simp)] at HG
      obtain ⟨rfl, rfl⟩ := Prod.mk.inj (Option.some.inj HG.out)
      clear HG
      go_wp2_with (first | (go_at_call 37; refine (maze_asks.calls _ _ _ _ HE.out).mono ?_; rintro e2 w2 ⟨rfl, hd2⟩; have HI1 := Aside0.mk (HI0.out.next hd2.below); have hc5 : w2.cell? ⟨w.heap.size, 0, none⟩ = some (.slice A2 l2.length c2) := (blk_cell (HI0.out.next hd2.below).c5 0).trans rfl; clear hd2)  | (go_at_call 41; refine (maze_fits.calls _ _ _ _ _ _ (Kd.C_below HR.out HI1.out.below) HC.out HT.out).mono ?_; rintro e2 w3 ⟨rfl, hb3⟩; have hI3 := HI1.out.next hb3; have HI3 := Aside0.mk hI3; have hc53 : w3.cell? ⟨w.heap.size, 0, none⟩ = some (.slice A2 l2.length c2) := (blk_cell hI3.c5 0).trans rfl;  have hc6 : w3.cell? ⟨w.heap.size + 1, 0, none⟩ = some (.bool false) := (blk_cell hI3.c6 0).trans rfl; have hf6 := blk_frozen hI3.c6 0; have hx7 := (Below.heap_setCell w3 ⟨w.heap.size + 1, 0, none⟩ (.bool false) (w.heap.size + 1 + 1) (by simp)).trans hI3.c7; have hc7 : (w3.setCell ⟨w.heap.size + 1, 0, none⟩ (.bool false)).cell? ⟨w.heap.size + 1 + 1, 0, none⟩ = some (.int .i64 0) := (blk_cell hx7 0).trans rfl; have hf7 := blk_frozen hx7 0; clear hb3 hI3 hx7))
      exact (HI3.out.put false 2).ends rfl rfl rfl
  · rw [if_neg d] at H
    obtain ⟨rfl, rfl⟩ := Prod.mk.inj (Option.some.inj H.out)
    have d' : (e == 0) = false := by simp [d]
    have HI0 := Aside0.mk (CF.start w A2 l2.length c2)
    clear H
    go_wp2_with ((go_at_call 37; refine (maze_asks.calls _ _ _ _ HE.out).mono ?_; rintro e2 w2 ⟨rfl, hd2⟩; have hI1 := HI0.out.next hd2.below; have HI1 := Aside0.mk hI1;  have hc6 : w2.cell? ⟨w.heap.size + 1, 0, none⟩ = some (.bool false) := (blk_cell hI1.c6 0).trans rfl; have hf6 := blk_frozen hI1.c6 0; have hx7 := (Below.heap_setCell w2 ⟨w.heap.size + 1, 0, none⟩ (.bool false) (w.heap.size + 1 + 1) (by simp)).trans hI1.c7; have hc7 : (w2.setCell ⟨w.heap.size + 1, 0, none⟩ (.bool false)).cell? ⟨w.heap.size + 1 + 1, 0, none⟩ = some (.int .i64 0) := (blk_cell hx7 0).trans rfl; have hf7 := blk_frozen hx7 0; clear hd2 hI1 hx7))
    exact (HI1.out.put false e).ends rfl rfl rfl
end Go.Proofs.Ytgbjbgdnldklpaa.Q
end
/-! Part QLaw10Awake -/
section
-- Written by xprint.py, a program of this session's, over the kit's print. Lean checks it.
namespace Go.Proofs.Ytgbjbgdnldklpaa.Q
open Go.RowKit Go.Proofs.YtgbjbgdnldklpaaW.PrintWords Go.Proofs.YtgbjbgdnldklpaaW.PrintLast Go.Proofs.YtgbjbgdnldklpaaW.PrintMore
attribute [local go_sem] max2_int min2_int max_two min_two max_three min_three max_four min_four
set_option linter.unusedVariables false
set_option linter.unusedSimpArgs false

/-! ### mizmazelaw10_awake: function 14 -/
def mizmazelaw10_awake.f (k : Nat)  : Option (Bool) := (maze_Mazes.f k 2 1).bind fun bt101 => ((maze_Check.f k 2 2 (([0, 1] : List Int))).bind fun bt107 => ((maze_Check.f k 2 2 (([0] : List Int))).bind fun bt112 => (if bt101.2.2 = 0 then (if bt107.2 = 0 then (if bt112.2 = 0 then (if bt101.1 = 2 then (if bt101.2.1 = 1 then (if bt107.1 = true then (some (!bt112.1)) else (none)) else (none)) else (none)) else (none)) else (none)) else (none))))
theorem mizmazelaw10_awake.mono : ∀ k, LeO (mizmazelaw10_awake.f k ) (mizmazelaw10_awake.f (k + 1) ) := by
  intro  k
  unfold mizmazelaw10_awake.f
  repeat' first
      | (with_reducible exact maze_Check.mono _ _ _ _)
      | (with_reducible exact maze_Mazes.mono _ _ _)
      | (with_reducible exact LeO.refl _)
      | (with_reducible exact LeO.none _)
      | (with_reducible refine LeO.ite ?_ ?_)
      | (with_reducible refine LeO.bind ?_ (fun _ => ?_))
      | exact maze_Check.mono _ _ _ _
      | exact maze_Mazes.mono _ _ _
      | exact LeO.none _
      | refine LeO.ite ?_ ?_
      | refine LeO.bind ?_ (fun _ => ?_)
set_option maxHeartbeats 8000000 in
set_option maxRecDepth 100000 in
theorem mizmazelaw10_awake.calls (k : Nat)  (r : Bool) (w : World) (h : mizmazelaw10_awake.f k  = some r) :
    Calls Try.prog 14 #[] w fun e w' => e = .returned (.bool r) ∧ Below w.heap.size w w' := by
  have HB := Aside0.mk (Below.refl w.heap.size w)
  have H : ((maze_Mazes.f k 2 1).bind fun bt101 => ((maze_Check.f k 2 2 (([0, 1] : List Int))).bind fun bt107 => ((maze_Check.f k 2 2 (([0] : List Int))).bind fun bt112 => (if bt101.2.2 = 0 then (if bt107.2 = 0 then (if bt112.2 = 0 then (if bt101.1 = 2 then (if bt101.2.1 = 1 then (if bt107.1 = true then (some (!bt112.1)) else (none)) else (none)) else (none)) else (none)) else (none)) else (none))))) = some r := h
  clear h
  replace H := Option.bind_eq_some_iff.mp H
  obtain ⟨⟨t101, t102, t103⟩, A10, H⟩ := H
  replace H : ((maze_Check.f k 2 2 (([0, 1] : List Int))).bind fun bt107 => ((maze_Check.f k 2 2 (([0] : List Int))).bind fun bt112 => (if t103 = 0 then (if bt107.2 = 0 then (if bt112.2 = 0 then (if t101 = 2 then (if t102 = 1 then (if bt107.1 = true then (some (!bt112.1)) else (none)) else (none)) else (none)) else (none)) else (none)) else (none)))) = some r := H
  have A1 := Aside0.mk A10
  clear A10
  obtain ⟨y104, hy104⟩ : ∃ y_ : List Int, y_ = (([0, 1] : List Int)) := ⟨_, rfl⟩
  replace H : ((maze_Check.f k 2 2 y104).bind fun bt107 => ((maze_Check.f k 2 2 (([0] : List Int))).bind fun bt112 => (if t103 = 0 then (if bt107.2 = 0 then (if bt112.2 = 0 then (if t101 = 2 then (if t102 = 1 then (if bt107.1 = true then (some (!bt112.1)) else (none)) else (none)) else (none)) else (none)) else (none)) else (none)))) = some r := by first | (rw [hy104]; with_reducible exact H) | (have H2_ := (Option.bind_some _ _).symm.trans H; rw [hy104]; with_reducible exact H2_) | (have H2_ := (Option.bind_some _ _).symm.trans H; with_reducible exact H2_) | with_reducible exact H | (rw [hy104]; exact H) | exact H
  have Ny104 := Aside0.mk hy104
  clear hy104
  replace H := Option.bind_eq_some_iff.mp H
  obtain ⟨⟨t107, t108⟩, A20, H⟩ := H
  replace H : ((maze_Check.f k 2 2 (([0] : List Int))).bind fun bt112 => (if t103 = 0 then (if t108 = 0 then (if bt112.2 = 0 then (if t101 = 2 then (if t102 = 1 then (if t107 = true then (some (!bt112.1)) else (none)) else (none)) else (none)) else (none)) else (none)) else (none))) = some r := H
  have A2 := Aside0.mk A20
  clear A20
  obtain ⟨y109, hy109⟩ : ∃ y_ : List Int, y_ = (([0] : List Int)) := ⟨_, rfl⟩
  replace H : ((maze_Check.f k 2 2 y109).bind fun bt112 => (if t103 = 0 then (if t108 = 0 then (if bt112.2 = 0 then (if t101 = 2 then (if t102 = 1 then (if t107 = true then (some (!bt112.1)) else (none)) else (none)) else (none)) else (none)) else (none)) else (none))) = some r := by first | (rw [hy109]; with_reducible exact H) | (have H2_ := (Option.bind_some _ _).symm.trans H; rw [hy109]; with_reducible exact H2_) | (have H2_ := (Option.bind_some _ _).symm.trans H; with_reducible exact H2_) | with_reducible exact H | (rw [hy109]; exact H) | exact H
  have Ny109 := Aside0.mk hy109
  clear hy109
  replace H := Option.bind_eq_some_iff.mp H
  obtain ⟨⟨t112, t113⟩, A30, H⟩ := H
  replace H : (if t103 = 0 then (if t108 = 0 then (if t113 = 0 then (if t101 = 2 then (if t102 = 1 then (if t107 = true then (some (!t112)) else (none)) else (none)) else (none)) else (none)) else (none)) else (none)) = some r := H
  have A3 := Aside0.mk A30
  clear A30
  by_cases c4 : t103 = 0
  · rw [if_pos c4] at H
    have c4b0 : (t103 == 0) = true := beq_iff_eq.mpr c4
    have c4b1 : (t103 != 0) = false := bne_eq_false_iff_eq.mpr c4
    clear c4
    by_cases c5 : t108 = 0
    · rw [if_pos c5] at H
      have c5b0 : (t108 == 0) = true := beq_iff_eq.mpr c5
      have c5b1 : (t108 != 0) = false := bne_eq_false_iff_eq.mpr c5
      clear c5
      by_cases c6 : t113 = 0
      · rw [if_pos c6] at H
        have c6b0 : (t113 == 0) = true := beq_iff_eq.mpr c6
        have c6b1 : (t113 != 0) = false := bne_eq_false_iff_eq.mpr c6
        clear c6
        by_cases c7 : t101 = 2
        · rw [if_pos c7] at H
          have c7b0 : (t101 == 2) = true := beq_iff_eq.mpr c7
          have c7b1 : (t101 != 2) = false := bne_eq_false_iff_eq.mpr c7
          clear c7
          by_cases c8 : t102 = 1
          · rw [if_pos c8] at H
            have c8b0 : (t102 == 1) = true := beq_iff_eq.mpr c8
            have c8b1 : (t102 != 1) = false := bne_eq_false_iff_eq.mpr c8
            clear c8
            by_cases c9 : t107 = true
            · subst c9
              have H1 : (some (!t112)) = some r := by rw [if_pos rfl] at H; exact H
              clear H
              have H := H1
              clear H1
              obtain rfl := Option.some.inj H
              go_enter Try.func14, Try.ntmps14
              go_wp2_with (first | ((with_reducible refine gate_callee (f := 12) rfl ?_); refine goesL_ (some 9) rfl rfl Try.func12 (by kernel_rfl) rfl #[.int .i64 2, .int .i64 1] rfl (by (try simp only [List.map_toArray, List.map_cons, List.map_nil]); first | done | rfl | (simp only [List.length_drop, List.length_take]; rfl)) ?_; (with_reducible refine (maze_Mazes.calls k 2 1 t101 t102 t103 _ A1.out).mono ?_); rintro e w10 ⟨rfl, hb⟩; refine ⟨_, rfl, ?_⟩; have n0_ := Aside0.mk (below_step (by repeat (first | (with_reducible first | exact HB.out | apply below_alloc | apply pw_below_drewN | apply below_drew1) | exact HB.out)) hb); clear HB; have HB := n0_; clear n0_; (try clear hb); (try clear hb2); (try clear hk); (try clear hi)) | ((with_reducible refine gate_dst (N := 14) rfl ?_); refine Kd.R_lit (Kd.int .i64) _ 3 ?hg (N := 14) ?hd (xs := ([0, 1] : List Int)) (inner := [.int .i64 0, .int .i64 1]) (ok := fun _ => True) (okp := fun _ => True) ?hr ?hp (fun _ hk => hk) trivial (Below.refl _ _) (Nat.le_refl _) (by simp) ?_; (case hd => rfl); (case hg => rfl); (case hr => first | (go_simp; done) | (go_simp; rfl)); (case hp => exact (Reps.one (show Kd.M (Kd.int .i64) _ _ _ 0 [.int .i64 0] from rfl) (Reps.one (show Kd.M (Kd.int .i64) _ _ _ 1 [.int .i64 1] from rfl) (Reps.none _ _)))); intro v105 w11 ho12 hb hg_ hnew_; clear hg_ hnew_; (first | rw [← Ny104.out] at ho12 | (simp only [Int.reduceToNat] at ho12; rw [← Ny104.out] at ho12)); have n0_ := Aside0.mk (Kd.R_lower ho12 (below_size (by repeat (first | (with_reducible first | exact HB.out | apply below_alloc | apply pw_below_drewN | apply below_drew1) | exact HB.out)))); have n1_ := Aside0.mk (below_step (by repeat (first | (with_reducible first | exact HB.out | apply below_alloc | apply pw_below_drewN | apply below_drew1) | exact HB.out)) hb); clear HB; have HO106 := n0_; have HB := n1_; clear n0_ n1_; clear hb ho12; obtain ⟨Ao13, co13, eo13⟩ := Kd.R_slice HO106.out; subst eo13) | ((with_reducible refine gate_callee (f := 18) rfl ?_); refine goesL_ (some 15) rfl rfl Try.func18 (by kernel_rfl) rfl #[.int .i64 2, .int .i64 2, .slice Ao13 y104.length co13] rfl (by (try simp only [List.map_toArray, List.map_cons, List.map_nil]); first | done | rfl | (simp only [List.length_drop, List.length_take]; rfl)) ?_; (with_reducible refine (maze_Check.calls k 2 2 _ _ y104 true t108 _ ?side1 ?side2 A2.out).mono ?_); (case side1 => repeat (first | exact (Kd.R_reads' HO106.out).2.2 | (with_reducible refine Kd.C_alloc ?_ _) | (with_reducible refine Kd.C_drewN ?_ _) | (with_reducible refine Kd.C_drew ?_))); (case side2 => exact (Kd.R_reads' HO106.out).2.1); rintro e w14 ⟨rfl, hb⟩; refine ⟨_, rfl, ?_⟩; have n0_ := Aside0.mk (Kd.R_below (by (with_reducible repeat (first | apply Kd.R_alloc | apply Kd.R_drewN | apply Kd.R_drew)); exact HO106.out) hb); have n1_ := Aside0.mk (below_step (by repeat (first | (with_reducible first | exact HB.out | apply below_alloc | apply pw_below_drewN | apply below_drew1) | exact HB.out)) hb); clear HO106; clear HB; have HO106 := n0_; have HB := n1_; clear n0_ n1_; (try clear hb); (try clear hb2); (try clear hk); (try clear hi)) | ((with_reducible refine gate_dst (N := 19) rfl ?_); refine Kd.R_lit (Kd.int .i64) _ 3 ?hg (N := 19) ?hd (xs := ([0] : List Int)) (inner := [.int .i64 0]) (ok := fun _ => True) (okp := fun _ => True) ?hr ?hp (fun _ hk => hk) trivial (Below.refl _ _) (Nat.le_refl _) (by simp) ?_; (case hd => rfl); (case hg => rfl); (case hr => first | (go_simp; done) | (go_simp; rfl)); (case hp => exact (Reps.one (show Kd.M (Kd.int .i64) _ _ _ 0 [.int .i64 0] from rfl) (Reps.none _ _))); intro v110 w15 ho16 hb hg_ hnew_; clear hg_ hnew_; (first | rw [← Ny109.out] at ho16 | (simp only [Int.reduceToNat] at ho16; rw [← Ny109.out] at ho16)); have n0_ := Aside0.mk (Kd.R_elder' (by (with_reducible repeat (first | apply Kd.R_alloc | apply Kd.R_drewN | apply Kd.R_drew)); exact HO106.out) (Kd.R_base ho16) hb); have n1_ := Aside0.mk (Kd.R_lower (Kd.R_new' ho16 (Kd.R_lt (by (with_reducible repeat (first | apply Kd.R_alloc | apply Kd.R_drewN | apply Kd.R_drew)); exact HO106.out))) (below_size (by repeat (first | (with_reducible first | exact HB.out | apply below_alloc | apply pw_below_drewN | apply below_drew1) | exact HB.out)))); have n2_ := Aside0.mk (below_step (by repeat (first | (with_reducible first | exact HB.out | apply below_alloc | apply pw_below_drewN | apply below_drew1) | exact HB.out)) hb); clear HO106; clear HB; have HO106 := n0_; have HO111 := n1_; have HB := n2_; clear n0_ n1_ n2_; clear hb ho16; obtain ⟨Ao17, co17, eo17⟩ := Kd.R_slice HO111.out; subst eo17) | ((with_reducible refine gate_callee (f := 18) rfl ?_); refine goesL_ (some 20) rfl rfl Try.func18 (by kernel_rfl) rfl #[.int .i64 2, .int .i64 2, .slice Ao17 y109.length co17] rfl (by (try simp only [List.map_toArray, List.map_cons, List.map_nil]); first | done | rfl | (simp only [List.length_drop, List.length_take]; rfl)) ?_; (with_reducible refine (maze_Check.calls k 2 2 _ _ y109 t112 t113 _ ?side1 ?side2 A3.out).mono ?_); (case side1 => repeat (first | exact (Kd.R_reads' HO111.out).2.2 | (with_reducible refine Kd.C_alloc ?_ _) | (with_reducible refine Kd.C_drewN ?_ _) | (with_reducible refine Kd.C_drew ?_))); (case side2 => exact (Kd.R_reads' HO111.out).2.1); rintro e w18 ⟨rfl, hb⟩; refine ⟨_, rfl, ?_⟩; have n0_ := Aside0.mk (Kd.R_below (by (with_reducible repeat (first | apply Kd.R_alloc | apply Kd.R_drewN | apply Kd.R_drew)); exact HO106.out) hb); have n1_ := Aside0.mk (Kd.R_below (by (with_reducible repeat (first | apply Kd.R_alloc | apply Kd.R_drewN | apply Kd.R_drew)); exact HO111.out) hb); have n2_ := Aside0.mk (below_step (by repeat (first | (with_reducible first | exact HB.out | apply below_alloc | apply pw_below_drewN | apply below_drew1) | exact HB.out)) hb); clear HO106; clear HO111; clear HB; have HO106 := n0_; have HO111 := n1_; have HB := n2_; clear n0_ n1_ n2_; (try clear hb); (try clear hb2); (try clear hk); (try clear hi)))
              go_ret
              exact ⟨by first | rfl | (simp [errW_none, errW_some] <;> rfl) | (simp [*, errW_none, errW_some] <;> rfl), by repeat (first | (with_reducible first | exact HB.out | apply below_alloc | apply pw_below_drewN | apply below_drew1) | exact HB.out)⟩
            · replace c9 := Bool.eq_false_iff.mpr c9
              subst c9
              have H1 : (none) = some r := by rw [if_neg (show ¬ (false = true) by decide)] at H; exact H
              clear H
              have H := H1
              clear H1
              exact absurd H (by simp)
          · rw [if_neg c8] at H
            exact absurd H (by simp)
        · rw [if_neg c7] at H
          exact absurd H (by simp)
      · rw [if_neg c6] at H
        exact absurd H (by simp)
    · rw [if_neg c5] at H
      exact absurd H (by simp)
  · rw [if_neg c4] at H
    exact absurd H (by simp)

end Go.Proofs.Ytgbjbgdnldklpaa.Q
end
/-! Part MAwake10 -/
section
namespace Go.Proofs.Ytgbjbgdnldklpaa.Q
open Go.RowKit Go.Proofs.YtgbjbgdnldklpaaW.PrintWords Go.Proofs.YtgbjbgdnldklpaaW.PrintLast Go.Proofs.YtgbjbgdnldklpaaW.PrintMore
set_option maxRecDepth 100000 in
theorem awake10 : Ev (fun k => mizmazelaw10_awake.f k) true := Ev.of (k := 60) (fun k => mizmazelaw10_awake.mono k) (by kernel_rfl)
theorem awake10_end : Ev (fun k => (mizmazelaw10_awake.f k).bind fun t => some t) true := Ev.bind awake10 (Ev.now _)
end Go.Proofs.Ytgbjbgdnldklpaa.Q
end
