/- The law MazeChecks holds: Check reports whether a word visits all rooms of every connected maze of a size, or returns the documented error, as the reference does; no bound on the arguments beyond their types'. (text 15 of 17) -/
import Derived.Test.YtgbjbgdnldklpaaZMazeChecksn
import Derived.Test.YtgbjbgdnldklpaaZMazeChecksi
import Derived.Test.YtgbjbgdnldklpaaZMazeChecksf
import Derived.Test.YtgbjbgdnldklpaaZMazeChecksg
import Derived.Test.YtgbjbgdnldklpaaZMazeChecksm
import Derived.Test.YtgbjbgdnldklpaaZMazeChecksh
/-! Part XCheck -/
section
namespace Go.Proofs.Ytgbjbgdnldklpaa.Q
open Go.RowKit Go.Proofs.YtgbjbgdnldklpaaW.PrintWords Go.Proofs.YtgbjbgdnldklpaaW.PrintLast Go.Proofs.YtgbjbgdnldklpaaW.PrintMore
attribute [local go_sem] Oper.semAt_some
set_option linter.unusedVariables false
set_option linter.unusedSimpArgs false
def chkS (k : Nat) (n d : Int) (l : List Int) : List (List Int) → Option Bool
  | [] => some true
  | x :: r => (small_connected.f k n d x).bind fun b => if b = true then (maze_visited.f k n d x l).bind fun v => (if v = true then chkS k n d l r else some false) else chkS k n d l r
theorem chkS.mono (n d : Int) (l : List Int) : ∀ (L : List (List Int)) (k : Nat), LeO (chkS k n d l L) (chkS (k + 1) n d l L)
  | [], _ => LeO.refl _
  | x :: r, k => LeO.bind (small_connected.mono _ _ _ _) fun b => LeO.ite (LeO.bind (maze_visited.mono _ _ _ _ _) fun v => LeO.ite (chkS.mono n d l r k) (LeO.refl _)) (chkS.mono n d l r k)
def maze_Check.l0 : Nat → Int → Int → List Int → Int → Option (Bool × Int)
  | 0, _, _, _, _ => none
  | k + 1, a0, a1, l, n => if n ≤ a0 then (maze_all.f k n a1).bind fun L => (chkS k n a1 l L).bind fun b => (if b = true then maze_Check.l0 k a0 a1 l (wrap64 (n + 1)) else some (false, 0)) else some (true, 0)
def maze_Check.f (k : Nat) (a0 a1 : Int) (l : List Int) : Option (Bool × Int) := (maze_asks.f a0 a1).bind fun e => if e = 0 then (maze_fits.f l a1).bind fun t => (if t = true then (if (l.length : Int) > 500 then some (false, 2) else maze_Check.l0 k a0 a1 l 2) else some (false, 2)) else some (false, e)
theorem maze_Check.mono_l : ∀ k y0 y1 y2 y3, LeO (maze_Check.l0 k y0 y1 y2 y3) (maze_Check.l0 (k + 1) y0 y1 y2 y3)
  | 0 => fun _ _ _ _ r h => by simp [maze_Check.l0] at h
  | k + 1 => by
    intro y0 y1 y2 y3
    unfold maze_Check.l0
    exact LeO.ite (LeO.bind (maze_all.mono _ _ _) fun L => LeO.bind (chkS.mono _ _ _ _ _) fun b => LeO.ite (maze_Check.mono_l k _ _ _ _) (LeO.refl _)) (LeO.refl _)
theorem maze_Check.mono : ∀ a0 a1 a2 k, LeO (maze_Check.f k a0 a1 a2) (maze_Check.f (k + 1) a0 a1 a2) := fun _ _ _ k => LeO.bind (LeO.refl _) fun e => LeO.ite (LeO.bind (LeO.refl _) fun t => LeO.ite (LeO.ite (LeO.refl _) (maze_Check.mono_l k _ _ _ _)) (LeO.refl _)) (LeO.refl _)
/-- The caller's memory: the word's box, the results' boxes, the marks of the ranges that are behind. -/
structure CF (w : World) (C : Nat) (A : Option Addr) (len c : Nat) (dl : List Deferred) (own : Nat → Prop) (W : World) (u6 : Bool) (u7 : Int) : Prop where
  below : Below w.heap.size w W
  c5 : W.heap[C]? = some (.cells #[.slice A len c] 30 (0, 0))
  c6 : W.heap[C + 1]? = some (.cells #[.bool u6] 4 (0, 0))
  c7 : W.heap[C + 1 + 1]? = some (.cells #[.int .i64 u7] 22 (0, 0))
  no : ∀ b, own b → C + 1 + 1 < b
  hC : w.heap.size ≤ C
  ms : ∀ d ∈ dl, ∃ D, d = { target := .collected D, args := #[] } ∧ W.heap[D]? = some (.deferred (some [])) ∧ C + 1 + 1 < D ∧ ¬ own D
  nd : dl.Nodup
section
variable {w : World} {C len c : Nat} {A : Option Addr} {dl : List Deferred} {own own' : Nat → Prop} {W W' : World} {u6 : Bool} {u7 : Int}
theorem CF.stable (h : CF w C A len c dl own W u6 u7) (hk : KeptL w.heap.size own W W') (hs : ∀ b, own b → w.heap.size ≤ b) (hn : ∀ b, own' b → own b ∨ W.heap.size ≤ b) : CF w C A len c dl own' W' u6 u7 :=
  ⟨hk.below h.below hs, hk.cells h.c5 (fun ho => by have := h.no _ ho; omega), hk.cells h.c6 (fun ho => by have := h.no _ ho; omega), hk.cells h.c7 (fun ho => by have := h.no _ ho; omega),
    fun b hb => (hn b hb).elim (h.no b) (fun h2 => by have := blk_ltS h.c7; omega), h.hC,
    fun d hd => by
      obtain ⟨D, e, h1, h2, h3⟩ := h.ms d hd
      exact ⟨D, e, (hk.block D (blk_ltS h1) h3 (Or.inr fun r e => by rw [h1] at e; cases e)).trans h1, h2, fun ho => (hn D ho).elim h3 (by have := blk_ltS h1; omega)⟩, h.nd⟩
theorem CF.next (h : CF w C A len c dl own W u6 u7) (hb : Below W.heap.size W W') : CF w C A len c dl own W' u6 u7 :=
  ⟨below_step h.below hb, blk_below h.c5 hb, blk_below h.c6 hb, blk_below h.c7 hb, h.no, h.hC, fun d hd => by
    obtain ⟨D, e, h1, h2, h3⟩ := h.ms d hd
    exact ⟨D, e, blk_below h1 hb, h2, h3⟩, h.nd⟩
theorem CF.put (h : CF w C A len c dl own W u6 u7) (v6 : Bool) (v7 : Int) : CF w C A len c dl own ((W.setCell ⟨C + 1, 0, none⟩ (.bool v6)).setCell ⟨C + 1 + 1, 0, none⟩ (.int .i64 v7)) v6 v7 := by
  have a6 := blk_put (cs := #[.bool u6]) h.c6 0 (.bool v6) rfl
  have a7 : (W.setCell ⟨C + 1, 0, none⟩ (.bool v6)).heap[C + 1 + 1]? = some (.cells #[.int .i64 u7] 22 (0, 0)) := (Below.heap_setCell W ⟨C + 1, 0, none⟩ _ (C + 1 + 1) (by simp)).trans h.c7
  have b7 := blk_put (cs := #[.int .i64 u7]) a7 0 (.int .i64 v7) rfl
  have far : ∀ b, b ≠ C + 1 → b ≠ C + 1 + 1 → ((W.setCell ⟨C + 1, 0, none⟩ (.bool v6)).setCell ⟨C + 1 + 1, 0, none⟩ (.int .i64 v7)).heap[b]? = W.heap[b]? := fun b h1 h2 => by
    rw [Below.heap_setCell _ ⟨C + 1 + 1, 0, none⟩ _ b h2, Below.heap_setCell _ ⟨C + 1, 0, none⟩ _ b h1]
  have hC := h.hC
  exact ⟨(h.below.setCell (p := ⟨C + 1, 0, none⟩) (by show _ ≤ C + 1; omega) _).setCell (p := ⟨C + 1 + 1, 0, none⟩) (by show _ ≤ C + 1 + 1; omega) _, (far C (by omega) (by omega)).trans h.c5, (Below.heap_setCell _ ⟨C + 1 + 1, 0, none⟩ _ (C + 1) (by simp)).trans a6, b7, h.no, h.hC, fun d hd => by
    obtain ⟨D, e, h1, h2, h3⟩ := h.ms d hd
    exact ⟨D, e, (far D (by omega) (by omega)).trans h1, h2, h3⟩, h.nd⟩
end
theorem CF.start (w : World) (A : Option Addr) (len c : Nat) : CF w w.heap.size A len c [] (fun _ => False) (((w.alloc (.cells #[.slice A len c] 30)).alloc (.cells #[.bool false] 4)).alloc (.cells #[.int .i64 0] 22)) false 0 := by
  have hb := (((Below.refl _ w).alloc (Nat.le_refl _) (.cells #[.slice A len c] 30)).alloc (by simp) (.cells #[.bool false] 4)).alloc (by simp; omega) (.cells #[.int .i64 0] 22)
  refine ⟨hb, blk_alloc (blk_alloc (blk_new _ _) _) _, blk_alloc ?_ _, ?_, fun b h => h.elim, Nat.le_refl _, (by intro d hd; cases hd), List.nodup_nil⟩
  · have := blk_new (w.alloc (.cells #[.slice A len c] 30)) (.cells #[.bool false] 4)
    rwa [World.size_alloc] at this
  · have := blk_new ((w.alloc (.cells #[.slice A len c] 30)).alloc (.cells #[.bool false] 4)) (.cells #[.int .i64 0] 22)
    rwa [World.size_alloc, World.size_alloc] at this
/-- What the marks' ends leave as it was. -/
structure MarkRel (lim : Nat) (W W' : World) : Prop where
  os : W'.os = W.os
  tape : W'.tape = W.tape
  output : W'.output = W.output
  size : W.heap.size ≤ W'.heap.size
  block : ∀ b, b < lim → W'.heap[b]? = W.heap[b]?
theorem leaves_marks {F : Fence} {n : Nat} {P : Program} {fn : Func} {tmps : Array Value} {R : Ending → World → Prop} {lim : Nat} : ∀ (dl : List Deferred) (W : World), (∀ d ∈ dl, ∃ D, d = { target := .collected D, args := #[] } ∧ W.heap[D]? = some (.deferred (some [])) ∧ lim ≤ D) → dl.Nodup →
    (∀ W', MarkRel lim W W' → LeavesInM F n P fn tmps R [] .returning W') → LeavesInM F n P fn tmps R dl .returning W
  | [], W, _, _, h => h W ⟨rfl, rfl, rfl, Nat.le_refl _, fun _ _ => rfl⟩
  | d :: dl, W, hm, hn, h => by
    obtain ⟨D, rfl, h1, h2⟩ := hm d List.mem_cons_self
    rw [List.nodup_cons] at hn
    refine ⟨by simp, .inl ⟨_, _, rfl, run_takeDeferred h1, ?_⟩⟩
    refine leaves_marks dl (W.putObj D (.deferred none)) (fun d' hd' => ?_) hn.2 fun W' hr => h W' ⟨hr.os, hr.tape, hr.output, by have := hr.size; simpa using this, fun b hb => (hr.block b hb).trans (World.putObj_heap_other (by omega))⟩
    obtain ⟨D', rfl, h3, h4⟩ := hm d' (List.mem_cons_of_mem _ hd')
    exact ⟨D', rfl, (World.putObj_heap_other (fun e => hn.1 (by rw [← e]; exact hd'))).trans h3, h4⟩
theorem res_cells67 {fn : Func} (hf : fn.results = #[.cell 6 4, .cell 7 22]) {tmps : Array Value} {C2 C3 : Nat} (h2 : tmps.getD 6 undef = .pointer (some ⟨C2, 0, none⟩)) (h3 : tmps.getD 7 undef = .pointer (some ⟨C3, 0, none⟩)) {W : World} {b : Bool} {r : Int}
    (c2 : W.cell? ⟨C2, 0, none⟩ = some (.bool b)) (c3 : W.cell? ⟨C3, 0, none⟩ = some (.int .i64 r)) : (results fn tmps).run Try.prog W = .ok (.tuple #[.bool b, .int .i64 r]) W := by
  have h2' : tmps[6]?.getD undef = .pointer (some ⟨C2, 0, none⟩) := by simpa using h2
  have h3' : tmps[7]?.getD undef = .pointer (some ⟨C3, 0, none⟩) := by simpa using h3
  simp [results, hf, h2', h3', go_sem, c2, c3]
theorem CF.ends {F : Fence} {n : Nat} {fn : Func} {tmps : Array Value} {w : World} {C len c : Nat} {A : Option Addr} {dl : List Deferred} {own : Nat → Prop} {W : World} {u6 : Bool} {u7 : Int} (h : CF w C A len c dl own W u6 u7)
    (hf : fn.results = #[.cell 6 4, .cell 7 22]) (h2 : tmps.getD 6 undef = .pointer (some ⟨C + 1, 0, none⟩)) (h3 : tmps.getD 7 undef = .pointer (some ⟨C + 1 + 1, 0, none⟩)) :
    LeavesInM F n Try.prog fn tmps (fun e w' => e = .returned (.tuple #[.bool u6, .int .i64 u7]) ∧ Below w.heap.size w w') dl .returning W := by
  have hC := h.hC
  refine leaves_marks (lim := C + 1 + 1 + 1) dl W (fun d hd => by obtain ⟨D, e, h1, h2, _⟩ := h.ms d hd; exact ⟨D, e, h1, by omega⟩) h.nd fun W' hr => ?_
  refine ⟨_, res_cells67 hf h2 h3 ((blk_cell ((hr.block (C + 1) (by omega)).trans h.c6) 0).trans rfl) ((blk_cell ((hr.block (C + 1 + 1) (by omega)).trans h.c7) 0).trans rfl), rfl, ?_⟩
  exact ⟨hr.os.trans h.below.os, hr.tape.trans h.below.tape, hr.output.trans h.below.output, Nat.le_trans h.below.size hr.size, fun b hb => (hr.block b (by omega)).trans (h.below.block b hb)⟩
set_option maxHeartbeats 1000000 in
set_option maxRecDepth 100000 in
theorem maze_Check.calls (k : Nat) (a0 a1 : Int) (A2 : Option Addr) (c2 : Nat) (l2 : List Int) (r1 : Bool) (r2 : Int) (w : World) (hr2 : Kd.C (Kd.int .i64) w A2 l2.length l2) (hc2 : l2.length ≤ c2) (h : maze_Check.f k a0 a1 l2 = some (r1, r2)) :
    Calls Try.prog 18 #[.int .i64 a0, .int .i64 a1, .slice A2 l2.length c2] w fun e w' => e = .returned (.tuple #[.bool r1, .int .i64 r2]) ∧ Below w.heap.size w w' := by
  have HB0 := Below.refl w.heap.size w
  have HR := Aside0.mk hr2
  have HC := Aside0.mk hc2
  obtain ⟨e, he, h⟩ := Option.bind_eq_some_iff.1 h
  have HE := Aside0.mk he
  have H := Aside0.mk h
  clear he h hr2 hc2
  refine callsIn_wide.1 (callsIn_of_wp_marks (n := 0) Try.func18 rfl trivial (wpIn_wide.2 ?_) rfl)
  simp only [Try.ntmps18, List.size_toArray, List.length_cons, List.length_nil, Nat.reduceAdd, Nat.reduceSub, Array.replicate_succ, Array.replicate_zero, List.push_toArray, List.append_toArray, List.nil_append, List.cons_append]
  by_cases d : e = 0
  · rw [if_pos d] at H
    subst d
    have d' : ((0 : Int) == 0) = true := rfl
    obtain ⟨t, ht, hG⟩ := Option.bind_eq_some_iff.1 H.out
    have HT := Aside0.mk ht
    have HG := Aside0.mk hG
    clear ht hG H
    have HI0 := Aside0.mk (CF.start w A2 l2.length c2)
    cases t with
    | true =>
      rw [if_pos rfl] at HG
      by_cases d5 : (l2.length : Int) > 500
      · rw [if_pos d5] at HG
        obtain ⟨rfl, rfl⟩ := Prod.mk.inj (Option.some.inj HG.out)
        have d5b : decide (500 < (l2.length : Int)) = true := decide_eq_true (by omega)
        clear d5 HG
        go_wp2_with (first | (go_at_call 37; refine (maze_asks.calls _ _ _ _ HE.out).mono ?_; rintro e2 w2 ⟨rfl, hd2⟩; have HI1 := Aside0.mk (HI0.out.next hd2.below); have hc5 : w2.cell? ⟨w.heap.size, 0, none⟩ = some (.slice A2 l2.length c2) := (blk_cell (HI0.out.next hd2.below).c5 0).trans rfl; clear hd2)  | (go_at_call 41; refine (maze_fits.calls _ _ _ _ _ _ (Kd.C_below HR.out HI1.out.below) HC.out HT.out).mono ?_; rintro e2 w3 ⟨rfl, hb3⟩; have hI3 := HI1.out.next hb3; have HI3 := Aside0.mk hI3; have hc53 : w3.cell? ⟨w.heap.size, 0, none⟩ = some (.slice A2 l2.length c2) := (blk_cell hI3.c5 0).trans rfl;  have hc6 : w3.cell? ⟨w.heap.size + 1, 0, none⟩ = some (.bool false) := (blk_cell hI3.c6 0).trans rfl; have hf6 := blk_frozen hI3.c6 0; have hx7 := (Below.heap_setCell w3 ⟨w.heap.size + 1, 0, none⟩ (.bool false) (w.heap.size + 1 + 1) (by simp)).trans hI3.c7; have hc7 : (w3.setCell ⟨w.heap.size + 1, 0, none⟩ (.bool false)).cell? ⟨w.heap.size + 1 + 1, 0, none⟩ = some (.int .i64 0) := (blk_cell hx7 0).trans rfl; have hf7 := blk_frozen hx7 0; clear hb3 hI3 hx7))
        exact (HI3.out.put false 2).ends rfl rfl rfl
      · rw [if_neg d5] at HG
        have d5b : decide (500 < (l2.length : Int)) = false := decide_eq_false (by omega)
        clear d5
        go_wp2_with (first | (go_at_call 37; refine (maze_asks.calls _ _ _ _ HE.out).mono ?_; rintro e2 w2 ⟨rfl, hd2⟩; have HI1 := Aside0.mk (HI0.out.next hd2.below); have hc5 : w2.cell? ⟨w.heap.size, 0, none⟩ = some (.slice A2 l2.length c2) := (blk_cell (HI0.out.next hd2.below).c5 0).trans rfl; clear hd2)  | (go_at_call 41; refine (maze_fits.calls _ _ _ _ _ _ (Kd.C_below HR.out HI1.out.below) HC.out HT.out).mono ?_; rintro e2 w3 ⟨rfl, hb3⟩; have HI3 := Aside0.mk (HI1.out.next hb3); have hc53 : w3.cell? ⟨w.heap.size, 0, none⟩ = some (.slice A2 l2.length c2) := (blk_cell (HI1.out.next hb3).c5 0).trans rfl; clear hb3))
        obtain ⟨C, hC⟩ : ∃ C, w.heap.size = C := ⟨_, rfl⟩
        have HCC := Aside0.mk hC
        rw [hC] at HI3 ⊢
        have H0 := HG
        clear hc5 hc53 hC HI0 HI1 HE HT d' HG d5b
        refine wp_loop_ghost_k (fun kq a' w' => ∃ (n : Int) (dl : List Deferred) (u10 u26 u27 u28 u29 u30 u31 u32 u33 u34 u35 u36 u37 u38 u39 u40 : Value), a' = { tmps := #[.int .i64 a0, .int .i64 a1, .slice A2 l2.length c2, undef, undef, .pointer (some ⟨C, 0, none⟩), .pointer (some ⟨C + 1, 0, none⟩), .pointer (some ⟨C + 1 + 1, 0, none⟩), .int .i64 0, .int .i64 n, u10, .int .i64 a0, .int .i64 a1, .int .i64 0, .int .i64 0, .bool false, undef, .slice A2 l2.length c2, .int .i64 a1, .bool true, .bool false, .bool false, .slice A2 l2.length c2, .int .i64 (l2.length : Int), .bool false, .bool false, u26, u27, u28, u29, u30, u31, u32, u33, u34, u35, u36, u37, u38, u39, u40], defers := dl } ∧ Aside0 (maze_Check.l0 kq a0 a1 l2 n = some (r1, r2)) ∧ Aside0 (CF w C A2 l2.length c2 dl (fun _ => False) w' false 0)) k ⟨2, [], undef, undef, undef, undef, undef, undef, undef, undef, undef, undef, undef, undef, undef, undef, undef, undef, rfl, H0, HI3⟩ ?_
        clear HI3 H0 w3 w2
        rintro kq a' wr ⟨n, dl, u10, u26, u27, u28, u29, u30, u31, u32, u33, u34, u35, u36, u37, u38, u39, u40, rfl, HA, HI⟩ J K hJ hK
        cases kq with
        | zero => exact absurd HA.out (by simp [maze_Check.l0])
        | succ k1 =>
          have H := HA.out
          clear HA
          simp only [maze_Check.l0] at H
          by_cases d1 : n ≤ a0
          · rw [if_pos d1] at H
            obtain ⟨L, hL, H2⟩ := Option.bind_eq_some_iff.1 H
            obtain ⟨bb, hbb, H3⟩ := Option.bind_eq_some_iff.1 H2
            have HL := Aside0.mk hL
            have HF := Aside0.mk hbb
            have H4 := Aside0.mk H3
            have d1b := decide_eq_true d1
            have HDL : Aside0 (∀ d ∈ dl, ∃ D, d = { target := .collected D, args := #[] } ∧ D < wr.heap.size) := ⟨fun d hd => by obtain ⟨D, e, h1, _⟩ := HI.out.ms d hd; exact ⟨D, e, blk_ltS h1⟩⟩
            clear H H2 H3 hL hbb d1
            go_wp2_with (go_at_call 38; refine (maze_all.makes _ _ _).mono ?_; rintro e2 w3 ⟨rfl, hxR, hxD, hb3⟩; have HI3 := Aside0.mk (HI.out.next hb3); have HXR := Aside0.mk hxR; have HXD := Aside0.mk hxD; have HS3 := Aside0.mk hb3.size; clear hxR hxD hb3)
            have HLT : Aside0 (wr.heap.size + 1 < w3.heap.size) := ⟨blk_ltS HXD.out⟩
            have HCW : Aside0 (C + 1 + 1 < wr.heap.size) := ⟨blk_ltS HI.out.c7⟩
            clear HI
            have seq := maze_all.seq k1 n a1 L wr.heap.size (wr.heap.size + 1) w HL.out
            refine wp_rangeFunc_iter (base := w.heap.size) (own0 := fun b => b = wr.heap.size ∨ b = wr.heap.size + 1) rfl (enters_ Try.func51 (by kernel_rfl) rfl) seq HI3.out.below.size (fun b hb => by have := HCW.out; have := HLT.out; have := HI3.out.hC; rcases hb with rfl | rfl <;> exact ⟨by omega, by omega⟩) (fun W hW => ⟨blk_below HXR.out hW, blk_below HXD.out hW⟩) (fun own x W vs he => by obtain ⟨rfl, _⟩ := he; rfl)
              (fun own pre W => ∃ (rest : List (List Int)), CF w C A2 l2.length c2 dl own W false 0 ∧ L = pre ++ rest ∧ chkS k1 n a1 l2 rest = some bb)
              (fun c own pre W => c = .ret ∧ CF w C A2 l2.length c2 dl own W false 0 ∧ bb = false)
              ?stI ?stX ?start ?round ?done ?stop
            case stI =>
              rintro own own' s A B ⟨rest, hi, hr⟩ hk hs hn
              exact ⟨rest, hi.stable hk hs hn, hr⟩
            case stX =>
              rintro c own own' s A B ⟨rfl, hi, hb⟩ hk hs hn
              exact ⟨rfl, hi.stable hk hs hn, hb⟩
            case start =>
              refine ⟨L, ⟨HI3.out.below, HI3.out.c5, HI3.out.c6, HI3.out.c7, fun b hb => by have := HCW.out; rcases hb with rfl | rfl <;> omega, HI3.out.hC, fun d hd => ?_, HI3.out.nd⟩, rfl, HF.out⟩
              obtain ⟨D, e, h1, h2, h3⟩ := HI3.out.ms d hd
              obtain ⟨D', e', h4⟩ := HDL.out d hd
              have : D = D' := by rw [e] at e'; injection e' with e' _; injection e'
              exact ⟨D, e, h1, h2, by omega⟩
            case round =>
              rintro l D own pre x vs W ⟨rest, hi, hL, hF⟩ ⟨rest2, hL2⟩ ⟨rfl, hx12⟩ ⟨r, hr⟩ ⟨dd, hd⟩ hl hD hnl hnD hbs
              obtain rfl : rest = x :: rest2 := List.append_cancel_left (hL.symm.trans hL2)
              obtain ⟨bc, hbc, hF2⟩ := Option.bind_eq_some_iff.1 hF
              have HBC := Aside0.mk hbc
              have HF2 := Aside0.mk hF2
              have HP : Aside0 (L = pre ++ [x] ++ rest2) := ⟨by rw [hL2]; simp⟩
              have HI := Aside0.mk hi
              have HBS := Aside0.mk hbs
              have HLW := Aside0.mk (show w.heap.size ≤ l from Nat.le_trans HI3.out.below.size hl)
              have hCw := hi.hC
              have n2l : C + 1 ≠ l := fun e => by rw [← e, hi.c6] at hr; cases hr
              have n3l : C + 1 + 1 ≠ l := fun e => by rw [← e, hi.c7] at hr; cases hr
              have n2D : C + 1 ≠ D := fun e => by rw [← e, hi.c6] at hd; cases hd
              have n3D : C + 1 + 1 ≠ D := fun e => by rw [← e, hi.c7] at hd; cases hd
              have K2 : Aside0 (¬ keepR w.heap.size own l D (C + 1)) := ⟨fun h => by rcases h with (h | h) | h | h; omega; exact absurd (hi.no _ h) (by omega); exact n2l h; exact n2D h⟩
              have K3 : Aside0 (¬ keepR w.heap.size own l D (C + 1 + 1)) := ⟨fun h => by rcases h with (h | h) | h | h; omega; exact absurd (hi.no _ h) (by omega); exact n3l h; exact n3D h⟩
              clear hi hbs hbc hF2 hF hL hL2 hd hr n2l n3l n2D n3D hCw
              obtain ⟨z0, z1, z2, z3, z4, z5, z6, z7, z8, z9, z10, z11, hrs⟩ := len12 hx12
              subst hrs
              rw [zip1]
              simp only [List.setIfInBounds_toArray, List.set_cons_succ, List.set_cons_zero, smC, List.map_cons, List.map_nil]
              gi_wp2
              have hBa := below_alloc (Below.refl W.heap.size W) (.cells (smC n a1 [z0, z1, z2, z3, z4, z5, z6, z7, z8, z9, z10, z11]) 66)
              have HZ : Aside0 (SmB (W.alloc (.cells (smC n a1 [z0, z1, z2, z3, z4, z5, z6, z7, z8, z9, z10, z11]) 66)) W.heap.size n a1 [z0, z1, z2, z3, z4, z5, z6, z7, z8, z9, z10, z11]) := ⟨⟨blk_new _ _, hx12⟩⟩
              have HIa := Aside0.mk (HI.out.next hBa)
              refine ⟨RoundKept.of_below hBa, ?_⟩
              rintro W2 ⟨rl, r1', hr1, rfl⟩
              have HK2 := Aside0.mk (KeptL.putObj (own := own) (.loop r1') hr1 HLW.out)
              have HI2 := Aside0.mk (HIa.out.stable HK2.out HBS.out fun b hb => Or.inl hb)
              have HZ2 : Aside0 (SmB ((W.alloc (.cells (smC n a1 [z0, z1, z2, z3, z4, z5, z6, z7, z8, z9, z10, z11]) 66)).putObj l (.loop r1')) W.heap.size n a1 [z0, z1, z2, z3, z4, z5, z6, z7, z8, z9, z10, z11]) := ⟨⟨(World.putObj_heap_other (fun e => by have h1 := HZ.out.1; rw [e] at h1; have h2 := hr1.symm.trans h1; cases h2)).trans HZ.out.1, hx12⟩⟩
              simp only [smC, List.map_cons, List.map_nil] at HI2 HZ2
              clear HK2 HI HIa HZ hr1 hBa
              generalize (W.alloc (.cells _ 66)).putObj l (.loop r1') = W2 at HI2 HZ2 ⊢
              generalize W.heap.size = Z at HZ2 ⊢
              cases bc with
              | false =>
                have HF3 : Aside0 (chkS k1 n a1 l2 rest2 = some bb) := ⟨by simpa using HF2.out⟩
                clear HF2
                gi_wp2_with (refine ⟨trivial, rfl, ?_⟩; refine (CallsIn.inRound l (callsIn_wide.2 (small_connected.calls k1 n a1 _ false _ Z HZ2.out HBC.out))).mono ?_; rintro e3 W4 ⟨rfl, hb4⟩; have HB4 := Aside0.mk hb4; have HI4 := Aside0.mk (HI2.out.next hb4); clear hb4)
                refine ⟨trivial, ?_⟩
                gi_wp2_with fail
                exact ⟨RoundKept.of_below HB4.out, rest2, HI4.out, HP.out, HF3.out⟩
              | true =>
                obtain ⟨vv, hvv, hF4⟩ := Option.bind_eq_some_iff.1 (show (maze_visited.f k1 n a1 [z0, z1, z2, z3, z4, z5, z6, z7, z8, z9, z10, z11] l2).bind (fun v => (if v = true then chkS k1 n a1 l2 rest2 else some false)) = some bb by simpa using HF2.out)
                have HVV := Aside0.mk hvv
                have HF4 := Aside0.mk hF4
                clear HF2 hvv hF4
                cases vv with
                | true =>
                  have HF3 : Aside0 (chkS k1 n a1 l2 rest2 = some bb) := ⟨by simpa using HF4.out⟩
                  clear HF4
                  gi_wp2_with (first | (refine ⟨trivial, rfl, ?_⟩; refine (CallsIn.inRound l (callsIn_wide.2 (small_connected.calls k1 n a1 _ true _ Z HZ2.out HBC.out))).mono ?_; rintro e3 W4 ⟨rfl, hb4⟩; have HB4 := Aside0.mk hb4; have HI4 := Aside0.mk (HI2.out.next hb4); have HZ4 : Aside0 (SmB W4 Z n a1 [z0, z1, z2, z3, z4, z5, z6, z7, z8, z9, z10, z11]) := ⟨⟨blk_below HZ2.out.1 hb4, hx12⟩⟩; have hc54 : W4.cell? ⟨C, 0, none⟩ = some (.slice A2 l2.length c2) := (blk_cell (HI2.out.next hb4).c5 0).trans rfl; clear hb4)  | (refine ⟨trivial, rfl, ?_⟩; refine (CallsIn.inRound l (callsIn_wide.2 (maze_visited.calls k1 n a1 _ l2 A2 c2 true Z w W4 HR.out HI4.out.below HZ4.out HVV.out))).mono ?_; rintro e3 W5 ⟨rfl, hb5⟩; have HB5 := Aside0.mk hb5; have HI5 := Aside0.mk (HI4.out.next hb5); clear hb5))
                  exact ⟨(RoundKept.of_below HB4.out).trans (RoundKept.of_below HB5.out), rest2, HI5.out, HP.out, HF3.out⟩
                | false =>
                  have HF3 : Aside0 (bb = false) := ⟨by simpa using HF4.out.symm⟩
                  clear HF4
                  gi_wp2_with (first | (refine ⟨trivial, rfl, ?_⟩; refine (CallsIn.inRound l (callsIn_wide.2 (small_connected.calls k1 n a1 _ true _ Z HZ2.out HBC.out))).mono ?_; rintro e3 W4 ⟨rfl, hb4⟩; have HB4 := Aside0.mk hb4; have HI4 := Aside0.mk (HI2.out.next hb4); have HZ4 : Aside0 (SmB W4 Z n a1 [z0, z1, z2, z3, z4, z5, z6, z7, z8, z9, z10, z11]) := ⟨⟨blk_below HZ2.out.1 hb4, hx12⟩⟩; have hc54 : W4.cell? ⟨C, 0, none⟩ = some (.slice A2 l2.length c2) := (blk_cell (HI2.out.next hb4).c5 0).trans rfl; clear hb4)  | (refine ⟨trivial, rfl, ?_⟩; refine (CallsIn.inRound l (callsIn_wide.2 (maze_visited.calls k1 n a1 _ l2 A2 c2 false Z w W4 HR.out HI4.out.below HZ4.out HVV.out))).mono ?_; rintro e3 W5 ⟨rfl, hb5⟩; have HB5 := Aside0.mk hb5; have HI5 := Aside0.mk (HI4.out.next hb5); have hc6 : W5.cell? ⟨C + 1, 0, none⟩ = some (.bool false) := (blk_cell (HI4.out.next hb5).c6 0).trans rfl; have hf6 := blk_frozen (HI4.out.next hb5).c6 0; have hc7 : (W5.setCell ⟨C + 1, 0, none⟩ (.bool false)).cell? ⟨C + 1 + 1, 0, none⟩ = some (.int .i64 0) := (blk_cell ((Below.heap_setCell W5 ⟨C + 1, 0, none⟩ _ (C + 1 + 1) (by simp)).trans (HI4.out.next hb5).c7) 0).trans rfl; have hf7 := blk_frozen ((Below.heap_setCell W5 ⟨C + 1, 0, none⟩ (.bool false) (C + 1 + 1) (by simp)).trans (HI4.out.next hb5).c7) 0; clear hb5))
                  exact ⟨(((RoundKept.of_below HB4.out).trans (RoundKept.of_below HB5.out)).trans (RoundKept.set _ K2.out)).trans (RoundKept.set _ K3.out), rfl, HI5.out.put false 0, HF3.out⟩
            case done =>
              rintro D own W ⟨rest, hi, hL, hF⟩ hbs hKd hD
              obtain rfl : rest = [] := List.append_cancel_left (hL.symm.trans (List.append_nil L).symm)
              obtain rfl := Option.some.inj hF
              have HI := Aside0.mk hi
              have HKd := Aside0.mk hKd
              have H5 : Aside0 (maze_Check.l0 k1 a0 a1 l2 (wrap64 (n + 1)) = some (r1, r2)) := ⟨by simpa using H4.out⟩
              have HDD := Aside0.mk hD
              clear hi hKd hL hF seq H4
              go_wp2_with fail
              refine Handed.intro k1 (by omega) (hJ _ _ _ ⟨_, _, _, _, _, _, _, _, _, _, _, _, _, _, _, _, _, _, rfl, H5, ⟨?_⟩⟩)
              have hw3 := HS3.out
              have hcw := HCW.out
              refine ⟨HI.out.below, HI.out.c5, HI.out.c6, HI.out.c7, fun b hb => hb.elim, HI.out.hC, fun d hd => ?_, ?_⟩
              · rcases List.mem_cons.1 hd with rfl | hd
                · exact ⟨D, rfl, HKd.out, by have := HDD.out; omega, id⟩
                · obtain ⟨D', e, h1, h2, h3⟩ := HI.out.ms d hd
                  exact ⟨D', e, h1, h2, id⟩
              · rw [List.nodup_cons]
                refine ⟨fun hd => ?_, HI.out.nd⟩
                obtain ⟨D', e', h4⟩ := HDL.out _ hd
                have : D = D' := by injection e' with e' _; injection e'
                have := HDD.out
                omega
            case stop =>
              rintro D c own pre W ⟨rfl, hi, rfl⟩ hbs hKd hD
              have HI := Aside0.mk hi
              have HKd := Aside0.mk hKd
              have HDD := Aside0.mk hD
              obtain ⟨rfl, rfl⟩ := Prod.mk.inj (Option.some.inj (show some (false, (0 : Int)) = some (r1, r2) by simpa using H4.out))
              clear hi hKd seq H4
              go_wp2_with fail
              have hw3 := HS3.out
              have hcw := HCW.out
              have HE : CF w C A2 l2.length c2 ({ target := .collected D, args := #[] } :: dl) (fun _ => False) W false 0 := by
                refine ⟨HI.out.below, HI.out.c5, HI.out.c6, HI.out.c7, fun b hb => hb.elim, HI.out.hC, fun d hd => ?_, ?_⟩
                · rcases List.mem_cons.1 hd with rfl | hd
                  · exact ⟨D, rfl, HKd.out, by have := HDD.out; omega, id⟩
                  · obtain ⟨D', e, h1, h2, h3⟩ := HI.out.ms d hd
                    exact ⟨D', e, h1, h2, id⟩
                · rw [List.nodup_cons]
                  refine ⟨fun hd => ?_, HI.out.nd⟩
                  obtain ⟨D', e', h4⟩ := HDL.out _ hd
                  have : D = D' := by injection e' with e' _; injection e'
                  have := HDD.out
                  omega
              exact HE.ends rfl rfl rfl
          · rw [if_neg d1] at H
            obtain ⟨rfl, rfl⟩ := Prod.mk.inj (Option.some.inj H)
            have d1b := decide_eq_false d1
            have hc6 : wr.cell? ⟨C + 1, 0, none⟩ = some (.bool false) := (blk_cell HI.out.c6 0).trans rfl
            have hf6 := blk_frozen HI.out.c6 0
            have hx7 := (Below.heap_setCell wr ⟨C + 1, 0, none⟩ (.bool true) (C + 1 + 1) (by simp)).trans HI.out.c7
            have hc7 : (wr.setCell ⟨C + 1, 0, none⟩ (.bool true)).cell? ⟨C + 1 + 1, 0, none⟩ = some (.int .i64 0) := (blk_cell hx7 0).trans rfl
            have hf7 := blk_frozen hx7 0
            have HE := Aside0.mk (HI.out.put true 0)
            clear H d1 hx7 HI
            go_wp2_with fail
            exact HE.out.ends rfl rfl rfl
    | false =>
      rw [if_neg (by simp)] at HG
      obtain ⟨rfl, rfl⟩ := Prod.mk.inj (Option.some.inj HG.out)
      clear HG
      go_wp2_with (first | (go_at_call 37; refine (maze_asks.calls _ _ _ _ HE.out).mono ?_; rintro e2 w2 ⟨rfl, hd2⟩; have HI1 := Aside0.mk (HI0.out.next hd2.below); have hc5 : w2.cell? ⟨w.heap.size, 0, none⟩ = some (.slice A2 l2.length c2) := (blk_cell (HI0.out.next hd2.below).c5 0).trans rfl; clear hd2)  | (go_at_call 41; refine (maze_fits.calls _ _ _ _ _ _ (Kd.C_below HR.out HI1.out.below) HC.out HT.out).mono ?_; rintro e2 w3 ⟨rfl, hb3⟩; have hI3 := HI1.out.next hb3; have HI3 := Aside0.mk hI3; have hc53 : w3.cell? ⟨w.heap.size, 0, none⟩ = some (.slice A2 l2.length c2) := (blk_cell hI3.c5 0).trans rfl;  have hc6 : w3.cell? ⟨w.heap.size + 1, 0, none⟩ = some (.bool false) := (blk_cell hI3.c6 0).trans rfl; have hf6 := blk_frozen hI3.c6 0; have hx7 := (Below.heap_setCell w3 ⟨w.heap.size + 1, 0, none⟩ (.bool false) (w.heap.size + 1 + 1) (by simp)).trans hI3.c7; have hc7 : (w3.setCell ⟨w.heap.size + 1, 0, none⟩ (.bool false)).cell? ⟨w.heap.size + 1 + 1, 0, none⟩ = some (.int .i64 0) := (blk_cell hx7 0).trans rfl; have hf7 := blk_frozen hx7 0; clear hb3 hI3 hx7))
      exact (HI3.out.put false 2).ends rfl rfl rfl
  · rw [if_neg d] at H
    obtain ⟨rfl, rfl⟩ := Prod.mk.inj (Option.some.inj H.out)
    have d' : (e == 0) = false := by simp [d]
    have HI0 := Aside0.mk (CF.start w A2 l2.length c2)
    clear H
    go_wp2_with ((go_at_call 37; refine (maze_asks.calls _ _ _ _ HE.out).mono ?_; rintro e2 w2 ⟨rfl, hd2⟩; have hI1 := HI0.out.next hd2.below; have HI1 := Aside0.mk hI1;  have hc6 : w2.cell? ⟨w.heap.size + 1, 0, none⟩ = some (.bool false) := (blk_cell hI1.c6 0).trans rfl; have hf6 := blk_frozen hI1.c6 0; have hx7 := (Below.heap_setCell w2 ⟨w.heap.size + 1, 0, none⟩ (.bool false) (w.heap.size + 1 + 1) (by simp)).trans hI1.c7; have hc7 : (w2.setCell ⟨w.heap.size + 1, 0, none⟩ (.bool false)).cell? ⟨w.heap.size + 1 + 1, 0, none⟩ = some (.int .i64 0) := (blk_cell hx7 0).trans rfl; have hf7 := blk_frozen hx7 0; clear hd2 hI1 hx7))
    exact (HI1.out.put false e).ends rfl rfl rfl
end Go.Proofs.Ytgbjbgdnldklpaa.Q
end
/-! Part QLaw10Awake -/
section
-- Written by xprint.py, a program of this session's, over the kit's print. Lean checks it.
namespace Go.Proofs.Ytgbjbgdnldklpaa.Q
open Go.RowKit Go.Proofs.YtgbjbgdnldklpaaW.PrintWords Go.Proofs.YtgbjbgdnldklpaaW.PrintLast Go.Proofs.YtgbjbgdnldklpaaW.PrintMore
attribute [local go_sem] max2_int min2_int max_two min_two max_three min_three max_four min_four
set_option linter.unusedVariables false
set_option linter.unusedSimpArgs false

/-! ### mizmazelaw10_awake: function 14 -/
def mizmazelaw10_awake.f (k : Nat)  : Option (Bool) := (maze_Mazes.f k 2 1).bind fun bt101 => ((maze_Check.f k 2 2 (([0, 1] : List Int))).bind fun bt107 => ((maze_Check.f k 2 2 (([0] : List Int))).bind fun bt112 => (if bt101.2.2 = 0 then (if bt107.2 = 0 then (if bt112.2 = 0 then (if bt101.1 = 2 then (if bt101.2.1 = 1 then (if bt107.1 = true then (some (!bt112.1)) else (none)) else (none)) else (none)) else (none)) else (none)) else (none))))
theorem mizmazelaw10_awake.mono : ∀ k, LeO (mizmazelaw10_awake.f k ) (mizmazelaw10_awake.f (k + 1) ) := by
  intro  k
  unfold mizmazelaw10_awake.f
  repeat' first
      | (with_reducible exact maze_Check.mono _ _ _ _)
      | (with_reducible exact maze_Mazes.mono _ _ _)
      | (with_reducible exact LeO.refl _)
      | (with_reducible exact LeO.none _)
      | (with_reducible refine LeO.ite ?_ ?_)
      | (with_reducible refine LeO.bind ?_ (fun _ => ?_))
      | exact maze_Check.mono _ _ _ _
      | exact maze_Mazes.mono _ _ _
      | exact LeO.none _
      | refine LeO.ite ?_ ?_
      | refine LeO.bind ?_ (fun _ => ?_)
set_option maxHeartbeats 8000000 in
set_option maxRecDepth 100000 in
theorem mizmazelaw10_awake.calls (k : Nat)  (r : Bool) (w : World) (h : mizmazelaw10_awake.f k  = some r) :
    Calls Try.prog 14 #[] w fun e w' => e = .returned (.bool r) ∧ Below w.heap.size w w' := by
  have HB := Aside0.mk (Below.refl w.heap.size w)
  have H : ((maze_Mazes.f k 2 1).bind fun bt101 => ((maze_Check.f k 2 2 (([0, 1] : List Int))).bind fun bt107 => ((maze_Check.f k 2 2 (([0] : List Int))).bind fun bt112 => (if bt101.2.2 = 0 then (if bt107.2 = 0 then (if bt112.2 = 0 then (if bt101.1 = 2 then (if bt101.2.1 = 1 then (if bt107.1 = true then (some (!bt112.1)) else (none)) else (none)) else (none)) else (none)) else (none)) else (none))))) = some r := h
  clear h
  replace H := Option.bind_eq_some_iff.mp H
  obtain ⟨⟨t101, t102, t103⟩, A10, H⟩ := H
  replace H : ((maze_Check.f k 2 2 (([0, 1] : List Int))).bind fun bt107 => ((maze_Check.f k 2 2 (([0] : List Int))).bind fun bt112 => (if t103 = 0 then (if bt107.2 = 0 then (if bt112.2 = 0 then (if t101 = 2 then (if t102 = 1 then (if bt107.1 = true then (some (!bt112.1)) else (none)) else (none)) else (none)) else (none)) else (none)) else (none)))) = some r := H
  have A1 := Aside0.mk A10
  clear A10
  obtain ⟨y104, hy104⟩ : ∃ y_ : List Int, y_ = (([0, 1] : List Int)) := ⟨_, rfl⟩
  replace H : ((maze_Check.f k 2 2 y104).bind fun bt107 => ((maze_Check.f k 2 2 (([0] : List Int))).bind fun bt112 => (if t103 = 0 then (if bt107.2 = 0 then (if bt112.2 = 0 then (if t101 = 2 then (if t102 = 1 then (if bt107.1 = true then (some (!bt112.1)) else (none)) else (none)) else (none)) else (none)) else (none)) else (none)))) = some r := by first | (rw [hy104]; with_reducible exact H) | (have H2_ := (Option.bind_some _ _).symm.trans H; rw [hy104]; with_reducible exact H2_) | (have H2_ := (Option.bind_some _ _).symm.trans H; with_reducible exact H2_) | with_reducible exact H | (rw [hy104]; exact H) | exact H
  have Ny104 := Aside0.mk hy104
  clear hy104
  replace H := Option.bind_eq_some_iff.mp H
  obtain ⟨⟨t107, t108⟩, A20, H⟩ := H
  replace H : ((maze_Check.f k 2 2 (([0] : List Int))).bind fun bt112 => (if t103 = 0 then (if t108 = 0 then (if bt112.2 = 0 then (if t101 = 2 then (if t102 = 1 then (if t107 = true then (some (!bt112.1)) else (none)) else (none)) else (none)) else (none)) else (none)) else (none))) = some r := H
  have A2 := Aside0.mk A20
  clear A20
  obtain ⟨y109, hy109⟩ : ∃ y_ : List Int, y_ = (([0] : List Int)) := ⟨_, rfl⟩
  replace H : ((maze_Check.f k 2 2 y109).bind fun bt112 => (if t103 = 0 then (if t108 = 0 then (if bt112.2 = 0 then (if t101 = 2 then (if t102 = 1 then (if t107 = true then (some (!bt112.1)) else (none)) else (none)) else (none)) else (none)) else (none)) else (none))) = some r := by first | (rw [hy109]; with_reducible exact H) | (have H2_ := (Option.bind_some _ _).symm.trans H; rw [hy109]; with_reducible exact H2_) | (have H2_ := (Option.bind_some _ _).symm.trans H; with_reducible exact H2_) | with_reducible exact H | (rw [hy109]; exact H) | exact H
  have Ny109 := Aside0.mk hy109
  clear hy109
  replace H := Option.bind_eq_some_iff.mp H
  obtain ⟨⟨t112, t113⟩, A30, H⟩ := H
  replace H : (if t103 = 0 then (if t108 = 0 then (if t113 = 0 then (if t101 = 2 then (if t102 = 1 then (if t107 = true then (some (!t112)) else (none)) else (none)) else (none)) else (none)) else (none)) else (none)) = some r := H
  have A3 := Aside0.mk A30
  clear A30
  by_cases c4 : t103 = 0
  · rw [if_pos c4] at H
    have c4b0 : (t103 == 0) = true := beq_iff_eq.mpr c4
    have c4b1 : (t103 != 0) = false := bne_eq_false_iff_eq.mpr c4
    clear c4
    by_cases c5 : t108 = 0
    · rw [if_pos c5] at H
      have c5b0 : (t108 == 0) = true := beq_iff_eq.mpr c5
      have c5b1 : (t108 != 0) = false := bne_eq_false_iff_eq.mpr c5
      clear c5
      by_cases c6 : t113 = 0
      · rw [if_pos c6] at H
        have c6b0 : (t113 == 0) = true := beq_iff_eq.mpr c6
        have c6b1 : (t113 != 0) = false := bne_eq_false_iff_eq.mpr c6
        clear c6
        by_cases c7 : t101 = 2
        · rw [if_pos c7] at H
          have c7b0 : (t101 == 2) = true := beq_iff_eq.mpr c7
          have c7b1 : (t101 != 2) = false := bne_eq_false_iff_eq.mpr c7
          clear c7
          by_cases c8 : t102 = 1
          · rw [if_pos c8] at H
            have c8b0 : (t102 == 1) = true := beq_iff_eq.mpr c8
            have c8b1 : (t102 != 1) = false := bne_eq_false_iff_eq.mpr c8
            clear c8
            by_cases c9 : t107 = true
            · subst c9
              have H1 : (some (!t112)) = some r := by rw [if_pos rfl] at H; exact H
              clear H
              have H := H1
              clear H1
              obtain rfl := Option.some.inj H
              go_enter Try.func14, Try.ntmps14
              go_wp2_with (first | ((with_reducible refine gate_callee (f := 12) rfl ?_); refine goesL_ (some 9) rfl rfl Try.func12 (by kernel_rfl) rfl #[.int .i64 2, .int .i64 1] rfl (by (try simp only [List.map_toArray, List.map_cons, List.map_nil]); first | done | rfl | (simp only [List.length_drop, List.length_take]; rfl)) ?_; (with_reducible refine (maze_Mazes.calls k 2 1 t101 t102 t103 _ A1.out).mono ?_); rintro e w10 ⟨rfl, hb⟩; refine ⟨_, rfl, ?_⟩; have n0_ := Aside0.mk (below_step (by repeat (first | (with_reducible first | exact HB.out | apply below_alloc | apply pw_below_drewN | apply below_drew1) | exact HB.out)) hb); clear HB; have HB := n0_; clear n0_; (try clear hb); (try clear hb2); (try clear hk); (try clear hi)) | ((with_reducible refine gate_dst (N := 14) rfl ?_); refine Kd.R_lit (Kd.int .i64) _ 3 ?hg (N := 14) ?hd (xs := ([0, 1] : List Int)) (inner := [.int .i64 0, .int .i64 1]) (ok := fun _ => True) (okp := fun _ => True) ?hr ?hp (fun _ hk => hk) trivial (Below.refl _ _) (Nat.le_refl _) (by simp) ?_; (case hd => rfl); (case hg => rfl); (case hr => first | (go_simp; done) | (go_simp; rfl)); (case hp => exact (Reps.one (show Kd.M (Kd.int .i64) _ _ _ 0 [.int .i64 0] from rfl) (Reps.one (show Kd.M (Kd.int .i64) _ _ _ 1 [.int .i64 1] from rfl) (Reps.none _ _)))); intro v105 w11 ho12 hb hg_ hnew_; clear hg_ hnew_; (first | rw [← Ny104.out] at ho12 | (simp only [Int.reduceToNat] at ho12; rw [← Ny104.out] at ho12)); have n0_ := Aside0.mk (Kd.R_lower ho12 (below_size (by repeat (first | (with_reducible first | exact HB.out | apply below_alloc | apply pw_below_drewN | apply below_drew1) | exact HB.out)))); have n1_ := Aside0.mk (below_step (by repeat (first | (with_reducible first | exact HB.out | apply below_alloc | apply pw_below_drewN | apply below_drew1) | exact HB.out)) hb); clear HB; have HO106 := n0_; have HB := n1_; clear n0_ n1_; clear hb ho12; obtain ⟨Ao13, co13, eo13⟩ := Kd.R_slice HO106.out; subst eo13) | ((with_reducible refine gate_callee (f := 18) rfl ?_); refine goesL_ (some 15) rfl rfl Try.func18 (by kernel_rfl) rfl #[.int .i64 2, .int .i64 2, .slice Ao13 y104.length co13] rfl (by (try simp only [List.map_toArray, List.map_cons, List.map_nil]); first | done | rfl | (simp only [List.length_drop, List.length_take]; rfl)) ?_; (with_reducible refine (maze_Check.calls k 2 2 _ _ y104 true t108 _ ?side1 ?side2 A2.out).mono ?_); (case side1 => repeat (first | exact (Kd.R_reads' HO106.out).2.2 | (with_reducible refine Kd.C_alloc ?_ _) | (with_reducible refine Kd.C_drewN ?_ _) | (with_reducible refine Kd.C_drew ?_))); (case side2 => exact (Kd.R_reads' HO106.out).2.1); rintro e w14 ⟨rfl, hb⟩; refine ⟨_, rfl, ?_⟩; have n0_ := Aside0.mk (Kd.R_below (by (with_reducible repeat (first | apply Kd.R_alloc | apply Kd.R_drewN | apply Kd.R_drew)); exact HO106.out) hb); have n1_ := Aside0.mk (below_step (by repeat (first | (with_reducible first | exact HB.out | apply below_alloc | apply pw_below_drewN | apply below_drew1) | exact HB.out)) hb); clear HO106; clear HB; have HO106 := n0_; have HB := n1_; clear n0_ n1_; (try clear hb); (try clear hb2); (try clear hk); (try clear hi)) | ((with_reducible refine gate_dst (N := 19) rfl ?_); refine Kd.R_lit (Kd.int .i64) _ 3 ?hg (N := 19) ?hd (xs := ([0] : List Int)) (inner := [.int .i64 0]) (ok := fun _ => True) (okp := fun _ => True) ?hr ?hp (fun _ hk => hk) trivial (Below.refl _ _) (Nat.le_refl _) (by simp) ?_; (case hd => rfl); (case hg => rfl); (case hr => first | (go_simp; done) | (go_simp; rfl)); (case hp => exact (Reps.one (show Kd.M (Kd.int .i64) _ _ _ 0 [.int .i64 0] from rfl) (Reps.none _ _))); intro v110 w15 ho16 hb hg_ hnew_; clear hg_ hnew_; (first | rw [← Ny109.out] at ho16 | (simp only [Int.reduceToNat] at ho16; rw [← Ny109.out] at ho16)); have n0_ := Aside0.mk (Kd.R_elder' (by (with_reducible repeat (first | apply Kd.R_alloc | apply Kd.R_drewN | apply Kd.R_drew)); exact HO106.out) (Kd.R_base ho16) hb); have n1_ := Aside0.mk (Kd.R_lower (Kd.R_new' ho16 (Kd.R_lt (by (with_reducible repeat (first | apply Kd.R_alloc | apply Kd.R_drewN | apply Kd.R_drew)); exact HO106.out))) (below_size (by repeat (first | (with_reducible first | exact HB.out | apply below_alloc | apply pw_below_drewN | apply below_drew1) | exact HB.out)))); have n2_ := Aside0.mk (below_step (by repeat (first | (with_reducible first | exact HB.out | apply below_alloc | apply pw_below_drewN | apply below_drew1) | exact HB.out)) hb); clear HO106; clear HB; have HO106 := n0_; have HO111 := n1_; have HB := n2_; clear n0_ n1_ n2_; clear hb ho16; obtain ⟨Ao17, co17, eo17⟩ := Kd.R_slice HO111.out; subst eo17) | ((with_reducible refine gate_callee (f := 18) rfl ?_); refine goesL_ (some 20) rfl rfl Try.func18 (by kernel_rfl) rfl #[.int .i64 2, .int .i64 2, .slice Ao17 y109.length co17] rfl (by (try simp only [List.map_toArray, List.map_cons, List.map_nil]); first | done | rfl | (simp only [List.length_drop, List.length_take]; rfl)) ?_; (with_reducible refine (maze_Check.calls k 2 2 _ _ y109 t112 t113 _ ?side1 ?side2 A3.out).mono ?_); (case side1 => repeat (first | exact (Kd.R_reads' HO111.out).2.2 | (with_reducible refine Kd.C_alloc ?_ _) | (with_reducible refine Kd.C_drewN ?_ _) | (with_reducible refine Kd.C_drew ?_))); (case side2 => exact (Kd.R_reads' HO111.out).2.1); rintro e w18 ⟨rfl, hb⟩; refine ⟨_, rfl, ?_⟩; have n0_ := Aside0.mk (Kd.R_below (by (with_reducible repeat (first | apply Kd.R_alloc | apply Kd.R_drewN | apply Kd.R_drew)); exact HO106.out) hb); have n1_ := Aside0.mk (Kd.R_below (by (with_reducible repeat (first | apply Kd.R_alloc | apply Kd.R_drewN | apply Kd.R_drew)); exact HO111.out) hb); have n2_ := Aside0.mk (below_step (by repeat (first | (with_reducible first | exact HB.out | apply below_alloc | apply pw_below_drewN | apply below_drew1) | exact HB.out)) hb); clear HO106; clear HO111; clear HB; have HO106 := n0_; have HO111 := n1_; have HB := n2_; clear n0_ n1_ n2_; (try clear hb); (try clear hb2); (try clear hk); (try clear hi)))
              go_ret
              exact ⟨by first | rfl | (simp [errW_none, errW_some] <;> rfl) | (simp [*, errW_none, errW_some] <;> rfl), by repeat (first | (with_reducible first | exact HB.out | apply below_alloc | apply pw_below_drewN | apply below_drew1) | exact HB.out)⟩
            · replace c9 := Bool.eq_false_iff.mpr c9
              subst c9
              have H1 : (none) = some r := by rw [if_neg (show ¬ (false = true) by decide)] at H; exact H
              clear H
              have H := H1
              clear H1
              exact absurd H (by simp)
          · rw [if_neg c8] at H
            exact absurd H (by simp)
        · rw [if_neg c7] at H
          exact absurd H (by simp)
      · rw [if_neg c6] at H
        exact absurd H (by simp)
    · rw [if_neg c5] at H
      exact absurd H (by simp)
  · rw [if_neg c4] at H
    exact absurd H (by simp)

end Go.Proofs.Ytgbjbgdnldklpaa.Q
end
/-! Part QLaw10MazeChecks -/
section
-- Written by xprint.py, a program of this session's, over the kit's print. Lean checks it.
namespace Go.Proofs.Ytgbjbgdnldklpaa.Q
open Go.RowKit Go.Proofs.YtgbjbgdnldklpaaW.PrintWords Go.Proofs.YtgbjbgdnldklpaaW.PrintLast Go.Proofs.YtgbjbgdnldklpaaW.PrintMore
attribute [local go_sem] max2_int min2_int max_two min_two max_three min_three max_four min_four
set_option linter.unusedVariables false
set_option linter.unusedSimpArgs false

/-! ### mizmazelaw10_MazeChecks: function 4 -/
mutual
def mizmazelaw10_MazeChecks.j0 : Nat → Int → Int → List Int → Bool → Option (Bool)
  | 0, _, _, _, _ => none
  | k + 1, x0, x1, x2, x7 => if x7 = true then (if (wrap64 (x0 * x1)) > 8 then (mizmazelaw10_MazeChecks.j1 k x0 x1 x2 x7 (decide ((x2.length : Int) > 30))) else (mizmazelaw10_MazeChecks.j1 k x0 x1 x2 x7 false)) else (mizmazelaw10_MazeChecks.j1 k x0 x1 x2 x7 false)
def mizmazelaw10_MazeChecks.j1 : Nat → Int → Int → List Int → Bool → Bool → Option (Bool)
  | 0, _, _, _, _, _ => none
  | k + 1, x0, x1, x2, x7, x38 => if x38 = true then ((mizmazelaw10_awake.f k).bind fun t157 => (some t157)) else ((maze_Check.f k x0 x1 x2).bind fun bt158 => (if x7 = true then (if bt158.2 = 0 then ((mizmazeref10_Check.f k x0 x1 x2).bind fun t160 => (if (bt158.1 == t160) = true then ((mizmazelaw10_awake.f k).bind fun t161 => (some t161)) else (some false))) else (some false)) else (if bt158.2 = 2 then (if bt158.1 = true then (some false) else ((mizmazelaw10_awake.f k).bind fun t162 => (some t162))) else (some false))))
end
def mizmazelaw10_MazeChecks.f (k : Nat) (a0 : Int) (a1 : Int) (l2 : List Int) : Option (Bool) := if (l2.length : Int) > 50000 then ((mizmazelaw10_awake.f k).bind fun t154 => (some t154)) else ((mizmazeref10_Fits.f a0 a1).bind fun t155 => (if t155 = true then ((mizmazeref10_Word.f k a1 l2).bind fun t156 => (if t156 = true then (mizmazelaw10_MazeChecks.j0 k a0 a1 l2 (decide ((l2.length : Int) ≤ 500))) else (mizmazelaw10_MazeChecks.j0 k a0 a1 l2 false))) else (mizmazelaw10_MazeChecks.j0 k a0 a1 l2 false)))
theorem mizmazelaw10_MazeChecks.mono_l : ∀ k, (∀ y0 y1 y2 y3, LeO (mizmazelaw10_MazeChecks.j0 k y0 y1 y2 y3) (mizmazelaw10_MazeChecks.j0 (k + 1) y0 y1 y2 y3)) ∧ (∀ y0 y1 y2 y3 y4, LeO (mizmazelaw10_MazeChecks.j1 k y0 y1 y2 y3 y4) (mizmazelaw10_MazeChecks.j1 (k + 1) y0 y1 y2 y3 y4))
  | 0 => ⟨fun _ _ _ _ r h => by simp [mizmazelaw10_MazeChecks.j0] at h, fun _ _ _ _ _ r h => by simp [mizmazelaw10_MazeChecks.j1] at h⟩
  | k + 1 => by
    obtain ⟨ih0, ih1⟩ := mizmazelaw10_MazeChecks.mono_l k
    refine ⟨?_, ?_⟩
    · intro y0 y1 y2 y3
      unfold mizmazelaw10_MazeChecks.j0
      repeat' first
      | (with_reducible exact ih0 _ _ _ _)
      | (with_reducible exact ih1 _ _ _ _ _)
      | (with_reducible exact maze_Check.mono _ _ _ _)
      | (with_reducible exact mizmazelaw10_awake.mono _)
      | (with_reducible exact mizmazeref10_Check.mono _ _ _ _)
      | (with_reducible exact mizmazeref10_Word.mono _ _ _)
      | (with_reducible exact LeO.refl _)
      | (with_reducible exact LeO.none _)
      | (with_reducible refine LeO.ite ?_ ?_)
      | (with_reducible refine LeO.bind ?_ (fun _ => ?_))
      | exact ih0 _ _ _ _
      | exact ih1 _ _ _ _ _
      | exact maze_Check.mono _ _ _ _
      | exact mizmazelaw10_awake.mono _
      | exact mizmazeref10_Check.mono _ _ _ _
      | exact mizmazeref10_Word.mono _ _ _
      | exact LeO.none _
      | refine LeO.ite ?_ ?_
      | refine LeO.bind ?_ (fun _ => ?_)
    · intro y0 y1 y2 y3 y4
      unfold mizmazelaw10_MazeChecks.j1
      repeat' first
      | (with_reducible exact ih0 _ _ _ _)
      | (with_reducible exact ih1 _ _ _ _ _)
      | (with_reducible exact maze_Check.mono _ _ _ _)
      | (with_reducible exact mizmazelaw10_awake.mono _)
      | (with_reducible exact mizmazeref10_Check.mono _ _ _ _)
      | (with_reducible exact mizmazeref10_Word.mono _ _ _)
      | (with_reducible exact LeO.refl _)
      | (with_reducible exact LeO.none _)
      | (with_reducible refine LeO.ite ?_ ?_)
      | (with_reducible refine LeO.bind ?_ (fun _ => ?_))
      | exact ih0 _ _ _ _
      | exact ih1 _ _ _ _ _
      | exact maze_Check.mono _ _ _ _
      | exact mizmazelaw10_awake.mono _
      | exact mizmazeref10_Check.mono _ _ _ _
      | exact mizmazeref10_Word.mono _ _ _
      | exact LeO.none _
      | refine LeO.ite ?_ ?_
      | refine LeO.bind ?_ (fun _ => ?_)
theorem mizmazelaw10_MazeChecks.mono : ∀ a0 a1 a2 k, LeO (mizmazelaw10_MazeChecks.f k a0 a1 a2) (mizmazelaw10_MazeChecks.f (k + 1) a0 a1 a2) := by
  intro a0 a1 a2 k
  obtain ⟨ih0, ih1⟩ := mizmazelaw10_MazeChecks.mono_l k
  unfold mizmazelaw10_MazeChecks.f
  repeat' first
      | (with_reducible exact ih0 _ _ _ _)
      | (with_reducible exact ih1 _ _ _ _ _)
      | (with_reducible exact maze_Check.mono _ _ _ _)
      | (with_reducible exact mizmazelaw10_awake.mono _)
      | (with_reducible exact mizmazeref10_Check.mono _ _ _ _)
      | (with_reducible exact mizmazeref10_Word.mono _ _ _)
      | (with_reducible exact LeO.refl _)
      | (with_reducible exact LeO.none _)
      | (with_reducible refine LeO.ite ?_ ?_)
      | (with_reducible refine LeO.bind ?_ (fun _ => ?_))
      | exact ih0 _ _ _ _
      | exact ih1 _ _ _ _ _
      | exact maze_Check.mono _ _ _ _
      | exact mizmazelaw10_awake.mono _
      | exact mizmazeref10_Check.mono _ _ _ _
      | exact mizmazeref10_Word.mono _ _ _
      | exact LeO.none _
      | refine LeO.ite ?_ ?_
      | refine LeO.bind ?_ (fun _ => ?_)
set_option maxHeartbeats 8000000 in
set_option maxRecDepth 100000 in
theorem mizmazelaw10_MazeChecks.calls (k : Nat) (a0 : Int) (a1 : Int) (A2 : Option Addr) (c2 : Nat) (l2 : List Int) (r : Bool) (w : World) (hr2 : Kd.C (Kd.int .i64) w A2 l2.length l2) (hc2 : l2.length ≤ c2) (h : mizmazelaw10_MazeChecks.f k a0 a1 l2 = some r) :
    Calls Try.prog 4 #[.int .i64 a0, .int .i64 a1, .slice A2 l2.length c2] w fun e w' => e = .returned (.bool r) ∧ Below w.heap.size w w' := by
  have HR2 := Aside0.mk hr2
  have HC2 := Aside0.mk hc2
  clear hr2 hc2
  have HB := Aside0.mk (Below.refl w.heap.size w)
  have H : (if (l2.length : Int) > 50000 then ((mizmazelaw10_awake.f k).bind fun t154 => (some t154)) else ((mizmazeref10_Fits.f a0 a1).bind fun t155 => (if t155 = true then ((mizmazeref10_Word.f k a1 l2).bind fun t156 => (if t156 = true then (mizmazelaw10_MazeChecks.j0 k a0 a1 l2 (decide ((l2.length : Int) ≤ 500))) else (mizmazelaw10_MazeChecks.j0 k a0 a1 l2 false))) else (mizmazelaw10_MazeChecks.j0 k a0 a1 l2 false)))) = some r := h
  clear h
  by_cases c4 : (l2.length : Int) > 50000
  · rw [if_pos c4] at H
    have c4b0 : decide (50000 < (l2.length : Int)) = true := decide_eq_true c4
    have c4b1 : decide (50000 < l2.length) = true := decide_eq_true (by omega)
    clear c4
    replace H := Option.bind_eq_some_iff.mp H
    obtain ⟨t154, A50, H⟩ := H
    replace H : (some t154) = some r := H
    have A5 := Aside0.mk A50
    clear A50
    obtain rfl := Option.some.inj H
    go_enter Try.func4, Try.ntmps4
    go_wp2_with (first | ((with_reducible refine gate_callee (f := 14) rfl ?_); refine goesL_ (some 13) rfl rfl Try.func14 (by kernel_rfl) rfl #[] rfl (by (try simp only [List.map_toArray, List.map_cons, List.map_nil]); first | done | rfl | (simp only [List.length_drop, List.length_take]; rfl)) ?_; (with_reducible refine (mizmazelaw10_awake.calls k  t154 _ A5.out).mono ?_); rintro e w6 ⟨rfl, hb⟩; refine ⟨_, rfl, ?_⟩; have n0_ := Aside0.mk (below_step (by repeat (first | (with_reducible first | exact HB.out | apply below_alloc | apply pw_below_drewN | apply below_drew1) | exact HB.out)) hb); clear HB; have HB := n0_; clear n0_; (try clear hb); (try clear hb2); (try clear hk); (try clear hi)))
    go_ret
    exact ⟨by first | rfl | (simp [errW_none, errW_some] <;> rfl) | (simp [*, errW_none, errW_some] <;> rfl), by repeat (first | (with_reducible first | exact HB.out | apply below_alloc | apply pw_below_drewN | apply below_drew1) | exact HB.out)⟩
  · rw [if_neg c4] at H
    have c4b0 : decide (50000 < (l2.length : Int)) = false := decide_eq_false c4
    have c4b1 : decide (50000 < l2.length) = false := decide_eq_false (by omega)
    clear c4
    have HC7 := Aside0.mk H
    clear H
    go_enter Try.func4, Try.ntmps4
    go_upto_region 3 with (fail)
    go_cut [7] (fun v7 wc => ∃ (kq : Nat) (x7_6 : Bool), v7 = .bool x7_6 ∧ Aside0 (mizmazelaw10_MazeChecks.j0 kq a0 a1 l2 x7_6 = some r) ∧ Aside0 (kq ≤ k) ∧ Aside0 (Below w.heap.size w wc))
    case first =>
      have H := HC7.out
      clear HC7
      replace H := Option.bind_eq_some_iff.mp H
      obtain ⟨t155, A80, H⟩ := H
      replace H : (if t155 = true then ((mizmazeref10_Word.f k a1 l2).bind fun t156 => (if t156 = true then (mizmazelaw10_MazeChecks.j0 k a0 a1 l2 (decide ((l2.length : Int) ≤ 500))) else (mizmazelaw10_MazeChecks.j0 k a0 a1 l2 false))) else (mizmazelaw10_MazeChecks.j0 k a0 a1 l2 false)) = some r := H
      have A8 := Aside0.mk A80
      clear A80
      by_cases c9 : t155 = true
      · subst c9
        have H1 : ((mizmazeref10_Word.f k a1 l2).bind fun t156 => (if t156 = true then (mizmazelaw10_MazeChecks.j0 k a0 a1 l2 (decide ((l2.length : Int) ≤ 500))) else (mizmazelaw10_MazeChecks.j0 k a0 a1 l2 false))) = some r := by rw [if_pos rfl] at H; exact H
        clear H
        have H := H1
        clear H1
        replace H := Option.bind_eq_some_iff.mp H
        obtain ⟨t156, A100, H⟩ := H
        replace H : (if t156 = true then (mizmazelaw10_MazeChecks.j0 k a0 a1 l2 (decide ((l2.length : Int) ≤ 500))) else (mizmazelaw10_MazeChecks.j0 k a0 a1 l2 false)) = some r := H
        have A10 := Aside0.mk A100
        clear A100
        by_cases c11 : t156 = true
        · subst c11
          have H1 : (mizmazelaw10_MazeChecks.j0 k a0 a1 l2 (decide ((l2.length : Int) ≤ 500))) = some r := by rw [if_pos rfl] at H; exact H
          clear H
          have H := H1
          clear H1
          have H' := Aside0.mk H
          clear H
          go_wp2_with (first | ((with_reducible refine gate_callee (f := 13) rfl ?_); refine goesL_ (some 16) rfl rfl Try.func13 (by kernel_rfl) rfl #[.int .i64 a0, .int .i64 a1] rfl (by (try simp only [List.map_toArray, List.map_cons, List.map_nil]); first | done | rfl | (simp only [List.length_drop, List.length_take]; rfl)) ?_; (with_reducible refine (mizmazeref10_Fits.calls a0 a1 true _ A8.out).mono ?_); rintro e w' ⟨rfl, ⟨nd, rfl⟩⟩; refine ⟨_, rfl, ?_⟩) | (go_at_call 17; (with_reducible refine (mizmazeref10_Word.calls k a1 _ _ l2 true _ ?side1 ?side2 A10.out).mono ?_); (case side1 => repeat (first | exact (Kd.C_below HR2.out (by repeat (first | (with_reducible first | exact HB.out | apply below_alloc | apply pw_below_drewN | apply below_drew1) | exact HB.out))) | (with_reducible refine Kd.C_alloc ?_ _) | (with_reducible refine Kd.C_drewN ?_ _) | (with_reducible refine Kd.C_drew ?_))); (case side2 => exact HC2.out); rintro e w' ⟨rfl, ⟨nd, rfl⟩⟩))
          go_meet
          case rel => exact ⟨_, (decide ((l2.length : Int) ≤ 500)), (by first | rfl | (simp; done) | (simp [*]; done)), H', ⟨by first | omega | exact Nat.le_refl _⟩, ⟨by repeat (first | (with_reducible first | exact HB.out | apply below_alloc | apply pw_below_drewN | apply below_drew1) | exact HB.out)⟩⟩
        · replace c11 := Bool.eq_false_iff.mpr c11
          subst c11
          have H1 : (mizmazelaw10_MazeChecks.j0 k a0 a1 l2 false) = some r := by rw [if_neg (show ¬ (false = true) by decide)] at H; exact H
          clear H
          have H := H1
          clear H1
          have H' := Aside0.mk H
          clear H
          go_wp2_with (first | ((with_reducible refine gate_callee (f := 13) rfl ?_); refine goesL_ (some 16) rfl rfl Try.func13 (by kernel_rfl) rfl #[.int .i64 a0, .int .i64 a1] rfl (by (try simp only [List.map_toArray, List.map_cons, List.map_nil]); first | done | rfl | (simp only [List.length_drop, List.length_take]; rfl)) ?_; (with_reducible refine (mizmazeref10_Fits.calls a0 a1 true _ A8.out).mono ?_); rintro e w' ⟨rfl, ⟨nd, rfl⟩⟩; refine ⟨_, rfl, ?_⟩) | (go_at_call 17; (with_reducible refine (mizmazeref10_Word.calls k a1 _ _ l2 false _ ?side1 ?side2 A10.out).mono ?_); (case side1 => repeat (first | exact (Kd.C_below HR2.out (by repeat (first | (with_reducible first | exact HB.out | apply below_alloc | apply pw_below_drewN | apply below_drew1) | exact HB.out))) | (with_reducible refine Kd.C_alloc ?_ _) | (with_reducible refine Kd.C_drewN ?_ _) | (with_reducible refine Kd.C_drew ?_))); (case side2 => exact HC2.out); rintro e w' ⟨rfl, ⟨nd, rfl⟩⟩))
          go_meet
          case rel => exact ⟨_, (false), (by first | rfl | (simp; done) | (simp [*]; done)), H', ⟨by first | omega | exact Nat.le_refl _⟩, ⟨by repeat (first | (with_reducible first | exact HB.out | apply below_alloc | apply pw_below_drewN | apply below_drew1) | exact HB.out)⟩⟩
      · replace c9 := Bool.eq_false_iff.mpr c9
        subst c9
        have H1 : (mizmazelaw10_MazeChecks.j0 k a0 a1 l2 false) = some r := by rw [if_neg (show ¬ (false = true) by decide)] at H; exact H
        clear H
        have H := H1
        clear H1
        have H' := Aside0.mk H
        clear H
        go_wp2_with (first | ((with_reducible refine gate_callee (f := 13) rfl ?_); refine goesL_ (some 16) rfl rfl Try.func13 (by kernel_rfl) rfl #[.int .i64 a0, .int .i64 a1] rfl (by (try simp only [List.map_toArray, List.map_cons, List.map_nil]); first | done | rfl | (simp only [List.length_drop, List.length_take]; rfl)) ?_; (with_reducible refine (mizmazeref10_Fits.calls a0 a1 false _ A8.out).mono ?_); rintro e w' ⟨rfl, ⟨nd, rfl⟩⟩; refine ⟨_, rfl, ?_⟩))
        go_meet
        case rel => exact ⟨_, (false), (by first | rfl | (simp; done) | (simp [*]; done)), H', ⟨by first | omega | exact Nat.le_refl _⟩, ⟨by repeat (first | (with_reducible first | exact HB.out | apply below_alloc | apply pw_below_drewN | apply below_drew1) | exact HB.out)⟩⟩
    case rest =>
      clear HC7
      try clear c1
      try clear c2
      try clear p2
      try clear c4
      try clear c4b0
      try clear c4b1
      try clear c9
      try clear c11
      obtain ⟨kq, x7_6, rfl, HA, HJ6, HB⟩ := hcut
      cases kq with
      | zero => exact absurd HA.out (by simp [mizmazelaw10_MazeChecks.j0])
      | succ kj6 =>
        have H := HA.out
        clear HA
        simp only [mizmazelaw10_MazeChecks.j0] at H
        have HC12 := Aside0.mk H
        clear H
        go_upto_region 4 with (fail)
        go_cut [38] (fun v38 wc => ∃ (kq : Nat) (x38_11 : Bool), v38 = .bool x38_11 ∧ Aside0 (mizmazelaw10_MazeChecks.j1 kq a0 a1 l2 x7_6 x38_11 = some r) ∧ Aside0 (kq ≤ kj6) ∧ Aside0 (Below w.heap.size w wc))
        case first =>
          have H := HC12.out
          clear HC12
          by_cases c13 : x7_6 = true
          · subst c13
            have H1 : (if (wrap64 (a0 * a1)) > 8 then (mizmazelaw10_MazeChecks.j1 kj6 a0 a1 l2 true (decide ((l2.length : Int) > 30))) else (mizmazelaw10_MazeChecks.j1 kj6 a0 a1 l2 true false)) = some r := by rw [if_pos rfl] at H; exact H
            clear H
            have H := H1
            clear H1
            by_cases c14 : (wrap64 (a0 * a1)) > 8
            · rw [if_pos c14] at H
              have c14b0 : decide (8 < (wrap64 (a0 * a1))) = true := decide_eq_true c14
              clear c14
              (first | rw [c14b0] | (simp only [i64_w, i32_w]; rw [c14b0]) | skip)
              have H' := Aside0.mk H
              clear H
              go_wp2
              go_meet
              case rel => exact ⟨_, (decide ((l2.length : Int) > 30)), (by first | rfl | (simp; done) | (simp [*]; done)), H', ⟨by have := HJ6.out; first | omega | exact Nat.le_refl _⟩, ⟨by repeat (first | (with_reducible first | exact HB.out | apply below_alloc | apply pw_below_drewN | apply below_drew1) | exact HB.out)⟩⟩
            · rw [if_neg c14] at H
              have c14b0 : decide (8 < (wrap64 (a0 * a1))) = false := decide_eq_false c14
              clear c14
              (first | rw [c14b0] | (simp only [i64_w, i32_w]; rw [c14b0]) | skip)
              have H' := Aside0.mk H
              clear H
              go_wp2
              go_meet
              case rel => exact ⟨_, (false), (by first | rfl | (simp; done) | (simp [*]; done)), H', ⟨by have := HJ6.out; first | omega | exact Nat.le_refl _⟩, ⟨by repeat (first | (with_reducible first | exact HB.out | apply below_alloc | apply pw_below_drewN | apply below_drew1) | exact HB.out)⟩⟩
          · replace c13 := Bool.eq_false_iff.mpr c13
            subst c13
            have H1 : (mizmazelaw10_MazeChecks.j1 kj6 a0 a1 l2 false false) = some r := by rw [if_neg (show ¬ (false = true) by decide)] at H; exact H
            clear H
            have H := H1
            clear H1
            have H' := Aside0.mk H
            clear H
            go_wp2
            go_meet
            case rel => exact ⟨_, (false), (by first | rfl | (simp; done) | (simp [*]; done)), H', ⟨by have := HJ6.out; first | omega | exact Nat.le_refl _⟩, ⟨by repeat (first | (with_reducible first | exact HB.out | apply below_alloc | apply pw_below_drewN | apply below_drew1) | exact HB.out)⟩⟩
        case rest =>
          clear HC12
          try clear c1
          try clear c2
          try clear p2
          try clear c4
          try clear c4b0
          try clear c4b1
          try clear p6
          try clear c9
          try clear c11
          try clear c13
          try clear c14
          try clear c14b0
          try clear p2
          obtain ⟨kq, x38_11, rfl, HA, HJ11, HB⟩ := hcut
          cases kq with
          | zero => exact absurd HA.out (by simp [mizmazelaw10_MazeChecks.j1])
          | succ kj11 =>
            have H := HA.out
            clear HA
            simp only [mizmazelaw10_MazeChecks.j1] at H
            by_cases c15 : x38_11 = true
            · subst c15
              have H1 : ((mizmazelaw10_awake.f kj11).bind fun t157 => (some t157)) = some r := by rw [if_pos rfl] at H; exact H
              clear H
              have H := H1
              clear H1
              replace H := Option.bind_eq_some_iff.mp H
              obtain ⟨t157, A160, H⟩ := H
              replace H : (some t157) = some r := H
              have A16 := Aside0.mk A160
              clear A160
              obtain rfl := Option.some.inj H
              go_wp2_with (first | ((with_reducible refine gate_callee (f := 14) rfl ?_); refine goesL_ (some 39) rfl rfl Try.func14 (by kernel_rfl) rfl #[] rfl (by (try simp only [List.map_toArray, List.map_cons, List.map_nil]); first | done | rfl | (simp only [List.length_drop, List.length_take]; rfl)) ?_; (with_reducible refine (mizmazelaw10_awake.calls kj11  t157 _ A16.out).mono ?_); rintro e w17 ⟨rfl, hb⟩; refine ⟨_, rfl, ?_⟩; have n0_ := Aside0.mk (below_step (by repeat (first | (with_reducible first | exact HB.out | apply below_alloc | apply pw_below_drewN | apply below_drew1) | exact HB.out)) hb); clear HB; have HB := n0_; clear n0_; (try clear hb); (try clear hb2); (try clear hk); (try clear hi)))
              go_ret
              exact ⟨by first | rfl | (simp [errW_none, errW_some] <;> rfl) | (simp [*, errW_none, errW_some] <;> rfl), by repeat (first | (with_reducible first | exact HB.out | apply below_alloc | apply pw_below_drewN | apply below_drew1) | exact HB.out)⟩
            · replace c15 := Bool.eq_false_iff.mpr c15
              subst c15
              have H1 : ((maze_Check.f kj11 a0 a1 l2).bind fun bt158 => (if x7_6 = true then (if bt158.2 = 0 then ((mizmazeref10_Check.f kj11 a0 a1 l2).bind fun t160 => (if (bt158.1 == t160) = true then ((mizmazelaw10_awake.f kj11).bind fun t161 => (some t161)) else (some false))) else (some false)) else (if bt158.2 = 2 then (if bt158.1 = true then (some false) else ((mizmazelaw10_awake.f kj11).bind fun t162 => (some t162))) else (some false)))) = some r := by rw [if_neg (show ¬ (false = true) by decide)] at H; exact H
              clear H
              have H := H1
              clear H1
              replace H := Option.bind_eq_some_iff.mp H
              obtain ⟨⟨t158, t159⟩, A180, H⟩ := H
              replace H : (if x7_6 = true then (if t159 = 0 then ((mizmazeref10_Check.f kj11 a0 a1 l2).bind fun t160 => (if (t158 == t160) = true then ((mizmazelaw10_awake.f kj11).bind fun t161 => (some t161)) else (some false))) else (some false)) else (if t159 = 2 then (if t158 = true then (some false) else ((mizmazelaw10_awake.f kj11).bind fun t162 => (some t162))) else (some false))) = some r := H
              have A18 := Aside0.mk A180
              clear A180
              by_cases c19 : x7_6 = true
              · subst c19
                have H1 : (if t159 = 0 then ((mizmazeref10_Check.f kj11 a0 a1 l2).bind fun t160 => (if (t158 == t160) = true then ((mizmazelaw10_awake.f kj11).bind fun t161 => (some t161)) else (some false))) else (some false)) = some r := by rw [if_pos rfl] at H; exact H
                clear H
                have H := H1
                clear H1
                by_cases c20 : t159 = 0
                · rw [if_pos c20] at H
                  have c20b0 : (t159 == 0) = true := beq_iff_eq.mpr c20
                  have c20b1 : (t159 != 0) = false := bne_eq_false_iff_eq.mpr c20
                  clear c20
                  replace H := Option.bind_eq_some_iff.mp H
                  obtain ⟨t160, A210, H⟩ := H
                  replace H : (if (t158 == t160) = true then ((mizmazelaw10_awake.f kj11).bind fun t161 => (some t161)) else (some false)) = some r := H
                  have A21 := Aside0.mk A210
                  clear A210
                  by_cases c22 : (t158 == t160) = true
                  · rw [if_pos c22] at H
                    have c22b0 : (t158 == t160) = true := c22
                    (try (have c22b1 : decide (t158 = t160) = true := by simpa using c22))
                    (try (have c22b2 : (t158 == t160) = true := by simpa using c22))
                    clear c22
                    replace H := Option.bind_eq_some_iff.mp H
                    obtain ⟨t161, A230, H⟩ := H
                    replace H : (some t161) = some r := H
                    have A23 := Aside0.mk A230
                    clear A230
                    obtain rfl := Option.some.inj H
                    go_wp2_with (first | ((with_reducible refine gate_callee (f := 18) rfl ?_); refine goesL_ (some 44) rfl rfl Try.func18 (by kernel_rfl) rfl #[.int .i64 a0, .int .i64 a1, .slice A2 l2.length c2] rfl (by (try simp only [List.map_toArray, List.map_cons, List.map_nil]); first | done | rfl | (simp only [List.length_drop, List.length_take]; rfl)) ?_; (with_reducible refine (maze_Check.calls kj11 a0 a1 _ _ l2 t158 t159 _ ?side1 ?side2 A18.out).mono ?_); (case side1 => repeat (first | exact (Kd.C_below HR2.out HB.out) | (with_reducible refine Kd.C_alloc ?_ _) | (with_reducible refine Kd.C_drewN ?_ _) | (with_reducible refine Kd.C_drew ?_))); (case side2 => exact HC2.out); rintro e w24 ⟨rfl, hb⟩; refine ⟨_, rfl, ?_⟩; have n0_ := Aside0.mk (below_step (by repeat (first | (with_reducible first | exact HB.out | apply below_alloc | apply pw_below_drewN | apply below_drew1) | exact HB.out)) hb); clear HB; have HB := n0_; clear n0_; (try clear hb); (try clear hb2); (try clear hk); (try clear hi)) | (go_at_call 19; (with_reducible refine (mizmazeref10_Check.calls kj11 a0 a1 _ _ l2 t160 _ ?side1 ?side2 A21.out).mono ?_); (case side1 => repeat (first | exact (Kd.C_below HR2.out HB.out) | (with_reducible refine Kd.C_alloc ?_ _) | (with_reducible refine Kd.C_drewN ?_ _) | (with_reducible refine Kd.C_drew ?_))); (case side2 => exact HC2.out); rintro e w25 ⟨rfl, hb⟩; have n0_ := Aside0.mk (below_step (by repeat (first | (with_reducible first | exact HB.out | apply below_alloc | apply pw_below_drewN | apply below_drew1) | exact HB.out)) hb); clear HB; have HB := n0_; clear n0_; (try clear hb); (try clear hb2); (try clear hk); (try clear hi)) | (go_at_call 14; (with_reducible refine (mizmazelaw10_awake.calls kj11  t161 _ A23.out).mono ?_); rintro e w26 ⟨rfl, hb⟩; have n0_ := Aside0.mk (below_step (by repeat (first | (with_reducible first | exact HB.out | apply below_alloc | apply pw_below_drewN | apply below_drew1) | exact HB.out)) hb); clear HB; have HB := n0_; clear n0_; (try clear hb); (try clear hb2); (try clear hk); (try clear hi)))
                    go_ret
                    exact ⟨by first | rfl | (simp [errW_none, errW_some] <;> rfl) | (simp [*, errW_none, errW_some] <;> rfl), by repeat (first | (with_reducible first | exact HB.out | apply below_alloc | apply pw_below_drewN | apply below_drew1) | exact HB.out)⟩
                  · rw [if_neg c22] at H
                    have c22b0 : (t158 == t160) = false := by simpa using c22
                    (try (have c22b1 : decide (t158 = t160) = false := by simpa using c22))
                    (try (have c22b2 : (t158 == t160) = false := by simpa using c22))
                    (try (have c22b3 : ¬ (t158 = t160) := by simpa using c22))
                    clear c22
                    obtain rfl := Option.some.inj H
                    go_wp2_with (first | ((with_reducible refine gate_callee (f := 18) rfl ?_); refine goesL_ (some 44) rfl rfl Try.func18 (by kernel_rfl) rfl #[.int .i64 a0, .int .i64 a1, .slice A2 l2.length c2] rfl (by (try simp only [List.map_toArray, List.map_cons, List.map_nil]); first | done | rfl | (simp only [List.length_drop, List.length_take]; rfl)) ?_; (with_reducible refine (maze_Check.calls kj11 a0 a1 _ _ l2 t158 t159 _ ?side1 ?side2 A18.out).mono ?_); (case side1 => repeat (first | exact (Kd.C_below HR2.out HB.out) | (with_reducible refine Kd.C_alloc ?_ _) | (with_reducible refine Kd.C_drewN ?_ _) | (with_reducible refine Kd.C_drew ?_))); (case side2 => exact HC2.out); rintro e w27 ⟨rfl, hb⟩; refine ⟨_, rfl, ?_⟩; have n0_ := Aside0.mk (below_step (by repeat (first | (with_reducible first | exact HB.out | apply below_alloc | apply pw_below_drewN | apply below_drew1) | exact HB.out)) hb); clear HB; have HB := n0_; clear n0_; (try clear hb); (try clear hb2); (try clear hk); (try clear hi)) | (go_at_call 19; (with_reducible refine (mizmazeref10_Check.calls kj11 a0 a1 _ _ l2 t160 _ ?side1 ?side2 A21.out).mono ?_); (case side1 => repeat (first | exact (Kd.C_below HR2.out HB.out) | (with_reducible refine Kd.C_alloc ?_ _) | (with_reducible refine Kd.C_drewN ?_ _) | (with_reducible refine Kd.C_drew ?_))); (case side2 => exact HC2.out); rintro e w28 ⟨rfl, hb⟩; have n0_ := Aside0.mk (below_step (by repeat (first | (with_reducible first | exact HB.out | apply below_alloc | apply pw_below_drewN | apply below_drew1) | exact HB.out)) hb); clear HB; have HB := n0_; clear n0_; (try clear hb); (try clear hb2); (try clear hk); (try clear hi)))
                    go_ret
                    exact ⟨by first | rfl | (simp [errW_none, errW_some] <;> rfl) | (simp [*, errW_none, errW_some] <;> rfl), by repeat (first | (with_reducible first | exact HB.out | apply below_alloc | apply pw_below_drewN | apply below_drew1) | exact HB.out)⟩
                · rw [if_neg c20] at H
                  have c20b0 : (t159 == 0) = false := beq_eq_false_iff_ne.mpr c20
                  have c20b1 : (t159 != 0) = true := bne_iff_ne.mpr c20
                  obtain rfl := Option.some.inj H
                  go_wp2_with (first | ((with_reducible refine gate_callee (f := 18) rfl ?_); refine goesL_ (some 44) rfl rfl Try.func18 (by kernel_rfl) rfl #[.int .i64 a0, .int .i64 a1, .slice A2 l2.length c2] rfl (by (try simp only [List.map_toArray, List.map_cons, List.map_nil]); first | done | rfl | (simp only [List.length_drop, List.length_take]; rfl)) ?_; (with_reducible refine (maze_Check.calls kj11 a0 a1 _ _ l2 t158 t159 _ ?side1 ?side2 A18.out).mono ?_); (case side1 => repeat (first | exact (Kd.C_below HR2.out HB.out) | (with_reducible refine Kd.C_alloc ?_ _) | (with_reducible refine Kd.C_drewN ?_ _) | (with_reducible refine Kd.C_drew ?_))); (case side2 => exact HC2.out); rintro e w29 ⟨rfl, hb⟩; refine ⟨_, rfl, ?_⟩; have n0_ := Aside0.mk (below_step (by repeat (first | (with_reducible first | exact HB.out | apply below_alloc | apply pw_below_drewN | apply below_drew1) | exact HB.out)) hb); clear HB; have HB := n0_; clear n0_; (try clear hb); (try clear hb2); (try clear hk); (try clear hi)))
                  go_ret
                  exact ⟨by first | rfl | (simp [errW_none, errW_some] <;> rfl) | (simp [*, errW_none, errW_some] <;> rfl), by repeat (first | (with_reducible first | exact HB.out | apply below_alloc | apply pw_below_drewN | apply below_drew1) | exact HB.out)⟩
              · replace c19 := Bool.eq_false_iff.mpr c19
                subst c19
                have H1 : (if t159 = 2 then (if t158 = true then (some false) else ((mizmazelaw10_awake.f kj11).bind fun t162 => (some t162))) else (some false)) = some r := by rw [if_neg (show ¬ (false = true) by decide)] at H; exact H
                clear H
                have H := H1
                clear H1
                by_cases c30 : t159 = 2
                · rw [if_pos c30] at H
                  have c30b0 : (t159 == 2) = true := beq_iff_eq.mpr c30
                  have c30b1 : (t159 != 2) = false := bne_eq_false_iff_eq.mpr c30
                  clear c30
                  by_cases c31 : t158 = true
                  · subst c31
                    have H1 : (some false) = some r := by rw [if_pos rfl] at H; exact H
                    clear H
                    have H := H1
                    clear H1
                    obtain rfl := Option.some.inj H
                    go_wp2_with (first | ((with_reducible refine gate_callee (f := 18) rfl ?_); refine goesL_ (some 44) rfl rfl Try.func18 (by kernel_rfl) rfl #[.int .i64 a0, .int .i64 a1, .slice A2 l2.length c2] rfl (by (try simp only [List.map_toArray, List.map_cons, List.map_nil]); first | done | rfl | (simp only [List.length_drop, List.length_take]; rfl)) ?_; (with_reducible refine (maze_Check.calls kj11 a0 a1 _ _ l2 true t159 _ ?side1 ?side2 A18.out).mono ?_); (case side1 => repeat (first | exact (Kd.C_below HR2.out HB.out) | (with_reducible refine Kd.C_alloc ?_ _) | (with_reducible refine Kd.C_drewN ?_ _) | (with_reducible refine Kd.C_drew ?_))); (case side2 => exact HC2.out); rintro e w32 ⟨rfl, hb⟩; refine ⟨_, rfl, ?_⟩; have n0_ := Aside0.mk (below_step (by repeat (first | (with_reducible first | exact HB.out | apply below_alloc | apply pw_below_drewN | apply below_drew1) | exact HB.out)) hb); clear HB; have HB := n0_; clear n0_; (try clear hb); (try clear hb2); (try clear hk); (try clear hi)))
                    go_ret
                    exact ⟨by first | rfl | (simp [errW_none, errW_some] <;> rfl) | (simp [*, errW_none, errW_some] <;> rfl), by repeat (first | (with_reducible first | exact HB.out | apply below_alloc | apply pw_below_drewN | apply below_drew1) | exact HB.out)⟩
                  · replace c31 := Bool.eq_false_iff.mpr c31
                    subst c31
                    have H1 : ((mizmazelaw10_awake.f kj11).bind fun t162 => (some t162)) = some r := by rw [if_neg (show ¬ (false = true) by decide)] at H; exact H
                    clear H
                    have H := H1
                    clear H1
                    replace H := Option.bind_eq_some_iff.mp H
                    obtain ⟨t162, A330, H⟩ := H
                    replace H : (some t162) = some r := H
                    have A33 := Aside0.mk A330
                    clear A330
                    obtain rfl := Option.some.inj H
                    go_wp2_with (first | ((with_reducible refine gate_callee (f := 18) rfl ?_); refine goesL_ (some 44) rfl rfl Try.func18 (by kernel_rfl) rfl #[.int .i64 a0, .int .i64 a1, .slice A2 l2.length c2] rfl (by (try simp only [List.map_toArray, List.map_cons, List.map_nil]); first | done | rfl | (simp only [List.length_drop, List.length_take]; rfl)) ?_; (with_reducible refine (maze_Check.calls kj11 a0 a1 _ _ l2 false t159 _ ?side1 ?side2 A18.out).mono ?_); (case side1 => repeat (first | exact (Kd.C_below HR2.out HB.out) | (with_reducible refine Kd.C_alloc ?_ _) | (with_reducible refine Kd.C_drewN ?_ _) | (with_reducible refine Kd.C_drew ?_))); (case side2 => exact HC2.out); rintro e w34 ⟨rfl, hb⟩; refine ⟨_, rfl, ?_⟩; have n0_ := Aside0.mk (below_step (by repeat (first | (with_reducible first | exact HB.out | apply below_alloc | apply pw_below_drewN | apply below_drew1) | exact HB.out)) hb); clear HB; have HB := n0_; clear n0_; (try clear hb); (try clear hb2); (try clear hk); (try clear hi)) | (go_at_call 14; (with_reducible refine (mizmazelaw10_awake.calls kj11  t162 _ A33.out).mono ?_); rintro e w35 ⟨rfl, hb⟩; have n0_ := Aside0.mk (below_step (by repeat (first | (with_reducible first | exact HB.out | apply below_alloc | apply pw_below_drewN | apply below_drew1) | exact HB.out)) hb); clear HB; have HB := n0_; clear n0_; (try clear hb); (try clear hb2); (try clear hk); (try clear hi)))
                    go_ret
                    exact ⟨by first | rfl | (simp [errW_none, errW_some] <;> rfl) | (simp [*, errW_none, errW_some] <;> rfl), by repeat (first | (with_reducible first | exact HB.out | apply below_alloc | apply pw_below_drewN | apply below_drew1) | exact HB.out)⟩
                · rw [if_neg c30] at H
                  have c30b0 : (t159 == 2) = false := beq_eq_false_iff_ne.mpr c30
                  have c30b1 : (t159 != 2) = true := bne_iff_ne.mpr c30
                  obtain rfl := Option.some.inj H
                  go_wp2_with (first | ((with_reducible refine gate_callee (f := 18) rfl ?_); refine goesL_ (some 44) rfl rfl Try.func18 (by kernel_rfl) rfl #[.int .i64 a0, .int .i64 a1, .slice A2 l2.length c2] rfl (by (try simp only [List.map_toArray, List.map_cons, List.map_nil]); first | done | rfl | (simp only [List.length_drop, List.length_take]; rfl)) ?_; (with_reducible refine (maze_Check.calls kj11 a0 a1 _ _ l2 t158 t159 _ ?side1 ?side2 A18.out).mono ?_); (case side1 => repeat (first | exact (Kd.C_below HR2.out HB.out) | (with_reducible refine Kd.C_alloc ?_ _) | (with_reducible refine Kd.C_drewN ?_ _) | (with_reducible refine Kd.C_drew ?_))); (case side2 => exact HC2.out); rintro e w36 ⟨rfl, hb⟩; refine ⟨_, rfl, ?_⟩; have n0_ := Aside0.mk (below_step (by repeat (first | (with_reducible first | exact HB.out | apply below_alloc | apply pw_below_drewN | apply below_drew1) | exact HB.out)) hb); clear HB; have HB := n0_; clear n0_; (try clear hb); (try clear hb2); (try clear hk); (try clear hi)))
                  go_ret
                  exact ⟨by first | rfl | (simp [errW_none, errW_some] <;> rfl) | (simp [*, errW_none, errW_some] <;> rfl), by repeat (first | (with_reducible first | exact HB.out | apply below_alloc | apply pw_below_drewN | apply below_drew1) | exact HB.out)⟩

end Go.Proofs.Ytgbjbgdnldklpaa.Q
end
/-! Part MSmallZ -/
section
namespace Go.Proofs.Ytgbjbgdnldklpaa.Q
open Go.RowKit Go.Proofs.YtgbjbgdnldklpaaW.PrintWords Go.Proofs.YtgbjbgdnldklpaaW.PrintLast Go.Proofs.YtgbjbgdnldklpaaW.PrintMore
set_option linter.unusedVariables false
set_option linter.unusedSectionVars false
/-! ### sets of rooms as numbers -/
theorem bits_and_nat (a b : Nat) (ha : a < 65536) (hb : b < 65536) : Go.bits .and .u16 (a : Int) (b : Int) = ((a &&& b : Nat) : Int) := by
  have hx : a &&& b < 2 ^ 16 := Nat.and_lt_two_pow _ (by omega)
  have h1 : (BitVec.ofInt 16 (a : Int)).toNat = a := by
    rw [BitVec.ofInt_natCast, BitVec.toNat_ofNat]; exact Nat.mod_eq_of_lt (by omega)
  have h2 : (BitVec.ofInt 16 (b : Int)).toNat = b := by
    rw [BitVec.ofInt_natCast, BitVec.toNat_ofNat]; exact Nat.mod_eq_of_lt (by omega)
  show IntKind.u16.wrap ((BitVec.ofInt 16 (a : Int) &&& BitVec.ofInt 16 (b : Int)).toNat : Int) = _
  rw [BitVec.toNat_and, h1, h2, IntKind.wrap_u16]
  omega
theorem bits_or_nat (a b : Nat) (ha : a < 65536) (hb : b < 65536) : Go.bits .or .u16 (a : Int) (b : Int) = ((a ||| b : Nat) : Int) := by
  have hx : a ||| b < 2 ^ 16 := Nat.or_lt_two_pow ha hb
  have h1 : (BitVec.ofInt 16 (a : Int)).toNat = a := by
    rw [BitVec.ofInt_natCast, BitVec.toNat_ofNat]; exact Nat.mod_eq_of_lt (by omega)
  have h2 : (BitVec.ofInt 16 (b : Int)).toNat = b := by
    rw [BitVec.ofInt_natCast, BitVec.toNat_ofNat]; exact Nat.mod_eq_of_lt (by omega)
  show IntKind.u16.wrap ((BitVec.ofInt 16 (a : Int) ||| BitVec.ofInt 16 (b : Int)).toNat : Int) = _
  rw [BitVec.toNat_or, h1, h2, IntKind.wrap_u16]
  omega
theorem pow_castZ (t : Nat) : (2 : Int) ^ t = ((2 ^ t : Nat) : Int) := by norm_cast
theorem two_lt {t : Nat} (ht : t < 16) : 2 ^ t < 65536 := Nat.lt_of_lt_of_le (Nat.pow_lt_pow_right (by decide : 1 < 2) ht) (by decide)
theorem wrapU {z : Nat} (h : z < 65536) : IntKind.u16.wrap (z : Int) = (z : Int) := by
  rw [IntKind.wrap_u16]; omega
theorem one_set {t : Nat} (ht : t < 16) : IntKind.u16.wrap (2 ^ min ((t : Nat) : Int).toNat 16) = ((2 ^ t : Nat) : Int) := by
  rw [Int.toNat_natCast, show min t 16 = t by omega, pow_castZ, wrapU (two_lt ht)]
theorem addU_nat {M t : Nat} (hM : M < 65536) (ht : t < 16) : addU (M : Int) (t : Int) = ((M ||| 2 ^ t : Nat) : Int) := by
  unfold addU
  rw [one_set ht, bits_or_nat _ _ hM (two_lt ht)]
theorem hasU_nat {M t : Nat} (hM : M < 65536) (ht : t < 16) : hasU (M : Int) (t : Int) = !M.testBit t := by
  unfold hasU
  rw [Int.toNat_natCast, show min t 16 = t by omega]
  have e1 : (M : Int) / 2 ^ t = ((M / 2 ^ t : Nat) : Int) := by norm_cast
  have hlt : M / 2 ^ t < 65536 := Nat.lt_of_le_of_lt (Nat.div_le_self _ _) hM
  have e2 := bits_and_nat (M / 2 ^ t) 1 hlt (by omega)
  have e3 : (((1 : Nat) : Int)) = 1 := rfl
  rw [e3] at e2
  rw [e1, e2, Nat.and_one_is_mod, Nat.testBit_eq_decide_div_mod_eq]
  generalize M / 2 ^ t = c
  rcases Nat.mod_two_eq_zero_or_one c with h | h <;> simp [h]
theorem fullU_nat {n : Nat} (hn : n < 16) : fullU (n : Int) = ((2 ^ n - 1 : Nat) : Int) := by
  unfold fullU
  have h1 := two_lt hn
  have h0 : 0 < 2 ^ n := Nat.two_pow_pos n
  rw [one_set hn]
  have e : ((2 ^ n : Nat) : Int) - 1 = ((2 ^ n - 1 : Nat) : Int) := by omega
  rw [e, wrapU (by omega)]
theorem full_iff {n M : Nat} (hM : M < 2 ^ n) : M = 2 ^ n - 1 ↔ ∀ t, t < n → M.testBit t = true := by
  constructor
  · intro h t ht
    rw [h, Nat.testBit_two_pow_sub_one]
    exact decide_eq_true ht
  · intro h
    refine Nat.eq_of_testBit_eq fun t => ?_
    rw [Nat.testBit_two_pow_sub_one]
    by_cases ht : t < n
    · rw [h t ht]; exact (decide_eq_true ht).symm
    · rw [decide_eq_false ht]
      exact Nat.testBit_lt_two_pow (Nat.lt_of_lt_of_le hM (Nat.pow_le_pow_right (by decide) (by omega)))
theorem or_bit {M g t : Nat} : (M ||| 2 ^ g).testBit t = true ↔ M.testBit t = true ∨ g = t := by
  rw [Nat.testBit_or, Bool.or_eq_true, Nat.testBit_two_pow, decide_eq_true_iff]
/-! ### the rooms of a small maze -/
def endS (x : List Int) (d : Nat) : Nat → List Nat → Nat
  | s, [] => s
  | s, y :: w => endS x d (gs x d s y) w
def stepsS (x : List Int) (d : Nat) : Nat → List Nat → List Nat
  | _, [] => []
  | s, y :: w => gs x d s y :: stepsS x d (gs x d s y) w
def pathS (x : List Int) (d s : Nat) (w : List Nat) : List Nat := s :: stepsS x d s w
theorem endS_app (x : List Int) (d : Nat) : ∀ (u v : List Nat) (s : Nat), endS x d s (u ++ v) = endS x d (endS x d s u) v
  | [], _, _ => rfl
  | y :: u, v, s => by simp [endS, endS_app x d u v]
def Cs (x : List Int) (n d : Nat) : Prop := ∀ t, t < n → ∃ w, Wd d w ∧ endS x d 0 w = t
def VisS (x : List Int) (n d s : Nat) (w : List Nat) : Prop := ∀ t, t < n → t ∈ pathS x d s w
theorem EnZ.n12 {n d : Nat} {x : List Int} (H : EnZ n d x) : n ≤ 12 := Nat.le_trans (Nat.le_mul_of_pos_right n H.d1) H.nd
theorem wrapII {z : Int} (h0 : -9223372036854775808 ≤ z) (h : z ≤ 9223372036854775807) : IntKind.i64.wrap z = z := by
  rw [IntKind.wrap_i64]; omega
theorem EnZ.port {n d : Nat} {x : List Int} (H : EnZ n d x) {a y : Nat} (ha : a < n) (hy : y < d) : portU (a : Int) (d : Int) (y : Int) = ((a * d + y : Nat) : Int) ∧ a * d + y < 12 := by
  have h1 := port_lt ha hy
  have h2 := H.nd
  have h3 : a * d ≤ a * d + y := Nat.le_add_right _ _
  unfold portU
  have e0 : IntKind.i64.wrap (a : Int) = (a : Int) := wrapII (by omega) (by have := H.n12; omega)
  have e1 : IntKind.i64.wrap ((a : Int) * (d : Int)) = ((a * d : Nat) : Int) := by
    rw [← Int.natCast_mul]; exact wrapII (by omega) (by omega)
  have e2 : IntKind.i64.wrap (((a * d : Nat) : Int) + (y : Int)) = ((a * d + y : Nat) : Int) := by
    rw [← Int.natCast_add]; exact wrapII (by omega) (by omega)
  rw [e0, e1, e2]
  exact ⟨rfl, by omega⟩
structure BfS (x : List Int) (n d : Nat) (Q : List Nat) : Prop where
  nd : Q.Nodup
  lt : ∀ t ∈ Q, t < n
  z0 : 0 ∈ Q
  wd : ∀ t ∈ Q, ∃ w, Wd d w ∧ endS x d 0 w = t
section
variable {n d : Nat} {x : List Int} (H : EnZ n d x)
include H
theorem small_conn (hn : 1 ≤ n) : ∃ b, Ev (fun k => small_connected.f k (n : Int) (d : Int) x) b ∧ (b = true ↔ Cs x n d) := by
  have h12 := H.n12
  have hd1 := H.d1
  have hnd := H.nd
  have hd12 : d ≤ 12 := Nat.le_trans (Nat.le_mul_of_pos_left d hn) hnd
  have fin : ∀ (M : Nat) (Q : List Nat) (i : Nat), Q.length ≤ i → M < 2 ^ n → BfS x n d Q → (∀ t, t < n → (M.testBit t = true ↔ t ∈ Q)) → (∀ (j : Nat) (hj : j < Q.length), j < i → ∀ y, y < d → gs x d Q[j] y ∈ Q) →
      ∃ b, Ev (fun k => small_connected.l0 k (n : Int) (d : Int) x (toI Q) (M : Int) (i : Int)) b ∧ (b = true ↔ Cs x n d) := by
    intro M Q i hi hM B hb hc
    refine ⟨_, Ev.step (f := fun _ => some ((M : Int) == fullU (n : Int))) (fun k => by rw [small_connected.l0, if_neg (by rw [toI_len]; omega), if_pos (by omega)]) (Ev.now _), ?_⟩
    rw [fullU_nat (by omega), beq_iff_eq]
    have e : ((M : Int) = ((2 ^ n - 1 : Nat) : Int)) ↔ M = 2 ^ n - 1 := by omega
    rw [e, full_iff hM]
    constructor
    · intro h t ht
      exact B.wd t ((hb t ht).1 (h t ht))
    · intro h t ht
      rw [hb t ht]
      obtain ⟨w, w1, w2⟩ := h t ht
      have reach : ∀ (w : List Nat) (s : Nat), s ∈ Q → Wd d w → endS x d s w ∈ Q := by
        intro w
        induction w with
        | nil => intro s hs _; exact hs
        | cons y w ih =>
          intro s hs hw
          obtain ⟨j, hj, rfl⟩ := List.getElem_of_mem hs
          exact ih _ (hc j hj (by omega) y hw.head) hw.tail
      rw [← w2]
      exact reach w 0 B.z0 w1
  have outer : ∀ (e i M : Nat) (Q : List Nat), i + e = n → i ≤ Q.length → M < 2 ^ n → BfS x n d Q → (∀ t, t < n → (M.testBit t = true ↔ t ∈ Q)) → (∀ (j : Nat) (hj : j < Q.length), j < i → ∀ y, y < d → gs x d Q[j] y ∈ Q) →
      ∃ b, Ev (fun k => small_connected.l0 k (n : Int) (d : Int) x (toI Q) (M : Int) (i : Int)) b ∧ (b = true ↔ Cs x n d) := by
    intro e
    induction e with
    | zero =>
      intro i M Q hi hiQ hM B hb hc
      have := nodup_le n Q B.nd B.lt
      exact fin M Q i (by omega) hM B hb hc
    | succ e ih =>
      intro i M Q hi hiQ hM B hb hc
      have hQn := nodup_le n Q B.nd B.lt
      by_cases hiq : i < Q.length
      · have hq := B.lt _ (List.getElem_mem hiq)
        obtain ⟨w, hw1, hw3⟩ := B.wd _ (List.getElem_mem hiq)
        have inner : ∀ (f y M : Nat) (P : List Nat), y + f = d → M < 2 ^ n → BfS x n d (Q ++ P) → (∀ t, t < n → (M.testBit t = true ↔ t ∈ Q ++ P)) → (∀ j, j < y → gs x d Q[i] j ∈ Q ++ P) →
            ∃ b, Ev (fun k => small_connected.l1 k (n : Int) (d : Int) x (toI (Q ++ P)) (M : Int) (i : Int) (y : Int)) b ∧ (b = true ↔ Cs x n d) := by
          intro f
          induction f with
          | zero =>
            intro y M P hy hM B hb hj
            have hl : (Q ++ P).length = Q.length + P.length := by simp
            obtain ⟨b, h1, h2⟩ := ih (i + 1) M (Q ++ P) (by omega) (by omega) hM B hb (fun j hj' hji z hz => by
              rw [List.getElem_append_left (by omega)]
              rcases Nat.lt_or_ge j i with h7 | h7
              · exact List.mem_append.2 (Or.inl (hc j (by omega) h7 z hz))
              · obtain rfl : j = i := by omega
                exact hj z (by omega))
            exact ⟨b, Ev.step (fun k => by rw [small_connected.l1, if_neg (by omega), wrapS (by omega)]) h1, h2⟩
          | succ f ihf =>
            intro y M P hy hM B hb hj
            have hyd : y < d := by omega
            have hg := H.lt _ y hq hyd
            have hgE := H.g _ y hq hyd
            obtain ⟨hp1, hp2⟩ := H.port hq hyd
            have hle := nodup_le n _ B.nd B.lt
            have hl : (Q ++ P).length = Q.length + P.length := by simp
            have hM16 : M < 65536 := Nat.lt_of_lt_of_le hM (Nat.le_trans (Nat.pow_le_pow_right (by decide : 0 < 2) (show n ≤ 16 by omega)) (by decide))
            have e1 : rd (toI (Q ++ P)) (i : Int) = ((Q[i] : Nat) : Int) := by
              rw [toI_rd (by omega), List.getElem_append_left hiq]
            have hhas := hasU_nat hM16 (show gs x d Q[i] y < 16 by omega)
            by_cases hin : gs x d Q[i] y ∈ Q ++ P
            · obtain ⟨b, h1, h2⟩ := ihf (y + 1) M P (by omega) hM B hb (fun j hjy => by
                rcases Nat.lt_or_ge j y with h7 | h7
                · exact hj j h7
                · obtain rfl : j = y := by omega
                  exact hin)
              have hbit := (hb _ hg).2 hin
              refine ⟨b, Ev.step (fun k => by rw [small_connected.l1, if_pos (by omega), if_pos (by omega), if_pos (by rw [toI_len]; omega), e1, hp1, if_pos (by omega), if_pos (by omega), hgE, if_pos (by omega), if_neg (by rw [hhas, hbit]; simp), wrapS (by omega)]) h1, h2⟩
            · have hbit : M.testBit (gs x d Q[i] y) = false := by
                cases h7 : M.testBit (gs x d Q[i] y) with
                | false => rfl
                | true => exact absurd ((hb _ hg).1 h7) hin
              obtain ⟨b, h1, h2⟩ := ihf (y + 1) (M ||| 2 ^ (gs x d Q[i] y)) (P ++ [gs x d Q[i] y]) (by omega) (Nat.or_lt_two_pow hM (Nat.pow_lt_pow_right (by decide : 1 < 2) hg)) (by
                  rw [← List.append_assoc]
                  refine ⟨?_, ?_, List.mem_append.2 (Or.inl B.z0), fun t ht => ?_⟩
                  · rw [List.nodup_append]
                    refine ⟨B.nd, by simp, fun a ha c hc e => hin ?_⟩
                    rw [List.mem_singleton.1 hc] at e
                    exact e ▸ ha
                  · intro t ht
                    rcases List.mem_append.1 ht with ht | ht
                    · exact B.lt t ht
                    · rw [List.mem_singleton.1 ht]; exact hg
                  · rcases List.mem_append.1 ht with ht | ht
                    · exact B.wd t ht
                    · rw [List.mem_singleton.1 ht]
                      exact ⟨w ++ [y], hw1.app (fun z hz => by rw [List.mem_singleton.1 hz]; exact hyd), by rw [endS_app, hw3]; rfl⟩) (fun t ht => by
                  rw [or_bit, hb t ht, ← List.append_assoc, List.mem_append (s := Q ++ P), List.mem_singleton]
                  exact ⟨fun h => h.imp id Eq.symm, fun h => h.imp id Eq.symm⟩) (fun j hjy => by
                  rw [← List.append_assoc]
                  rcases Nat.lt_or_ge j y with h7 | h7
                  · exact List.mem_append.2 (Or.inl (hj j h7))
                  · obtain rfl : j = y := by omega
                    exact List.mem_append.2 (Or.inr (List.mem_singleton.2 rfl)))
              refine ⟨b, Ev.step (fun k => by rw [small_connected.l1, if_pos (by omega), if_pos (by omega), if_pos (by rw [toI_len]; omega), e1, hp1, if_pos (by omega), if_pos (by omega), hgE, if_pos (by omega), if_pos (by rw [hhas, hbit]; rfl), if_pos (by rw [toI_len]; omega), wrapS (by omega), addU_nat hM16 (by omega), ← toI_snoc, List.append_assoc]) h1, h2⟩
        obtain ⟨b, h1, h2⟩ := inner d 0 M [] (by omega) hM (by rw [List.append_nil]; exact B) (by rw [List.append_nil]; exact hb) (fun j hj => by omega)
        rw [List.append_nil] at h1
        exact ⟨b, Ev.step (fun k => by rw [small_connected.l0, if_pos (by rw [toI_len]; omega)]; rfl) h1, h2⟩
      · exact fin M Q i (by omega) hM B hb hc
  obtain ⟨b, h1, h2⟩ := outer n 0 1 [0] (by omega) (by simp) (Nat.one_lt_two_pow (by omega)) ⟨by simp, fun t ht => by rw [List.mem_singleton.1 ht]; omega, by simp, fun t ht => ⟨[], Wd.nil d, (List.mem_singleton.1 ht).symm⟩⟩ (fun t ht => by
    rw [List.mem_singleton, show (1 : Nat) = 2 ^ 0 from rfl, Nat.testBit_two_pow, decide_eq_true_iff]
    exact eq_comm) (fun j hj hji => by omega)
  exact ⟨b, h1, h2⟩
theorem go_walk {s y M : Nat} (hs : s < n) (hy : y < d) (hM : M < 2 ^ n) : goesF (n : Int) (d : Int) x (s : Int) (M : Int) (y : Int) = some (((gs x d s y : Nat) : Int), ((M ||| 2 ^ (gs x d s y) : Nat) : Int), decide (M ||| 2 ^ (gs x d s y) = 2 ^ n - 1)) := by
  have h12 := H.n12
  have hg := H.lt s y hs hy
  obtain ⟨hp1, hp2⟩ := H.port hs hy
  have hM16 : M < 65536 := Nat.lt_of_lt_of_le hM (Nat.le_trans (Nat.pow_le_pow_right (by decide : 0 < 2) (show n ≤ 16 by omega)) (by decide))
  unfold goesF
  rw [hp1, H.g s y hs hy, if_pos (by omega), if_pos (by omega), if_pos (by omega), if_pos (by omega), addU_nat hM16 (by omega), fullU_nat (by omega)]
  have e : (((M ||| 2 ^ (gs x d s y) : Nat) : Int) == ((2 ^ n - 1 : Nat) : Int)) = decide (M ||| 2 ^ (gs x d s y) = 2 ^ n - 1) := by
    rw [Bool.eq_iff_iff, beq_iff_eq, decide_eq_true_iff]; omega
  rw [e]
theorem go_ev : ∀ (w : List Nat) (s M i : Nat), s < n → Wd d w → M < 2 ^ n → ∃ r, goI (n : Int) (d : Int) x (toI w) (s : Int) (M : Int) (i : Int) = some r ∧ (0 ≤ r ↔ w ≠ [] ∧ ∀ t, t < n → M.testBit t = true ∨ t ∈ stepsS x d s w)
  | [], s, M, i, hs, hw, hM => ⟨-1, rfl, by simp⟩
  | y :: w, s, M, i, hs, hw, hM => by
    have hg := H.lt s y hs hw.head
    have hM' : M ||| 2 ^ (gs x d s y) < 2 ^ n := Nat.or_lt_two_pow hM (Nat.pow_lt_pow_right (by decide : 1 < 2) hg)
    have hstep : goI (n : Int) (d : Int) x (toI (y :: w)) (s : Int) (M : Int) (i : Int) = if decide (M ||| 2 ^ (gs x d s y) = 2 ^ n - 1) = true then some (i : Int) else goI (n : Int) (d : Int) x (toI w) ((gs x d s y : Nat) : Int) ((M ||| 2 ^ (gs x d s y) : Nat) : Int) ((i : Int) + 1) := by
      show (goesF (n : Int) (d : Int) x (s : Int) (M : Int) (y : Int)).bind _ = _
      rw [go_walk H hs hw.head hM]
      rfl
    rw [hstep]
    by_cases hf : M ||| 2 ^ (gs x d s y) = 2 ^ n - 1
    · refine ⟨(i : Int), by rw [if_pos (decide_eq_true hf)], ?_⟩
      have := (full_iff hM').1 hf
      refine ⟨fun _ => ⟨by simp, fun t ht => ?_⟩, fun _ => by omega⟩
      rcases or_bit.1 (this t ht) with h | h
      · exact Or.inl h
      · exact Or.inr (List.mem_cons.2 (Or.inl h.symm))
    · obtain ⟨r, h1, h2⟩ := go_ev w (gs x d s y) (M ||| 2 ^ (gs x d s y)) (i + 1) hg hw.tail hM'
      refine ⟨r, by rw [if_neg (by rw [decide_eq_true_iff]; exact hf)]; exact h1, h2.trans ?_⟩
      constructor
      · rintro ⟨_, h⟩
        refine ⟨by simp, fun t ht => ?_⟩
        rcases h t ht with h | h
        · rcases or_bit.1 h with h | h
          · exact Or.inl h
          · exact Or.inr (List.mem_cons.2 (Or.inl h.symm))
        · exact Or.inr (List.mem_cons_of_mem _ h)
      · rintro ⟨_, h⟩
        have h3 : ∀ t, t < n → (M ||| 2 ^ (gs x d s y)).testBit t = true ∨ t ∈ stepsS x d (gs x d s y) w := fun t ht => by
          rcases h t ht with h | h
          · exact Or.inl (or_bit.2 (Or.inl h))
          · rcases List.mem_cons.1 h with h | h
            · exact Or.inl (or_bit.2 (Or.inr h.symm))
            · exact Or.inr h
        refine ⟨fun e => hf ((full_iff hM').2 fun t ht => ?_), h3⟩
        subst e
        exact (h3 t ht).elim id fun h => by cases h
theorem visited_ev (hn : 2 ≤ n) {w : List Nat} (hw : Wd d w) : ∃ b, Ev (fun k => maze_visited.f k (n : Int) (d : Int) x (toI w)) b ∧ (b = true ↔ ∀ s, s < n → VisS x n d s w) := by
  have h12 := H.n12
  have nmod : (n : Int) % 256 = (n : Int) := by omega
  have one : ∀ s, s < n → ∃ r, goI (n : Int) (d : Int) x (toI w) (s : Int) (IntKind.u16.wrap (2 ^ min ((s : Nat) : Int).toNat 16)) 0 = some r ∧ (0 ≤ r ↔ VisS x n d s w) := fun s hs => by
    obtain ⟨r, h1, h2⟩ := go_ev H w s (2 ^ s) 0 hs hw (Nat.pow_lt_pow_right (by decide : 1 < 2) hs)
    refine ⟨r, by rw [one_set (by omega)]; exact h1, h2.trans ?_⟩
    have hb : ∀ t, (2 ^ s).testBit t = true ↔ s = t := fun t => by rw [Nat.testBit_two_pow, decide_eq_true_iff]
    constructor
    · rintro ⟨_, h⟩ t ht
      exact (h t ht).elim (fun h => List.mem_cons.2 (Or.inl ((hb t).1 h).symm)) fun h => List.mem_cons_of_mem _ h
    · intro h
      refine ⟨fun e => ?_, fun t ht => (List.mem_cons.1 (h t ht)).elim (fun h => Or.inl ((hb t).2 h.symm)) Or.inr⟩
      subst e
      have h0 := List.mem_singleton.1 (h 0 (by omega))
      have h1 := List.mem_singleton.1 (h 1 (by omega))
      omega
  have key : ∀ (e s : Nat), s + e = n → ∃ b, Ev (fun k => maze_visited.l0 k (n : Int) (d : Int) x (toI w) (s : Int)) b ∧ (b = true ↔ ∀ t, s ≤ t → t < n → VisS x n d t w) := by
    intro e
    induction e with
    | zero =>
      intro s hs
      exact ⟨true, Ev.step (f := fun _ => some true) (fun k => by rw [maze_visited.l0, if_neg (by omega)]) (Ev.now _), fun _ t h1 h2 => by omega, fun _ => rfl⟩
    | succ e ih =>
      intro s hs
      obtain ⟨r, h1, h2⟩ := one s (by omega)
      by_cases hr : 0 ≤ r
      · obtain ⟨b, h3, h4⟩ := ih (s + 1) (by omega)
        refine ⟨b, Ev.step (fun k => by rw [maze_visited.l0, if_pos (by omega), if_pos (by omega), h1, Option.bind_some, if_pos hr, show ((s : Int) + 1) % 256 = ((s + 1 : Nat) : Int) by omega]) h3, h4.trans ?_⟩
        constructor
        · intro h t ht1 ht2
          rcases Nat.eq_or_lt_of_le ht1 with h7 | h7
          · rw [← h7]; exact h2.1 hr
          · exact h t h7 ht2
        · intro h t ht1 ht2
          exact h t (by omega) ht2
      · refine ⟨false, Ev.step (f := fun _ => some false) (fun k => by rw [maze_visited.l0, if_pos (by omega), if_pos (by omega), h1, Option.bind_some, if_neg hr]) (Ev.now _), ?_⟩
        simp only [Bool.false_eq_true, false_iff]
        exact fun h => hr (h2.2 (h s (by omega) (by omega)))
  obtain ⟨b, h1, h2⟩ := key n 0 (by omega)
  exact ⟨b, h1, h2.trans ⟨fun h s hs => h s (by omega) hs, fun h t _ ht => h t ht⟩⟩
end
/-- The word visits all rooms of every connected maze with 2 to n rooms of d doors. -/
def UniS (n d : Nat) (w : List Nat) : Prop := ∀ t, 2 ≤ t → t ≤ n → ∀ x ∈ allZ t d, Cs x t d → ∀ s, s < t → VisS x t d s w
theorem chk_ev {n d : Nat} (hn : 2 ≤ n) {w : List Nat} (hw : Wd d w) : ∀ L : List (List Int), (∀ x ∈ L, EnZ n d x) → ∃ b, Ev (fun k => chkS k (n : Int) (d : Int) (toI w) L) b ∧ (b = true ↔ ∀ x ∈ L, Cs x n d → ∀ s, s < n → VisS x n d s w)
  | [], _ => ⟨true, Ev.now _, by simp⟩
  | x :: L, h => by
    have H := h x List.mem_cons_self
    obtain ⟨b, h1, h2⟩ := small_conn H (by omega)
    obtain ⟨c, h3, h4⟩ := visited_ev H hn hw
    obtain ⟨e, h5, h6⟩ := chk_ev hn hw L fun y hy => h y (List.mem_cons_of_mem _ hy)
    cases b with
    | false =>
      refine ⟨e, ?_, h6.trans ?_⟩
      · unfold chkS
        refine Ev.bind h1 ?_
        simp only [Bool.false_eq_true, if_false]
        exact h5
      · have hno : ¬ Cs x n d := fun hc => by have := h2.2 hc; cases this
        constructor
        · intro h y hy
          rcases List.mem_cons.1 hy with rfl | hy
          · exact fun hc => absurd hc hno
          · exact h y hy
        · intro h y hy
          exact h y (List.mem_cons_of_mem _ hy)
    | true =>
      have hc := h2.1 rfl
      cases c with
      | true =>
        refine ⟨e, ?_, h6.trans ?_⟩
        · unfold chkS
          refine Ev.bind h1 ?_
          simp only [if_true]
          refine Ev.bind h3 ?_
          simp only [if_true]
          exact h5
        · constructor
          · intro h y hy
            rcases List.mem_cons.1 hy with rfl | hy
            · exact fun _ => h4.1 rfl
            · exact h y hy
          · intro h y hy
            exact h y (List.mem_cons_of_mem _ hy)
      | false =>
        refine ⟨false, ?_, ?_⟩
        · unfold chkS
          refine Ev.bind h1 ?_
          simp only [if_true]
          refine Ev.bind h3 ?_
          simp only [Bool.false_eq_true, if_false]
          exact Ev.now _
        · simp only [Bool.false_eq_true, false_iff]
          intro h
          have := h4.2 (h x List.mem_cons_self hc)
          cases this
theorem asks_ok {n d : Nat} (hn : 1 ≤ n) (hd : 1 ≤ d) (h6 : d ≤ 6) (hN : n * d ≤ 12) : maze_asks.f (n : Int) (d : Int) = some 0 := by
  have h12 : n ≤ 12 := Nat.le_trans (Nat.le_mul_of_pos_right n hd) hN
  unfold maze_asks.f
  rw [if_neg (by omega), if_neg (by omega), if_neg (by omega), if_neg (by omega), ← Int.natCast_mul, wrapI (by omega) (by omega), if_neg (by omega)]
theorem check_ev {n d : Nat} (hn : 1 ≤ n) (hd : 1 ≤ d) (h6 : d ≤ 6) (hN : n * d ≤ 12) {w : List Nat} (hw : Wd d w) (hl : w.length ≤ 500) : ∃ b, Ev (fun k => maze_Check.f k (n : Int) (d : Int) (toI w)) (b, 0) ∧ (b = true ↔ UniS n d w) := by
  have h12 : n ≤ 12 := Nat.le_trans (Nat.le_mul_of_pos_right n hd) hN
  have key : ∀ (e t : Nat), t + e = n + 1 → 2 ≤ t → ∃ b, Ev (fun k => maze_Check.l0 k (n : Int) (d : Int) (toI w) (t : Int)) (b, 0) ∧ (b = true ↔ ∀ r, t ≤ r → r ≤ n → ∀ x ∈ allZ r d, Cs x r d → ∀ s, s < r → VisS x r d s w) := by
    intro e
    induction e with
    | zero =>
      intro t ht ht2
      exact ⟨true, Ev.step (f := fun _ => some (true, 0)) (fun k => by rw [maze_Check.l0, if_neg (by omega)]) (Ev.now _), fun _ r h1 h2 => by omega, fun _ => rfl⟩
    | succ e ih =>
      intro t ht ht2
      have hNt : t * d ≤ 12 := Nat.le_trans (Nat.mul_le_mul_right d (by omega : t ≤ n)) hN
      obtain ⟨b, h1, h2⟩ := chk_ev ht2 hw (allZ t d) (all_en hd hNt)
      cases b with
      | true =>
        obtain ⟨c, h3, h4⟩ := ih (t + 1) (by omega) (by omega)
        refine ⟨c, Ev.step (f := fun k => (maze_all.f k (t : Int) (d : Int)).bind fun L => (chkS k (t : Int) (d : Int) (toI w) L).bind fun b => if b = true then maze_Check.l0 k (n : Int) (d : Int) (toI w) ((t + 1 : Nat) : Int) else some (false, 0)) (fun k => by rw [maze_Check.l0, if_pos (by omega), wrapS (by omega)]) (Ev.bind (all_ev hd hNt) (Ev.bind h1 ?_)), h4.trans ?_⟩
        · simp only [if_true]; exact h3
        · constructor
          · intro h r hr1 hr2
            rcases Nat.eq_or_lt_of_le hr1 with h7 | h7
            · rw [← h7]; exact h2.1 rfl
            · exact h r h7 hr2
          · intro h r hr1 hr2
            exact h r (by omega) hr2
      | false =>
        refine ⟨false, Ev.step (f := fun k => (maze_all.f k (t : Int) (d : Int)).bind fun L => (chkS k (t : Int) (d : Int) (toI w) L).bind fun b => if b = true then maze_Check.l0 k (n : Int) (d : Int) (toI w) ((t + 1 : Nat) : Int) else some (false, 0)) (fun k => by rw [maze_Check.l0, if_pos (by omega), wrapS (by omega)]) (Ev.bind (all_ev hd hNt) (Ev.bind h1 ?_)), ?_⟩
        · simp only [Bool.false_eq_true, if_false]; exact Ev.now _
        · simp only [Bool.false_eq_true, false_iff]
          intro h
          have := h2.2 (h t (Nat.le_refl t) (by omega))
          cases this
  have key1 : ∃ b, Ev (fun k => maze_Check.l0 k (n : Int) (d : Int) (toI w) 2) (b, 0) ∧ (b = true ↔ UniS n d w) := by
    by_cases h1 : n = 1
    · subst h1
      exact ⟨true, Ev.step (f := fun _ => some (true, 0)) (fun k => by rw [maze_Check.l0, if_neg (by omega)]) (Ev.now _), fun _ r h1 h2 => by omega, fun _ => rfl⟩
    · exact key (n - 1) 2 (by omega) (Nat.le_refl 2)
  obtain ⟨b, h1, h2⟩ := key1
  refine ⟨b, h1.congr fun k => ?_, h2⟩
  unfold maze_Check.f maze_fits.f
  rw [asks_ok hn hd h6 hN, Option.bind_some, if_pos rfl, Option.bind_some, decide_eq_true (by rw [toI_len]; omega), Bool.true_and, inB_toI.2 hw, if_pos rfl, if_neg (by rw [toI_len]; omega)]
end Go.Proofs.Ytgbjbgdnldklpaa.Q
end
/-! Part MFillZ -/
section
namespace Go.Proofs.Ytgbjbgdnldklpaa.Q
open Go.RowKit Go.Proofs.YtgbjbgdnldklpaaW.PrintWords Go.Proofs.YtgbjbgdnldklpaaW.PrintLast Go.Proofs.YtgbjbgdnldklpaaW.PrintMore
set_option linter.unusedVariables false
set_option linter.unusedSectionVars false
/-! ### the grid of a pairing -/
def doorV (d : Nat) : Option Nat → S44
  | none => noD
  | some q => doorN (q / d) (q % d)
def rowP (d : Nat) (σ : Pg) (r : Nat) : List S44 := (List.range d).map fun j => doorV d (σ (r * d + j))
def gridP (n d : Nat) (σ : Pg) : Grid := (List.range n).map fun r => rowP d σ r
theorem rowP_len (d : Nat) (σ : Pg) (r : Nat) : (rowP d σ r).length = d := by simp [rowP]
theorem gridP_len (n d : Nat) (σ : Pg) : (gridP n d σ).length = n := by simp [gridP]
theorem gridP_row {n d r : Nat} (σ : Pg) (hr : r < n) : rd_L4 (gridP n d σ) (r : Int) = rowP d σ r := by
  rw [rdLE4 (by rw [gridP_len]; exact hr)]; simp [gridP]
theorem rdTE {l : List S44} {i : Nat} (h : i < l.length) : rd_T44 l (i : Int) = l[i] := by
  show l.getD i _ = _
  rw [List.getD_eq_getElem?_getD, List.getElem?_eq_getElem h]; rfl
theorem rowP_at {d j : Nat} (σ : Pg) (r : Nat) (hj : j < d) : rd_T44 (rowP d σ r) (j : Int) = doorV d (σ (r * d + j)) := by
  rw [rdTE (by rw [rowP_len]; exact hj)]; simp [rowP]
theorem port_eq {p d : Nat} : p / d * d + p % d = p := by
  rw [Nat.mul_comm]; exact Nat.div_add_mod p d
theorem port_div {r j d : Nat} (hj : j < d) : (r * d + j) / d = r ∧ (r * d + j) % d = j := by
  have hd : 0 < d := by omega
  constructor
  · rw [Nat.mul_comm, Nat.mul_add_div hd, Nat.div_eq_of_lt hj, Nat.add_zero]
  · rw [Nat.mul_comm, Nat.mul_add_mod, Nat.mod_eq_of_lt hj]
theorem port_lt' {n d p : Nat} (hd : 1 ≤ d) (hp : p < n * d) : p / d < n ∧ p % d < d := ⟨(Nat.div_lt_iff_lt_mul (by omega)).2 hp, Nat.mod_lt _ (by omega)⟩
theorem atG_grid {n d p : Nat} (σ : Pg) (hd : 1 ≤ d) (hp : p < n * d) : atG d (gridP n d σ) p = doorV d (σ p) := by
  obtain ⟨h1, h2⟩ := port_lt' hd hp
  unfold atG
  rw [gridP_row σ h1, rowP_at σ _ h2, port_eq]
def updP (σ : Pg) (p : Nat) (o : Option Nat) : Pg := fun i => if i = p then o else σ i
theorem setG_grid {n d p : Nat} (σ : Pg) (hd : 1 ≤ d) (hp : p < n * d) (o : Option Nat) : setG d (gridP n d σ) p (doorV d o) = gridP n d (updP σ p o) := by
  obtain ⟨h1, h2⟩ := port_lt' hd hp
  unfold setG
  rw [gridP_row σ h1]
  have row : ∀ r, r < n → ((gridP n d σ).set (p / d) ((rowP d σ (p / d)).set (p % d) (doorV d o)))[r]? = (gridP n d (updP σ p o))[r]? := fun r hr => by
    have e1 : (gridP n d (updP σ p o))[r]? = some (rowP d (updP σ p o) r) := by simp [gridP, hr]
    rw [e1, List.getElem?_set]
    by_cases e : p / d = r
    · rw [if_pos e, if_pos (by rw [gridP_len]; omega)]
      congr 1
      refine List.ext_getElem (by rw [List.length_set, rowP_len, rowP_len]) fun j h3 h4 => ?_
      have hj : j < d := by rw [rowP_len] at h4; exact h4
      rw [List.getElem_set]
      by_cases e2 : p % d = j
      · rw [if_pos e2]
        have : p = r * d + j := by rw [← e, ← e2, port_eq]
        simp [rowP, updP, this]
      · rw [if_neg e2]
        have : ¬ r * d + j = p := fun h => e2 (by rw [← h]; exact (port_div hj).2)
        simp [rowP, updP, this, e]
    · rw [if_neg e]
      have e3 : (gridP n d σ)[r]? = some (rowP d σ r) := by simp [gridP, hr]
      rw [e3]
      congr 1
      unfold rowP
      refine List.map_congr_left fun j hj => ?_
      have hj := List.mem_range.1 hj
      have : ¬ r * d + j = p := fun h => e (by rw [← h]; exact (port_div hj).1)
      simp [updP, this]
  refine List.ext_getElem? fun r => ?_
  by_cases hr : r < n
  · exact row r hr
  · rw [List.getElem?_eq_none (by rw [List.length_set, gridP_len]; omega), List.getElem?_eq_none (by rw [gridP_len]; omega)]
theorem emptyG_grid (n d : Nat) : gridP n d noneP = List.replicate n (List.replicate d noD) := by
  refine List.ext_getElem (by rw [gridP_len, List.length_replicate]) fun r h1 h2 => ?_
  simp only [gridP, List.getElem_map, List.getElem_replicate]
  refine List.ext_getElem (by rw [rowP_len, List.length_replicate]) fun j h3 h4 => ?_
  simp [rowP, noneP, doorV]
/-! ### the grid of all doors paired is a maze -/
theorem grid_VZ {n d : Nat} (hn : 1 ≤ n) (hd : 1 ≤ d) (h6 : d ≤ 6) (hN : n * d ≤ 12) {τ : Pg} (h : TotZ (n * d) τ) : VZ (gridP n d τ) n d ∧ ∀ r j, r < n → j < d → gz (gridP n d τ) r j = gs (roomsP d τ) d r j := by
  have h12 : n ≤ 12 := Nat.le_trans (Nat.le_mul_of_pos_right n hd) hN
  have at_ : ∀ r j, r < n → j < d → ∃ q, τ (r * d + j) = some q ∧ q < n * d ∧ τ q = some (r * d + j) ∧ rd_T44 (rd_L4 (gridP n d τ) (r : Int)) (j : Int) = doorN (q / d) (q % d) := fun r j hr hj => by
    have hp := port_lt hr hj
    obtain ⟨q, hq⟩ := Option.isSome_iff_exists.1 (h.2 _ hp)
    obtain ⟨_, h1, h2⟩ := h.1 _ q hq
    refine ⟨q, hq, h1, h2, ?_⟩
    rw [gridP_row τ hr, rowP_at τ r hj, hq]; rfl
  have gd : ∀ r j, r < n → j < d → ∃ q, τ (r * d + j) = some q ∧ q < n * d ∧ τ q = some (r * d + j) ∧ (rd_T44 (rd_L4 (gridP n d τ) (r : Int)) (j : Int)).f0 = ((q / d : Nat) : Int) ∧ (rd_T44 (rd_L4 (gridP n d τ) (r : Int)) (j : Int)).f1 = ((q % d : Nat) : Int) ∧ gz (gridP n d τ) r j = q / d ∧ dz (gridP n d τ) r j = q % d := fun r j hr hj => by
    obtain ⟨q, h1, h2, h3, h4⟩ := at_ r j hr hj
    refine ⟨q, h1, h2, h3, by rw [h4]; rfl, by rw [h4]; rfl, by unfold gz; rw [h4]; exact Int.toNat_natCast _, by unfold dz; rw [h4]; exact Int.toNat_natCast _⟩
  refine ⟨⟨gridP_len n d τ, by omega, by omega, by omega, h6, fun r hr => by rw [gridP_row τ hr, rowP_len], fun r j hr hj => ?_, fun r j hr hj => ?_, fun r j hr hj => ?_, fun r j hr hj => ?_, fun r j hr hj => ?_⟩, fun r j hr hj => ?_⟩
  · obtain ⟨q, _, _, _, h4, _, h6, _⟩ := gd r j hr hj
    rw [h4, h6]
  · obtain ⟨q, _, _, _, _, h5, _, h7⟩ := gd r j hr hj
    rw [h5, h7]
  · obtain ⟨q, _, h2, _, _, _, h6, _⟩ := gd r j hr hj
    rw [h6]; exact (port_lt' hd h2).1
  · obtain ⟨q, _, h2, _, _, _, _, h7⟩ := gd r j hr hj
    rw [h7]; exact (port_lt' hd h2).2
  · obtain ⟨q, _, h2, h3, _, _, h6, h7⟩ := gd r j hr hj
    obtain ⟨h8, h9⟩ := port_lt' hd h2
    obtain ⟨q', h10, _, _, _, _, h11, h12⟩ := gd (q / d) (q % d) h8 h9
    rw [port_eq, h3] at h10
    obtain rfl := Option.some.inj h10
    rw [h6, h7, h11, h12]
    exact port_div hj
  · obtain ⟨q, h1, _, _, _, _, h6, _⟩ := gd r j hr hj
    have hp := port_lt hr hj
    unfold gs
    rw [h6, rooms_at τ (by omega), h1]; exact (Int.toNat_natCast _).symm
section
variable {z : Grid} {x : List Int} {n d : Nat} (V : VZ z n d) (hg : ∀ r j, r < n → j < d → gz z r j = gs x d r j)
include V hg
theorem endZ_S : ∀ (w : List Nat) (s : Nat), s < n → Wd d w → endZ z s w = endS x d s w
  | [], _, _, _ => rfl
  | y :: w, s, hs, hw => by
    rw [endZ, endS, ← hg s y hs hw.head]
    exact endZ_S w _ (V.gLt s y hs hw.head) hw.tail
theorem pathZ_S (w : List Nat) (s : Nat) (hs : s < n) (hw : Wd d w) : pathZ z s w = pathS x d s w := by
  have key : ∀ (w : List Nat) (s : Nat), s < n → Wd d w → stepsZ z s w = stepsS x d s w := by
    intro w
    induction w with
    | nil => intro s _ _; rfl
    | cons y w ih =>
      intro s hs hw
      rw [stepsZ, stepsS, ← hg s y hs hw.head, ih _ (V.gLt s y hs hw.head) hw.tail]
  unfold pathZ pathS
  rw [key w s hs hw]
theorem Cn_S : Cn z n d ↔ Cs x n d := by
  have h0 := V.n0
  constructor
  · intro h t ht
    obtain ⟨w, h1, h2⟩ := h t ht
    exact ⟨w, h1, by rw [← endZ_S V hg w 0 h0 h1]; exact h2⟩
  · intro h t ht
    obtain ⟨w, h1, h2⟩ := h t ht
    exact ⟨w, h1, by rw [endZ_S V hg w 0 h0 h1]; exact h2⟩
end
/-! ### what is seen of a maze -/
noncomputable def cB (n d : Nat) (τ : Pg) : Bool := @decide (Cs (roomsP d τ) n d) (Classical.propDecidable _)
noncomputable def vB (wk : Bool) (n d : Nat) (w : List Nat) (τ : Pg) : Bool := @decide (wk = true → Cs (roomsP d τ) n d → ∀ s, s < n → VisS (roomsP d τ) n d s w) (Classical.propDecidable _)
theorem cB_iff {n d : Nat} {τ : Pg} : cB n d τ = true ↔ Cs (roomsP d τ) n d := @decide_eq_true_iff _ (Classical.propDecidable _)
theorem vB_iff {wk : Bool} {n d : Nat} {w : List Nat} {τ : Pg} : vB wk n d w τ = true ↔ (wk = true → Cs (roomsP d τ) n d → ∀ s, s < n → VisS (roomsP d τ) n d s w) := @decide_eq_true_iff _ (Classical.propDecidable _)
theorem see_ev {n d : Nat} (hn : 1 ≤ n) (hd : 1 ≤ d) (h6 : d ≤ 6) (hN : n * d ≤ 12) {τ : Pg} (h : TotZ (n * d) τ) (wk : Bool) {w : List Nat} (hw : wk = true → Wd d w) (hl : w.length ≤ 1000000) (all con : Int) :
    Ev (fun k => ref10_see.f k (gridP n d τ) wk (toI w) all con) (vB wk n d w τ, wrap64 (all + 1), if cB n d τ = true then wrap64 (con + 1) else con) := by
  obtain ⟨V, hg⟩ := grid_VZ hn hd h6 hN h
  obtain ⟨b, _, h2, h3⟩ := conn_both V
  have h3 := h3.trans (Cn_S V hg)
  have hlen := V.len
  have h12 : n ≤ 12 := Nat.le_trans (Nat.le_mul_of_pos_right n hd) hN
  have ecb : cB n d τ = b := by
    cases b with
    | true => exact cB_iff.2 (h3.1 rfl)
    | false => exact Bool.eq_false_iff.2 fun h => by have := h3.2 (cB_iff.1 h); cases this
  rw [ecb]
  unfold ref10_see.f
  refine Ev.bind h2 ?_
  cases b with
  | false =>
    have hv : vB wk n d w τ = true := vB_iff.2 fun _ h => by have := h3.2 h; cases this
    rw [hv]
    simp only [Bool.false_eq_true, if_false]
    exact Ev.now _
  | true =>
    simp only [if_true]
    cases wk with
    | false =>
      have hv : vB false n d w τ = true := vB_iff.2 fun h => by cases h
      rw [hv]
      refine Ev.bind (a := true) ?_ (Ev.now _)
      refine Ev.step (f := fun _ => some true) (fun k => ?_) (Ev.now _)
      rw [ref10_see.l0, if_pos (by omega), if_neg (by simp)]
    | true =>
      have hw := hw rfl
      have key : ∀ (e s : Nat), s + e = n → ∃ r, Ev (fun k => ref10_see.l0 k (gridP n d τ) true (toI w) (s : Int)) r ∧ (r = true ↔ ∀ t, s ≤ t → t < n → VisS (roomsP d τ) n d t w) := by
        intro e
        induction e with
        | zero =>
          intro s hs
          exact ⟨true, Ev.step (f := fun _ => some true) (fun k => by rw [ref10_see.l0, if_neg (by omega)]) (Ev.now _), fun _ t h1 h2 => by omega, fun _ => rfl⟩
        | succ e ih =>
          intro s hs
          obtain ⟨r, h4, h5⟩ := ref_visits V hw hl (s := s) (by omega)
          rw [pathZ_S V hg w s (by omega) hw] at h5
          cases r with
          | true =>
            obtain ⟨r2, h7, h8⟩ := ih (s + 1) (by omega)
            refine ⟨r2, Ev.step (f := fun k => (mizmazeref10_Visits.f k (gridP n d τ) (s : Int) (toI w)).bind fun v => (if v = true then ref10_see.l0 k (gridP n d τ) true (toI w) ((s + 1 : Nat) : Int) else some false)) (fun k => by rw [ref10_see.l0, if_pos (by omega), if_pos rfl, wrapS (by omega)]) (Ev.bind h4 ?_), h8.trans ⟨fun h t h1 h2 => ?_, fun h t h1 h2 => h t (by omega) h2⟩⟩
            · simp only [if_true]; exact h7
            · rcases Nat.eq_or_lt_of_le h1 with h9 | h9
              · rw [← h9]; exact h5.1 rfl
              · exact h t h9 h2
          | false =>
            refine ⟨false, Ev.step (f := fun k => (mizmazeref10_Visits.f k (gridP n d τ) (s : Int) (toI w)).bind fun v => (if v = true then ref10_see.l0 k (gridP n d τ) true (toI w) ((s + 1 : Nat) : Int) else some false)) (fun k => by rw [ref10_see.l0, if_pos (by omega), if_pos rfl, wrapS (by omega)]) (Ev.bind h4 ?_), ?_⟩
            · simp only [Bool.false_eq_true, if_false]; exact Ev.now _
            · simp only [Bool.false_eq_true, false_iff]
              intro h
              have := h5.2 (h s (Nat.le_refl _) (by omega))
              cases this
      obtain ⟨r, h4, h5⟩ := key n 0 (by omega)
      have hv : vB true n d w τ = r := by
        cases r with
        | true => exact vB_iff.2 fun _ _ s hs => h5.1 rfl s (Nat.zero_le _) hs
        | false => exact Bool.eq_false_iff.2 fun h => by have := h5.2 (fun t _ ht => vB_iff.1 h rfl (h3.1 rfl) t ht); cases this
      rw [hv]
      exact Ev.bind h4 (Ev.now _)
def seeL (F : Pg → Bool × Bool) : List Pg → Int → Int → Bool × Int × Int
  | [], a, c => (true, a, c)
  | τ :: L, a, c => if (F τ).2 = true then seeL F L (wrap64 (a + 1)) (if (F τ).1 = true then wrap64 (c + 1) else c) else (false, wrap64 (a + 1), if (F τ).1 = true then wrap64 (c + 1) else c)
theorem seeL_append (F : Pg → Bool × Bool) : ∀ (L M : List Pg) (a c : Int), seeL F (L ++ M) a c = if (seeL F L a c).1 = true then seeL F M (seeL F L a c).2.1 (seeL F L a c).2.2 else seeL F L a c
  | [], M, a, c => by simp [seeL]
  | τ :: L, M, a, c => by
    rw [List.cons_append, seeL, seeL]
    by_cases h : (F τ).2 = true
    · rw [if_pos h, if_pos h, seeL_append F L M]
    · rw [if_neg h, if_neg h]; simp
section
variable {n d : Nat} (hn : 1 ≤ n) (hd : 1 ≤ d) (h6 : d ≤ 6) (hN : n * d ≤ 12) (wk : Bool) (w : List Nat) (hw : wk = true → Wd d w) (hl : w.length ≤ 1000000)
include hn hd h6 hN hw hl
theorem fill_ev : ∀ (e p : Nat) (σ : Pg) (all con : Int), p + e = n * d → PartZ (n * d) σ → (∀ i, i < p → (σ i).isSome = true) →
    Ev (fun k => ref10_fill.l0 k n d wk (toI w) (gridP n d σ) p all con) ((seeL (fun τ => (cB n d τ, vB wk n d w τ)) (enumE e σ p) all con).1, gridP n d σ, (seeL (fun τ => (cB n d τ, vB wk n d w τ)) (enumE e σ p) all con).2.1, (seeL (fun τ => (cB n d τ, vB wk n d w τ)) (enumE e σ p) all con).2.2)
  | 0, p, σ, all, con, he, hP, hu => by
    have hT : TotZ (n * d) σ := ⟨hP, fun i hi => hu i (by omega)⟩
    refine Ev.step (f := fun k => (ref10_see.f k (gridP n d σ) wk (toI w) all con).bind fun r => some (r.1, gridP n d σ, r.2.1, r.2.2)) (fun k => by rw [ref10_fill.l0, if_neg (by omega)]) (Ev.bind (see_ev hn hd h6 hN hT wk hw hl all con) (Ev.ret ?_))
    rw [enumE]
    by_cases hv : vB wk n d w σ = true
    · simp only [seeL, hv, if_true]
    · simp only [seeL, hv]; simp
  | e + 1, p, σ, all, con, he, hP, hu => by
    have hp : p < n * d := by omega
    have hat : ∀ q, q < n * d → (0 ≤ (atG d (gridP n d σ) q).f0 ↔ (σ q).isSome = true) := fun q hq => by
      rw [atG_grid σ hd hq]
      cases h : σ q with
      | none => simp [doorV, noD]
      | some x =>
        have : (0 : Int) ≤ ((x / d : Nat) : Int) := Int.natCast_nonneg _
        simpa [doorV, doorN] using this
    rw [enumE]
    by_cases hs : (σ p).isSome = true
    · rw [if_pos hs]
      exact Ev.step (fun k => by rw [ref10_fill.l0, if_pos hp, if_pos ((hat p hp).2 hs)]) (fill_ev e (p + 1) σ all con (by omega) hP (fun i hi => by
        rcases Nat.lt_or_ge i p with h7 | h7
        · exact hu i h7
        · obtain rfl : i = p := by omega
          exact hs))
    · have hsn := Option.not_isSome_iff_eq_none.1 hs
      rw [if_neg hs]
      have inner : ∀ (f j : Nat) (all con : Int), j + f = e + 1 → ∀ R, R = seeL (fun τ => (cB n d τ, vB wk n d w τ)) ((List.range' j f).flatMap fun j => if 0 < j ∧ (σ (p + j)).isSome = true then [] else enumE e (put2 σ p (p + j)) (p + 1)) all con →
          Ev (fun k => ref10_fill.l1 k n d wk (toI w) (gridP n d σ) p (p + j) all con) (R.1, gridP n d σ, R.2.1, R.2.2) := by
        intro f
        induction f with
        | zero =>
          intro j all con hj R hR
          rw [hR]
          exact Ev.step (f := fun _ => some (true, gridP n d σ, all, con)) (fun k => by rw [ref10_fill.l1, if_neg (by omega)]) (Ev.ret (by simp [seeL]))
        | succ f ih =>
          intro j all con hj R hR
          have hq : p + j < n * d := by omega
          rw [List.range'_succ, List.flatMap_cons] at hR
          by_cases hc : 0 < j ∧ (σ (p + j)).isSome = true
          · rw [if_pos hc, List.nil_append] at hR
            exact Ev.step (fun k => by rw [ref10_fill.l1, if_pos hq, if_pos ((hat _ hq).2 hc.2), Nat.add_assoc]) (ih (j + 1) all con (by omega) R hR)
          · have hqn : p + j ≠ p → σ (p + j) = none := fun hne => Option.not_isSome_iff_eq_none.1 fun h7 => hc ⟨by omega, h7⟩
            have hqn' : σ (p + j) = none := by
              by_cases e : p + j = p
              · rw [e]; exact hsn
              · exact hqn e
            have hP' := hP.put hp hq hsn hqn
            rw [if_neg hc, seeL_append] at hR
            have h1 := fill_ev e (p + 1) (put2 σ p (p + j)) all con (by omega) hP' (fun i hi => by
              rcases Nat.lt_or_ge i p with h7 | h7
              · exact put2_some _ _ _ _ (hu i h7)
              · obtain rfl : i = p := by omega
                unfold put2; rw [if_pos rfl]; rfl)
            generalize seeL (fun τ => (cB n d τ, vB wk n d w τ)) (enumE e (put2 σ p (p + j)) (p + 1)) all con = R1 at h1 hR
            have eput : setG d (setG d (gridP n d σ) p (doorN ((p + j) / d) ((p + j) % d))) (p + j) (doorN (p / d) (p % d)) = gridP n d (put2 σ p (p + j)) := by
              have := setG_grid σ hd hp (some (p + j))
              rw [show doorV d (some (p + j)) = doorN ((p + j) / d) ((p + j) % d) from rfl] at this
              rw [this]
              have := setG_grid (updP σ p (some (p + j))) hd hq (some p)
              rw [show doorV d (some p) = doorN (p / d) (p % d) from rfl] at this
              rw [this]
              congr 1
              funext i
              unfold updP put2
              by_cases e1 : i = p
              · by_cases e2 : i = p + j
                · rw [if_pos e2, if_pos e1]; congr 1; omega
                · rw [if_neg e2, if_pos e1, if_pos e1]
              · by_cases e2 : i = p + j
                · rw [if_pos e2, if_neg e1, if_pos e2]
                · rw [if_neg e2, if_neg e1, if_neg e1, if_neg e2]
            have eback : setG d (setG d (gridP n d (put2 σ p (p + j))) p noD) (p + j) noD = gridP n d σ := by
              have := setG_grid (put2 σ p (p + j)) hd hp none
              rw [show doorV d none = noD from rfl] at this
              rw [this]
              have := setG_grid (updP (put2 σ p (p + j)) p none) hd hq none
              rw [show doorV d none = noD from rfl] at this
              rw [this]
              congr 1
              funext i
              unfold updP put2
              by_cases e2 : i = p + j
              · rw [if_pos e2, e2, hqn']
              · by_cases e1 : i = p
                · rw [if_neg e2, if_pos e1, e1, hsn]
                · rw [if_neg e2, if_neg e1, if_neg e1, if_neg e2]
            refine Ev.step (f := fun k => (ref10_fill.l0 k n d wk (toI w) (gridP n d (put2 σ p (p + j))) (p + 1) all con).bind fun r =>
              if r.1 = true then ref10_fill.l1 k n d wk (toI w) (setG d (setG d r.2.1 p noD) (p + j) noD) p (p + (j + 1)) r.2.2.1 r.2.2.2 else some (false, setG d (setG d r.2.1 p noD) (p + j) noD, r.2.2.1, r.2.2.2)) (fun k => ?_) (Ev.bind h1 ?_)
            · rw [ref10_fill.l1, if_pos hq, if_neg (fun h => by have := (hat _ hq).1 h; rw [hqn'] at this; cases this), eput, Nat.add_assoc]
            · simp only [eback]
              by_cases hr : R1.1 = true
              · rw [if_pos hr] at hR
                simp only [hr, if_true]
                exact ih (j + 1) R1.2.1 R1.2.2 (by omega) R hR
              · rw [if_neg hr] at hR
                simp only [hr]
                refine Ev.ret ?_
                rw [hR]
                simp only [Bool.not_eq_true] at hr
                rw [hr]
      rw [List.range_eq_range']
      exact Ev.step (fun k => by rw [ref10_fill.l0, if_pos hp, if_neg (fun h => hs ((hat p hp).1 h))]; rfl) (inner (e + 1) 0 all con (by omega) _ rfl)
end
/-! ### how many pairings -/
/-! ### the counts -/
/-- Whether all of a list is good. -/
theorem seeL_fst {F : Pg → Bool × Bool} : ∀ (L : List Pg) (a c : Int), (seeL F L a c).1 = true ↔ ∀ τ ∈ L, (F τ).2 = true
  | [], a, c => by simp [seeL]
  | τ :: L, a, c => by
    rw [seeL]
    by_cases h : (F τ).2 = true
    · rw [if_pos h, seeL_fst L]; simp [h]
    · rw [if_neg h]; simp [h]
end Go.Proofs.Ytgbjbgdnldklpaa.Q
end
/-! Part MEachZ -/
section
namespace Go.Proofs.Ytgbjbgdnldklpaa.Q
open Go.RowKit Go.Proofs.YtgbjbgdnldklpaaW.PrintWords Go.Proofs.YtgbjbgdnldklpaaW.PrintLast Go.Proofs.YtgbjbgdnldklpaaW.PrintMore
set_option linter.unusedVariables false
set_option linter.unusedSectionVars false
/-! ### all mazes of a size are shown -/
noncomputable def seenF (n d : Nat) (wk : Bool) (w : List Nat) (τ : Pg) : Bool × Bool := (cB n d τ, vB wk n d w τ)
theorem emptyG_eq (n d : Nat) : emptyG n d = gridP n d noneP := by
  rw [emptyG_grid]; simp [emptyG, rowN]
theorem each_ev {n d : Nat} (hn : 1 ≤ n) (hd : 1 ≤ d) (h6 : d ≤ 6) (hN : n * d ≤ 12) (wk : Bool) (w : List Nat) (hw : wk = true → Wd d w) (hl : w.length ≤ 1000000) (all con : Int) :
    Ev (fun k => eachG k (n : Int) (d : Int) wk (toI w) all con) (seeL (seenF n d wk w) (enumE (n * d) noneP 0) all con) := by
  have h1 := fill_ev hn hd h6 hN wk w hw hl (n * d) 0 noneP all con (by omega) (part_none _) (fun i hi => by omega)
  rw [← emptyG_eq] at h1
  have h2 : Ev (fun k => ref10_each.f k n d wk (toI w) all con) (seeL (seenF n d wk w) (enumE (n * d) noneP 0) all con) := Ev.bind h1 (Ev.now _)
  refine h2.congr fun k => ?_
  unfold eachG
  rw [Int.toNat_natCast, Int.toNat_natCast, if_pos ⟨by omega, by omega, hN⟩]
/-! ### arguments that do not fit -/
def fitsP (a0 a1 : Int) : Prop := 1 ≤ a0 ∧ 1 ≤ a1 ∧ a1 ≤ 6 ∧ a0 ≤ 12 ∧ a0 * a1 ≤ 12
theorem mul_small {a0 a1 : Int} (h1 : 1 ≤ a0) (h2 : a0 ≤ 12) (h3 : 1 ≤ a1) (h4 : a1 ≤ 6) : wrap64 (a0 * a1) = a0 * a1 := by
  have h5 : a0 * a1 ≤ 12 * 6 := Int.mul_le_mul h2 h4 (by omega) (by omega)
  have h6 : 0 ≤ a0 * a1 := Int.mul_nonneg (by omega) (by omega)
  exact wrapI (by omega) (by omega)
theorem fits_nat {a0 a1 : Int} (h : fitsP a0 a1) : ∃ n d : Nat, a0 = (n : Int) ∧ a1 = (d : Int) ∧ 1 ≤ n ∧ 1 ≤ d ∧ d ≤ 6 ∧ n * d ≤ 12 := by
  obtain ⟨h1, h2, h3, h4, h5⟩ := h
  obtain ⟨n, rfl⟩ := Int.eq_ofNat_of_zero_le (show 0 ≤ a0 by omega)
  obtain ⟨d, rfl⟩ := Int.eq_ofNat_of_zero_le (show 0 ≤ a1 by omega)
  exact ⟨n, d, rfl, rfl, by omega, by omega, by omega, by rw [← Int.natCast_mul] at h5; omega⟩
theorem asks_bad {a0 a1 : Int} (h : ¬ fitsP a0 a1) : maze_asks.f a0 a1 = some 2 := by
  unfold maze_asks.f
  by_cases h1 : a0 < 1
  · rw [if_pos h1]
  rw [if_neg h1]
  by_cases h2 : a1 < 1
  · rw [if_pos h2]
  rw [if_neg h2]
  by_cases h3 : a1 > 6
  · rw [if_pos h3]
  rw [if_neg h3]
  by_cases h4 : a0 > 12
  · rw [if_pos h4]
  rw [if_neg h4, mul_small (by omega) (by omega) (by omega) (by omega), if_pos]
  refine Int.not_le.1 fun h5 => h ⟨by omega, by omega, by omega, by omega, h5⟩
theorem fits_bad {a0 a1 : Int} (h : ¬ fitsP a0 a1) : mizmazeref10_Fits.f a0 a1 = some false := by
  unfold mizmazeref10_Fits.f
  by_cases h1 : a0 ≥ 1
  · rw [if_pos h1]
    by_cases h2 : a0 ≤ 12
    · rw [if_pos h2]
      by_cases h3 : a1 ≥ 1
      · rw [if_pos h3]
        by_cases h4 : a1 ≤ 6
        · rw [if_pos h4, mul_small (by omega) (by omega) (by omega) (by omega)]
          congr 1
          exact decide_eq_false fun h5 => h ⟨by omega, by omega, by omega, by omega, h5⟩
        · rw [if_neg h4]
      · rw [if_neg h3]
    · rw [if_neg h2]
  · rw [if_neg h1]
theorem fits_good {a0 a1 : Int} (h : fitsP a0 a1) : mizmazeref10_Fits.f a0 a1 = some true := by
  obtain ⟨h1, h2, h3, h4, h5⟩ := h
  unfold mizmazeref10_Fits.f
  rw [if_pos (by omega), if_pos (by omega), if_pos (by omega), if_pos (by omega), mul_small (by omega) (by omega) (by omega) (by omega), decide_eq_true h5]
end Go.Proofs.Ytgbjbgdnldklpaa.Q
end
/-! Part MAwake10 -/
section
namespace Go.Proofs.Ytgbjbgdnldklpaa.Q
open Go.RowKit Go.Proofs.YtgbjbgdnldklpaaW.PrintWords Go.Proofs.YtgbjbgdnldklpaaW.PrintLast Go.Proofs.YtgbjbgdnldklpaaW.PrintMore
set_option maxRecDepth 100000 in
theorem awake10 : Ev (fun k => mizmazelaw10_awake.f k) true := Ev.of (k := 60) (fun k => mizmazelaw10_awake.mono k) (by kernel_rfl)
theorem awake10_end : Ev (fun k => (mizmazelaw10_awake.f k).bind fun t => some t) true := Ev.bind awake10 (Ev.now _)
end Go.Proofs.Ytgbjbgdnldklpaa.Q
end
