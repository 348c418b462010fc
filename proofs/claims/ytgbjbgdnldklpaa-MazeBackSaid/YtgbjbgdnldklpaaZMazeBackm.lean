/- The law MazeBack holds: whoever goes back through a door is where one was, and a word is walked back through the same rooms; no bound on the arguments beyond their types'. (text 13 of 17) -/
import Derived.Test.YtgbjbgdnldklpaaZMazeBackl
import Derived.Test.YtgbjbgdnldklpaaZMazeBackh
import Derived.Test.YtgbjbgdnldklpaaZMazeBackf
import Derived.Test.YtgbjbgdnldklpaaZMazeBackg
/-! Part XCheck -/
section
namespace Go.Proofs.Ytgbjbgdnldklpaa.Q
open Go.RowKit Go.Proofs.YtgbjbgdnldklpaaW.PrintWords Go.Proofs.YtgbjbgdnldklpaaW.PrintLast Go.Proofs.YtgbjbgdnldklpaaW.PrintMore
attribute [local go_sem] Oper.semAt_some
set_option linter.unusedVariables false
set_option linter.unusedSimpArgs false
def chkS (k : Nat) (n d : Int) (l : List Int) : List (List Int) → Option Bool
  | [] => some true
  | x :: r => (small_connected.f k n d x).bind fun b => if b = true then (maze_visited.f k n d x l).bind fun v => (if v = true then chkS k n d l r else some false) else chkS k n d l r
theorem chkS.mono (n d : Int) (l : List Int) : ∀ (L : List (List Int)) (k : Nat), LeO (chkS k n d l L) (chkS (k + 1) n d l L)
  | [], _ => LeO.refl _
  | x :: r, k => LeO.bind (small_connected.mono _ _ _ _) fun b => LeO.ite (LeO.bind (maze_visited.mono _ _ _ _ _) fun v => LeO.ite (chkS.mono n d l r k) (LeO.refl _)) (chkS.mono n d l r k)
def maze_Check.l0 : Nat → Int → Int → List Int → Int → Option (Bool × Int)
  | 0, _, _, _, _ => none
  | k + 1, a0, a1, l, n => if n ≤ a0 then (maze_all.f k n a1).bind fun L => (chkS k n a1 l L).bind fun b => (if b = true then maze_Check.l0 k a0 a1 l (wrap64 (n + 1)) else some (false, 0)) else some (true, 0)
def maze_Check.f (k : Nat) (a0 a1 : Int) (l : List Int) : Option (Bool × Int) := (maze_asks.f a0 a1).bind fun e => if e = 0 then (maze_fits.f l a1).bind fun t => (if t = true then (if (l.length : Int) > 500 then some (false, 2) else maze_Check.l0 k a0 a1 l 2) else some (false, 2)) else some (false, e)
theorem maze_Check.mono_l : ∀ k y0 y1 y2 y3, LeO (maze_Check.l0 k y0 y1 y2 y3) (maze_Check.l0 (k + 1) y0 y1 y2 y3)
  | 0 => fun _ _ _ _ r h => by simp [maze_Check.l0] at h
  | k + 1 => by
    intro y0 y1 y2 y3
    unfold maze_Check.l0
    exact LeO.ite (LeO.bind (maze_all.mono _ _ _) fun L => LeO.bind (chkS.mono _ _ _ _ _) fun b => LeO.ite (maze_Check.mono_l k _ _ _ _) (LeO.refl _)) (LeO.refl _)
theorem maze_Check.mono : ∀ a0 a1 a2 k, LeO (maze_Check.f k a0 a1 a2) (maze_Check.f (k + 1) a0 a1 a2) := fun _ _ _ k => LeO.bind (LeO.refl _) fun e => LeO.ite (LeO.bind (LeO.refl _) fun t => LeO.ite (LeO.ite (LeO.refl _) (maze_Check.mono_l k _ _ _ _)) (LeO.refl _)) (LeO.refl _)
/-- The caller's memory: the word's box, the results' boxes, the marks of the ranges that are behind. -/
structure CF (w : World) (C : Nat) (A : Option Addr) (len c : Nat) (dl : List Deferred) (own : Nat → Prop) (W : World) (u6 : Bool) (u7 : Int) : Prop where
  below : Below w.heap.size w W
  c5 : W.heap[C]? = some (.cells #[.slice A len c] 30 (0, 0))
  c6 : W.heap[C + 1]? = some (.cells #[.bool u6] 4 (0, 0))
  c7 : W.heap[C + 1 + 1]? = some (.cells #[.int .i64 u7] 22 (0, 0))
  no : ∀ b, own b → C + 1 + 1 < b
  hC : w.heap.size ≤ C
  ms : ∀ d ∈ dl, ∃ D, d = { target := .collected D, args := #[] } ∧ W.heap[D]? = some (.deferred (some [])) ∧ C + 1 + 1 < D ∧ ¬ own D
  nd : dl.Nodup
section
variable {w : World} {C len c : Nat} {A : Option Addr} {dl : List Deferred} {own own' : Nat → Prop} {W W' : World} {u6 : Bool} {u7 : Int}
theorem CF.stable (h : CF w C A len c dl own W u6 u7) (hk : KeptL w.heap.size own W W') (hs : ∀ b, own b → w.heap.size ≤ b) (hn : ∀ b, own' b → own b ∨ W.heap.size ≤ b) : CF w C A len c dl own' W' u6 u7 :=
  ⟨hk.below h.below hs, hk.cells h.c5 (fun ho => by have := h.no _ ho; omega), hk.cells h.c6 (fun ho => by have := h.no _ ho; omega), hk.cells h.c7 (fun ho => by have := h.no _ ho; omega),
    fun b hb => (hn b hb).elim (h.no b) (fun h2 => by have := blk_ltS h.c7; omega), h.hC,
    fun d hd => by
      obtain ⟨D, e, h1, h2, h3⟩ := h.ms d hd
      exact ⟨D, e, (hk.block D (blk_ltS h1) h3 (Or.inr fun r e => by rw [h1] at e; cases e)).trans h1, h2, fun ho => (hn D ho).elim h3 (by have := blk_ltS h1; omega)⟩, h.nd⟩
theorem CF.next (h : CF w C A len c dl own W u6 u7) (hb : Below W.heap.size W W') : CF w C A len c dl own W' u6 u7 :=
  ⟨below_step h.below hb, blk_below h.c5 hb, blk_below h.c6 hb, blk_below h.c7 hb, h.no, h.hC, fun d hd => by
    obtain ⟨D, e, h1, h2, h3⟩ := h.ms d hd
    exact ⟨D, e, blk_below h1 hb, h2, h3⟩, h.nd⟩
theorem CF.put (h : CF w C A len c dl own W u6 u7) (v6 : Bool) (v7 : Int) : CF w C A len c dl own ((W.setCell ⟨C + 1, 0, none⟩ (.bool v6)).setCell ⟨C + 1 + 1, 0, none⟩ (.int .i64 v7)) v6 v7 := by
  have a6 := blk_put (cs := #[.bool u6]) h.c6 0 (.bool v6) rfl
  have a7 : (W.setCell ⟨C + 1, 0, none⟩ (.bool v6)).heap[C + 1 + 1]? = some (.cells #[.int .i64 u7] 22 (0, 0)) := (Below.heap_setCell W ⟨C + 1, 0, none⟩ _ (C + 1 + 1) (by simp)).trans h.c7
  have b7 := blk_put (cs := #[.int .i64 u7]) a7 0 (.int .i64 v7) rfl
  have far : ∀ b, b ≠ C + 1 → b ≠ C + 1 + 1 → ((W.setCell ⟨C + 1, 0, none⟩ (.bool v6)).setCell ⟨C + 1 + 1, 0, none⟩ (.int .i64 v7)).heap[b]? = W.heap[b]? := fun b h1 h2 => by
    rw [Below.heap_setCell _ ⟨C + 1 + 1, 0, none⟩ _ b h2, Below.heap_setCell _ ⟨C + 1, 0, none⟩ _ b h1]
  have hC := h.hC
  exact ⟨(h.below.setCell (p := ⟨C + 1, 0, none⟩) (by show _ ≤ C + 1; omega) _).setCell (p := ⟨C + 1 + 1, 0, none⟩) (by show _ ≤ C + 1 + 1; omega) _, (far C (by omega) (by omega)).trans h.c5, (Below.heap_setCell _ ⟨C + 1 + 1, 0, none⟩ _ (C + 1) (by simp)).trans a6, b7, h.no, h.hC, fun d hd => by
    obtain ⟨D, e, h1, h2, h3⟩ := h.ms d hd
    exact ⟨D, e, (far D (by omega) (by omega)).trans h1, h2, h3⟩, h.nd⟩
end
theorem CF.start (w : World) (A : Option Addr) (len c : Nat) : CF w w.heap.size A len c [] (fun _ => False) (((w.alloc (.cells #[.slice A len c] 30)).alloc (.cells #[.bool false] 4)).alloc (.cells #[.int .i64 0] 22)) false 0 := by
  have hb := (((Below.refl _ w).alloc (Nat.le_refl _) (.cells #[.slice A len c] 30)).alloc (by simp) (.cells #[.bool false] 4)).alloc (by simp; omega) (.cells #[.int .i64 0] 22)
  refine ⟨hb, blk_alloc (blk_alloc (blk_new _ _) _) _, blk_alloc ?_ _, ?_, fun b h => h.elim, Nat.le_refl _, (by intro d hd; cases hd), List.nodup_nil⟩
  · have := blk_new (w.alloc (.cells #[.slice A len c] 30)) (.cells #[.bool false] 4)
    rwa [World.size_alloc] at this
  · have := blk_new ((w.alloc (.cells #[.slice A len c] 30)).alloc (.cells #[.bool false] 4)) (.cells #[.int .i64 0] 22)
    rwa [World.size_alloc, World.size_alloc] at this
/-- What the marks' ends leave as it was. -/
structure MarkRel (lim : Nat) (W W' : World) : Prop where
  os : W'.os = W.os
  tape : W'.tape = W.tape
  output : W'.output = W.output
  size : W.heap.size ≤ W'.heap.size
  block : ∀ b, b < lim → W'.heap[b]? = W.heap[b]?
theorem leaves_marks {F : Fence} {n : Nat} {P : Program} {fn : Func} {tmps : Array Value} {R : Ending → World → Prop} {lim : Nat} : ∀ (dl : List Deferred) (W : World), (∀ d ∈ dl, ∃ D, d = { target := .collected D, args := #[] } ∧ W.heap[D]? = some (.deferred (some [])) ∧ lim ≤ D) → dl.Nodup →
    (∀ W', MarkRel lim W W' → LeavesInM F n P fn tmps R [] .returning W') → LeavesInM F n P fn tmps R dl .returning W
  | [], W, _, _, h => h W ⟨rfl, rfl, rfl, Nat.le_refl _, fun _ _ => rfl⟩
  | d :: dl, W, hm, hn, h => by
    obtain ⟨D, rfl, h1, h2⟩ := hm d List.mem_cons_self
    rw [List.nodup_cons] at hn
    refine ⟨by simp, .inl ⟨_, _, rfl, run_takeDeferred h1, ?_⟩⟩
    refine leaves_marks dl (W.putObj D (.deferred none)) (fun d' hd' => ?_) hn.2 fun W' hr => h W' ⟨hr.os, hr.tape, hr.output, by have := hr.size; simpa using this, fun b hb => (hr.block b hb).trans (World.putObj_heap_other (by omega))⟩
    obtain ⟨D', rfl, h3, h4⟩ := hm d' (List.mem_cons_of_mem _ hd')
    exact ⟨D', rfl, (World.putObj_heap_other (fun e => hn.1 (by rw [← e]; exact hd'))).trans h3, h4⟩
theorem res_cells67 {fn : Func} (hf : fn.results = #[.cell 6 4, .cell 7 22]) {tmps : Array Value} {C2 C3 : Nat} (h2 : tmps.getD 6 undef = .pointer (some ⟨C2, 0, none⟩)) (h3 : tmps.getD 7 undef = .pointer (some ⟨C3, 0, none⟩)) {W : World} {b : Bool} {r : Int}
    (c2 : W.cell? ⟨C2, 0, none⟩ = some (.bool b)) (c3 : W.cell? ⟨C3, 0, none⟩ = some (.int .i64 r)) : (results fn tmps).run Try.prog W = .ok (.tuple #[.bool b, .int .i64 r]) W := by
  have h2' : tmps[6]?.getD undef = .pointer (some ⟨C2, 0, none⟩) := by simpa using h2
  have h3' : tmps[7]?.getD undef = .pointer (some ⟨C3, 0, none⟩) := by simpa using h3
  simp [results, hf, h2', h3', go_sem, c2, c3]
theorem CF.ends {F : Fence} {n : Nat} {fn : Func} {tmps : Array Value} {w : World} {C len c : Nat} {A : Option Addr} {dl : List Deferred} {own : Nat → Prop} {W : World} {u6 : Bool} {u7 : Int} (h : CF w C A len c dl own W u6 u7)
    (hf : fn.results = #[.cell 6 4, .cell 7 22]) (h2 : tmps.getD 6 undef = .pointer (some ⟨C + 1, 0, none⟩)) (h3 : tmps.getD 7 undef = .pointer (some ⟨C + 1 + 1, 0, none⟩)) :
    LeavesInM F n Try.prog fn tmps (fun e w' => e = .returned (.tuple #[.bool u6, .int .i64 u7]) ∧ Below w.heap.size w w') dl .returning W := by
  have hC := h.hC
  refine leaves_marks (lim := C + 1 + 1 + 1) dl W (fun d hd => by obtain ⟨D, e, h1, h2, _⟩ := h.ms d hd; exact ⟨D, e, h1, by omega⟩) h.nd fun W' hr => ?_
  refine ⟨_, res_cells67 hf h2 h3 ((blk_cell ((hr.block (C + 1) (by omega)).trans h.c6) 0).trans rfl) ((blk_cell ((hr.block (C + 1 + 1) (by omega)).trans h.c7) 0).trans rfl), rfl, ?_⟩
  exact ⟨hr.os.trans h.below.os, hr.tape.trans h.below.tape, hr.output.trans h.below.output, Nat.le_trans h.below.size hr.size, fun b hb => (hr.block b (by omega)).trans (h.below.block b hb)⟩
set_option maxHeartbeats 1000000 in
set_option maxRecDepth 100000 in
theorem maze_Check.calls (k : Nat) (a0 a1 : Int) (A2 : Option Addr) (c2 : Nat) (l2 : List Int) (r1 : Bool) (r2 : Int) (w : World) (hr2 : Kd.C (Kd.int .i64) w A2 l2.length l2) (hc2 : l2.length ≤ c2) (h : maze_Check.f k a0 a1 l2 = some (r1, r2)) :
    Calls Try.prog 18 #[.int .i64 a0, .int .i64 a1, .slice A2 l2.length c2] w fun e w' => e = .returned (.tuple #[.bool r1, .int .i64 r2]) ∧ Below w.heap.size w w' := by
  have HB0 := Below.refl w.heap.size w
  have HR := Aside0.mk hr2
  have HC := Aside0.mk hc2
  obtain ⟨e, he, h⟩ := Option.bind_eq_some_iff.1 h
  have HE := Aside0.mk he
  have H := Aside0.mk h
  clear he h hr2 hc2
  refine callsIn_wide.1 (callsIn_of_wp_marks (n := 0) Try.func18 rfl trivial (wpIn_wide.2 ?_) rfl)
  simp only [Try.ntmps18, List.size_toArray, List.length_cons, List.length_nil, Nat.reduceAdd, Nat.reduceSub, Array.replicate_succ, Array.replicate_zero, List.push_toArray, List.append_toArray, List.nil_append, List.cons_append]
  by_cases d : e = 0
  · rw [if_pos d] at H
    subst d
    have d' : ((0 : Int) == 0) = true := rfl
    obtain ⟨t, ht, hG⟩ := Option.bind_eq_some_iff.1 H.out
    have HT := Aside0.mk ht
    have HG := Aside0.mk hG
    clear ht hG H
    have HI0 := Aside0.mk (CF.start w A2 l2.length c2)
    cases t with
    | true =>
      rw [if_pos rfl] at HG
      by_cases d5 : (l2.length : Int) > 500
      · rw [if_pos d5] at HG
        obtain ⟨rfl, rfl⟩ := Prod.mk.inj (Option.some.inj HG.out)
        have d5b : decide (500 < (l2.length : Int)) = true := decide_eq_true (by omega)
        clear d5 HG
        go_wp2_with (first | (go_at_call 37; refine (maze_asks.calls _ _ _ _ HE.out).mono ?_; rintro e2 w2 ⟨rfl, hd2⟩; have HI1 := Aside0.mk (HI0.out.next hd2.below); have hc5 : w2.cell? ⟨w.heap.size, 0, none⟩ = some (.slice A2 l2.length c2) := (blk_cell (HI0.out.next hd2.below).c5 0).trans rfl; clear hd2)  | (go_at_call 41; refine (maze_fits.calls _ _ _ _ _ _ (Kd.C_below HR.out HI1.out.below) HC.out HT.out).mono ?_; rintro e2 w3 ⟨rfl, hb3⟩; have hI3 := HI1.out.next hb3; have HI3 := Aside0.mk hI3; have hc53 : w3.cell? ⟨w.heap.size, 0, none⟩ = some (.slice A2 l2.length c2) := (blk_cell hI3.c5 0).trans rfl;  have hc6 : w3.cell? ⟨w.heap.size + 1, 0, none⟩ = some (.bool false) := (blk_cell hI3.c6 0).trans rfl; have hf6 := blk_frozen hI3.c6 0; have hx7 := (Below.heap_setCell w3 ⟨w.heap.size + 1, 0, none⟩ (.bool false) (w.heap.size + 1 + 1) (by simp)).trans hI3.c7; have hc7 : (w3.setCell ⟨w.heap.size + 1, 0, none⟩ (.bool false)).cell? ⟨w.heap.size + 1 + 1, 0, none⟩ = some (.int .i64 0) := (blk_cell hx7 0).trans rfl; have hf7 := blk_frozen hx7 0; clear hb3 hI3 hx7))
        exact (HI3.out.put false 2).ends rfl rfl rfl
      · rw [if_neg d5] at HG
        have d5b : decide (500 < (l2.length : Int)) = false := decide_eq_false (by omega)
        clear d5
        go_wp2_with (first | (go_at_call 37; refine (maze_asks.calls _ _ _ _ HE.out).mono ?_; rintro e2 w2 ⟨rfl, hd2⟩; have HI1 := Aside0.mk (HI0.out.next hd2.below); have hc5 : w2.cell? ⟨w.heap.size, 0, none⟩ = some (.slice A2 l2.length c2) := (blk_cell (HI0.out.next hd2.below).c5 0).trans rfl; clear hd2)  | (go_at_call 41; refine (maze_fits.calls _ _ _ _ _ _ (Kd.C_below HR.out HI1.out.below) HC.out HT.out).mono ?_; rintro e2 w3 ⟨rfl, hb3⟩; have HI3 := Aside0.mk (HI1.out.next hb3); have hc53 : w3.cell? ⟨w.heap.size, 0, none⟩ = some (.slice A2 l2.length c2) := (blk_cell (HI1.out.next hb3).c5 0).trans rfl; clear hb3))
        obtain ⟨C, hC⟩ : ∃ C, w.heap.size = C := ⟨_, rfl⟩
        have HCC := Aside0.mk hC
        rw [hC] at HI3 ⊢
        have H0 := HG
        clear hc5 hc53 hC HI0 HI1 HE HT d' HG d5b
        refine wp_loop_ghost_k (fun kq a' w' => ∃ (n : Int) (dl : List Deferred) (u10 u26 u27 u28 u29 u30 u31 u32 u33 u34 u35 u36 u37 u38 u39 u40 : Value), a' = { tmps := #[.int .i64 a0, .int .i64 a1, .slice A2 l2.length c2, undef, undef, .pointer (some ⟨C, 0, none⟩), .pointer (some ⟨C + 1, 0, none⟩), .pointer (some ⟨C + 1 + 1, 0, none⟩), .int .i64 0, .int .i64 n, u10, .int .i64 a0, .int .i64 a1, .int .i64 0, .int .i64 0, .bool false, undef, .slice A2 l2.length c2, .int .i64 a1, .bool true, .bool false, .bool false, .slice A2 l2.length c2, .int .i64 (l2.length : Int), .bool false, .bool false, u26, u27, u28, u29, u30, u31, u32, u33, u34, u35, u36, u37, u38, u39, u40], defers := dl } ∧ Aside0 (maze_Check.l0 kq a0 a1 l2 n = some (r1, r2)) ∧ Aside0 (CF w C A2 l2.length c2 dl (fun _ => False) w' false 0)) k ⟨2, [], undef, undef, undef, undef, undef, undef, undef, undef, undef, undef, undef, undef, undef, undef, undef, undef, rfl, H0, HI3⟩ ?_
        clear HI3 H0 w3 w2
        rintro kq a' wr ⟨n, dl, u10, u26, u27, u28, u29, u30, u31, u32, u33, u34, u35, u36, u37, u38, u39, u40, rfl, HA, HI⟩ J K hJ hK
        cases kq with
        | zero => exact absurd HA.out (by simp [maze_Check.l0])
        | succ k1 =>
          have H := HA.out
          clear HA
          simp only [maze_Check.l0] at H
          by_cases d1 : n ≤ a0
          · rw [if_pos d1] at H
            obtain ⟨L, hL, H2⟩ := Option.bind_eq_some_iff.1 H
            obtain ⟨bb, hbb, H3⟩ := Option.bind_eq_some_iff.1 H2
            have HL := Aside0.mk hL
            have HF := Aside0.mk hbb
            have H4 := Aside0.mk H3
            have d1b := decide_eq_true d1
            have HDL : Aside0 (∀ d ∈ dl, ∃ D, d = { target := .collected D, args := #[] } ∧ D < wr.heap.size) := ⟨fun d hd => by obtain ⟨D, e, h1, _⟩ := HI.out.ms d hd; exact ⟨D, e, blk_ltS h1⟩⟩
            clear H H2 H3 hL hbb d1
            go_wp2_with (go_at_call 38; refine (maze_all.makes _ _ _).mono ?_; rintro e2 w3 ⟨rfl, hxR, hxD, hb3⟩; have HI3 := Aside0.mk (HI.out.next hb3); have HXR := Aside0.mk hxR; have HXD := Aside0.mk hxD; have HS3 := Aside0.mk hb3.size; clear hxR hxD hb3)
            have HLT : Aside0 (wr.heap.size + 1 < w3.heap.size) := ⟨blk_ltS HXD.out⟩
            have HCW : Aside0 (C + 1 + 1 < wr.heap.size) := ⟨blk_ltS HI.out.c7⟩
            clear HI
            have seq := maze_all.seq k1 n a1 L wr.heap.size (wr.heap.size + 1) w HL.out
            refine wp_rangeFunc_iter (base := w.heap.size) (own0 := fun b => b = wr.heap.size ∨ b = wr.heap.size + 1) rfl (enters_ Try.func51 (by kernel_rfl) rfl) seq HI3.out.below.size (fun b hb => by have := HCW.out; have := HLT.out; have := HI3.out.hC; rcases hb with rfl | rfl <;> exact ⟨by omega, by omega⟩) (fun W hW => ⟨blk_below HXR.out hW, blk_below HXD.out hW⟩) (fun own x W vs he => by obtain ⟨rfl, _⟩ := he; rfl)
              (fun own pre W => ∃ (rest : List (List Int)), CF w C A2 l2.length c2 dl own W false 0 ∧ L = pre ++ rest ∧ chkS k1 n a1 l2 rest = some bb)
              (fun c own pre W => c = .ret ∧ CF w C A2 l2.length c2 dl own W false 0 ∧ bb = false)
              ?stI ?stX ?start ?round ?done ?stop
            case stI =>
              rintro own own' s A B ⟨rest, hi, hr⟩ hk hs hn
              exact ⟨rest, hi.stable hk hs hn, hr⟩
            case stX =>
              rintro c own own' s A B ⟨rfl, hi, hb⟩ hk hs hn
              exact ⟨rfl, hi.stable hk hs hn, hb⟩
            case start =>
              refine ⟨L, ⟨HI3.out.below, HI3.out.c5, HI3.out.c6, HI3.out.c7, fun b hb => by have := HCW.out; rcases hb with rfl | rfl <;> omega, HI3.out.hC, fun d hd => ?_, HI3.out.nd⟩, rfl, HF.out⟩
              obtain ⟨D, e, h1, h2, h3⟩ := HI3.out.ms d hd
              obtain ⟨D', e', h4⟩ := HDL.out d hd
              have : D = D' := by rw [e] at e'; injection e' with e' _; injection e'
              exact ⟨D, e, h1, h2, by omega⟩
            case round =>
              rintro l D own pre x vs W ⟨rest, hi, hL, hF⟩ ⟨rest2, hL2⟩ ⟨rfl, hx12⟩ ⟨r, hr⟩ ⟨dd, hd⟩ hl hD hnl hnD hbs
              obtain rfl : rest = x :: rest2 := List.append_cancel_left (hL.symm.trans hL2)
              obtain ⟨bc, hbc, hF2⟩ := Option.bind_eq_some_iff.1 hF
              have HBC := Aside0.mk hbc
              have HF2 := Aside0.mk hF2
              have HP : Aside0 (L = pre ++ [x] ++ rest2) := ⟨by rw [hL2]; simp⟩
              have HI := Aside0.mk hi
              have HBS := Aside0.mk hbs
              have HLW := Aside0.mk (show w.heap.size ≤ l from Nat.le_trans HI3.out.below.size hl)
              have hCw := hi.hC
              have n2l : C + 1 ≠ l := fun e => by rw [← e, hi.c6] at hr; cases hr
              have n3l : C + 1 + 1 ≠ l := fun e => by rw [← e, hi.c7] at hr; cases hr
              have n2D : C + 1 ≠ D := fun e => by rw [← e, hi.c6] at hd; cases hd
              have n3D : C + 1 + 1 ≠ D := fun e => by rw [← e, hi.c7] at hd; cases hd
              have K2 : Aside0 (¬ keepR w.heap.size own l D (C + 1)) := ⟨fun h => by rcases h with (h | h) | h | h; omega; exact absurd (hi.no _ h) (by omega); exact n2l h; exact n2D h⟩
              have K3 : Aside0 (¬ keepR w.heap.size own l D (C + 1 + 1)) := ⟨fun h => by rcases h with (h | h) | h | h; omega; exact absurd (hi.no _ h) (by omega); exact n3l h; exact n3D h⟩
              clear hi hbs hbc hF2 hF hL hL2 hd hr n2l n3l n2D n3D hCw
              obtain ⟨z0, z1, z2, z3, z4, z5, z6, z7, z8, z9, z10, z11, hrs⟩ := len12 hx12
              subst hrs
              rw [zip1]
              simp only [List.setIfInBounds_toArray, List.set_cons_succ, List.set_cons_zero, smC, List.map_cons, List.map_nil]
              gi_wp2
              have hBa := below_alloc (Below.refl W.heap.size W) (.cells (smC n a1 [z0, z1, z2, z3, z4, z5, z6, z7, z8, z9, z10, z11]) 66)
              have HZ : Aside0 (SmB (W.alloc (.cells (smC n a1 [z0, z1, z2, z3, z4, z5, z6, z7, z8, z9, z10, z11]) 66)) W.heap.size n a1 [z0, z1, z2, z3, z4, z5, z6, z7, z8, z9, z10, z11]) := ⟨⟨blk_new _ _, hx12⟩⟩
              have HIa := Aside0.mk (HI.out.next hBa)
              refine ⟨RoundKept.of_below hBa, ?_⟩
              rintro W2 ⟨rl, r1', hr1, rfl⟩
              have HK2 := Aside0.mk (KeptL.putObj (own := own) (.loop r1') hr1 HLW.out)
              have HI2 := Aside0.mk (HIa.out.stable HK2.out HBS.out fun b hb => Or.inl hb)
              have HZ2 : Aside0 (SmB ((W.alloc (.cells (smC n a1 [z0, z1, z2, z3, z4, z5, z6, z7, z8, z9, z10, z11]) 66)).putObj l (.loop r1')) W.heap.size n a1 [z0, z1, z2, z3, z4, z5, z6, z7, z8, z9, z10, z11]) := ⟨⟨(World.putObj_heap_other (fun e => by have h1 := HZ.out.1; rw [e] at h1; have h2 := hr1.symm.trans h1; cases h2)).trans HZ.out.1, hx12⟩⟩
              simp only [smC, List.map_cons, List.map_nil] at HI2 HZ2
              clear HK2 HI HIa HZ hr1 hBa
              generalize (W.alloc (.cells _ 66)).putObj l (.loop r1') = W2 at HI2 HZ2 ⊢
              generalize W.heap.size = Z at HZ2 ⊢
              cases bc with
              | false =>
                have HF3 : Aside0 (chkS k1 n a1 l2 rest2 = some bb) := ⟨by simpa using HF2.out⟩
                clear HF2
                gi_wp2_with (refine ⟨trivial, rfl, ?_⟩; refine (CallsIn.inRound l (callsIn_wide.2 (small_connected.calls k1 n a1 _ false _ Z HZ2.out HBC.out))).mono ?_; rintro e3 W4 ⟨rfl, hb4⟩; have HB4 := Aside0.mk hb4; have HI4 := Aside0.mk (HI2.out.next hb4); clear hb4)
                refine ⟨trivial, ?_⟩
                gi_wp2_with fail
                exact ⟨RoundKept.of_below HB4.out, rest2, HI4.out, HP.out, HF3.out⟩
              | true =>
                obtain ⟨vv, hvv, hF4⟩ := Option.bind_eq_some_iff.1 (show (maze_visited.f k1 n a1 [z0, z1, z2, z3, z4, z5, z6, z7, z8, z9, z10, z11] l2).bind (fun v => (if v = true then chkS k1 n a1 l2 rest2 else some false)) = some bb by simpa using HF2.out)
                have HVV := Aside0.mk hvv
                have HF4 := Aside0.mk hF4
                clear HF2 hvv hF4
                cases vv with
                | true =>
                  have HF3 : Aside0 (chkS k1 n a1 l2 rest2 = some bb) := ⟨by simpa using HF4.out⟩
                  clear HF4
                  gi_wp2_with (first | (refine ⟨trivial, rfl, ?_⟩; refine (CallsIn.inRound l (callsIn_wide.2 (small_connected.calls k1 n a1 _ true _ Z HZ2.out HBC.out))).mono ?_; rintro e3 W4 ⟨rfl, hb4⟩; have HB4 := Aside0.mk hb4; have HI4 := Aside0.mk (HI2.out.next hb4); have HZ4 : Aside0 (SmB W4 Z n a1 [z0, z1, z2, z3, z4, z5, z6, z7, z8, z9, z10, z11]) := ⟨⟨blk_below HZ2.out.1 hb4, hx12⟩⟩; have hc54 : W4.cell? ⟨C, 0, none⟩ = some (.slice A2 l2.length c2) := (blk_cell (HI2.out.next hb4).c5 0).trans rfl; clear hb4)  | (refine ⟨trivial, rfl, ?_⟩; refine (CallsIn.inRound l (callsIn_wide.2 (maze_visited.calls k1 n a1 _ l2 A2 c2 true Z w W4 HR.out HI4.out.below HZ4.out HVV.out))).mono ?_; rintro e3 W5 ⟨rfl, hb5⟩; have HB5 := Aside0.mk hb5; have HI5 := Aside0.mk (HI4.out.next hb5); clear hb5))
                  exact ⟨(RoundKept.of_below HB4.out).trans (RoundKept.of_below HB5.out), rest2, HI5.out, HP.out, HF3.out⟩
                | false =>
                  have HF3 : Aside0 (bb = false) := ⟨by simpa using HF4.out.symm⟩
                  clear HF4
                  gi_wp2_with (first | (refine ⟨trivial, rfl, ?_⟩; refine (CallsIn.inRound l (callsIn_wide.2 (small_connected.calls k1 n a1 _ true _ Z HZ2.out HBC.out))).mono ?_; rintro e3 W4 ⟨rfl, hb4⟩; have HB4 := Aside0.mk hb4; have HI4 := Aside0.mk (HI2.out.next hb4); have HZ4 : Aside0 (SmB W4 Z n a1 [z0, z1, z2, z3, z4, z5, z6, z7, z8, z9, z10, z11]) := ⟨⟨blk_below HZ2.out.1 hb4, hx12⟩⟩; have hc54 : W4.cell? ⟨C, 0, none⟩ = some (.slice A2 l2.length c2) := (blk_cell (HI2.out.next hb4).c5 0).trans rfl; clear hb4)  | (refine ⟨trivial, rfl, ?_⟩; refine (CallsIn.inRound l (callsIn_wide.2 (maze_visited.calls k1 n a1 _ l2 A2 c2 false Z w W4 HR.out HI4.out.below HZ4.out HVV.out))).mono ?_; rintro e3 W5 ⟨rfl, hb5⟩; have HB5 := Aside0.mk hb5; have HI5 := Aside0.mk (HI4.out.next hb5); have hc6 : W5.cell? ⟨C + 1, 0, none⟩ = some (.bool false) := (blk_cell (HI4.out.next hb5).c6 0).trans rfl; have hf6 := blk_frozen (HI4.out.next hb5).c6 0; have hc7 : (W5.setCell ⟨C + 1, 0, none⟩ (.bool false)).cell? ⟨C + 1 + 1, 0, none⟩ = some (.int .i64 0) := (blk_cell ((Below.heap_setCell W5 ⟨C + 1, 0, none⟩ _ (C + 1 + 1) (by simp)).trans (HI4.out.next hb5).c7) 0).trans rfl; have hf7 := blk_frozen ((Below.heap_setCell W5 ⟨C + 1, 0, none⟩ (.bool false) (C + 1 + 1) (by simp)).trans (HI4.out.next hb5).c7) 0; clear hb5))
                  exact ⟨(((RoundKept.of_below HB4.out).trans (RoundKept.of_below HB5.out)).trans (RoundKept.set _ K2.out)).trans (RoundKept.set _ K3.out), rfl, HI5.out.put false 0, HF3.out⟩
            case done =>
              rintro D own W ⟨rest, hi, hL, hF⟩ hbs hKd hD
              obtain rfl : rest = [] := List.append_cancel_left (hL.symm.trans (List.append_nil L).symm)
              obtain rfl := Option.some.inj hF
              have HI := Aside0.mk hi
              have HKd := Aside0.mk hKd
              have H5 : Aside0 (maze_Check.l0 k1 a0 a1 l2 (wrap64 (n + 1)) = some (r1, r2)) := ⟨by simpa using H4.out⟩
              have HDD := Aside0.mk hD
              clear hi hKd hL hF seq H4
              go_wp2_with fail
              refine Handed.intro k1 (by omega) (hJ _ _ _ ⟨_, _, _, _, _, _, _, _, _, _, _, _, _, _, _, _, _, _, rfl, H5, ⟨?_⟩⟩)
              have hw3 := HS3.out
              have hcw := HCW.out
              refine ⟨HI.out.below, HI.out.c5, HI.out.c6, HI.out.c7, fun b hb => hb.elim, HI.out.hC, fun d hd => ?_, ?_⟩
              · rcases List.mem_cons.1 hd with rfl | hd
                · exact ⟨D, rfl, HKd.out, by have := HDD.out; omega, id⟩
                · obtain ⟨D', e, h1, h2, h3⟩ := HI.out.ms d hd
                  exact ⟨D', e, h1, h2, id⟩
              · rw [List.nodup_cons]
                refine ⟨fun hd => ?_, HI.out.nd⟩
                obtain ⟨D', e', h4⟩ := HDL.out _ hd
                have : D = D' := by injection e' with e' _; injection e'
                have := HDD.out
                omega
            case stop =>
              rintro D c own pre W ⟨rfl, hi, rfl⟩ hbs hKd hD
              have HI := Aside0.mk hi
              have HKd := Aside0.mk hKd
              have HDD := Aside0.mk hD
              obtain ⟨rfl, rfl⟩ := Prod.mk.inj (Option.some.inj (show some (false, (0 : Int)) = some (r1, r2) by simpa using H4.out))
              clear hi hKd seq H4
              go_wp2_with fail
              have hw3 := HS3.out
              have hcw := HCW.out
              have HE : CF w C A2 l2.length c2 ({ target := .collected D, args := #[] } :: dl) (fun _ => False) W false 0 := by
                refine ⟨HI.out.below, HI.out.c5, HI.out.c6, HI.out.c7, fun b hb => hb.elim, HI.out.hC, fun d hd => ?_, ?_⟩
                · rcases List.mem_cons.1 hd with rfl | hd
                  · exact ⟨D, rfl, HKd.out, by have := HDD.out; omega, id⟩
                  · obtain ⟨D', e, h1, h2, h3⟩ := HI.out.ms d hd
                    exact ⟨D', e, h1, h2, id⟩
                · rw [List.nodup_cons]
                  refine ⟨fun hd => ?_, HI.out.nd⟩
                  obtain ⟨D', e', h4⟩ := HDL.out _ hd
                  have : D = D' := by injection e' with e' _; injection e'
                  have := HDD.out
                  omega
              exact HE.ends rfl rfl rfl
          · rw [if_neg d1] at H
            obtain ⟨rfl, rfl⟩ := Prod.mk.inj (Option.some.inj H)
            have d1b := decide_eq_false d1
            have hc6 : wr.cell? ⟨C + 1, 0, none⟩ = some (.bool false) := (blk_cell HI.out.c6 0).trans rfl
            have hf6 := blk_frozen HI.out.c6 0
            have hx7 := (Below.heap_setCell wr ⟨C + 1, 0, none⟩ (.bool true) (C + 1 + 1) (by simp)).trans HI.out.c7
            have hc7 : (wr.setCell ⟨C + 1, 0, none⟩ (.bool true)).cell? ⟨C + 1 + 1, 0, none⟩ = some (.int .i64 0) := (blk_cell hx7 0).trans rfl
            have hf7 := blk_frozen hx7 0
            have HE := Aside0.mk (HI.out.put true 0)
            clear H d1 hx7 HI
            go_wp2_with fail
            exact HE.out.ends rfl rfl rfl
    | false =>
      rw [if_neg (by simp)] at HG
      obtain ⟨rfl, rfl⟩ := Prod.mk.inj (Option.some.inj HG.out)
      clear HG
      go_wp2_with (first | (go_at_call 37; refine (maze_asks.calls _ _ _ _ HE.out).mono ?_; rintro e2 w2 ⟨rfl, hd2⟩; have HI1 := Aside0.mk (HI0.out.next hd2.below); have hc5 : w2.cell? ⟨w.heap.size, 0, none⟩ = some (.slice A2 l2.length c2) := (blk_cell (HI0.out.next hd2.below).c5 0).trans rfl; clear hd2)  | (go_at_call 41; refine (maze_fits.calls _ _ _ _ _ _ (Kd.C_below HR.out HI1.out.below) HC.out HT.out).mono ?_; rintro e2 w3 ⟨rfl, hb3⟩; have hI3 := HI1.out.next hb3; have HI3 := Aside0.mk hI3; have hc53 : w3.cell? ⟨w.heap.size, 0, none⟩ = some (.slice A2 l2.length c2) := (blk_cell hI3.c5 0).trans rfl;  have hc6 : w3.cell? ⟨w.heap.size + 1, 0, none⟩ = some (.bool false) := (blk_cell hI3.c6 0).trans rfl; have hf6 := blk_frozen hI3.c6 0; have hx7 := (Below.heap_setCell w3 ⟨w.heap.size + 1, 0, none⟩ (.bool false) (w.heap.size + 1 + 1) (by simp)).trans hI3.c7; have hc7 : (w3.setCell ⟨w.heap.size + 1, 0, none⟩ (.bool false)).cell? ⟨w.heap.size + 1 + 1, 0, none⟩ = some (.int .i64 0) := (blk_cell hx7 0).trans rfl; have hf7 := blk_frozen hx7 0; clear hb3 hI3 hx7))
      exact (HI3.out.put false 2).ends rfl rfl rfl
  · rw [if_neg d] at H
    obtain ⟨rfl, rfl⟩ := Prod.mk.inj (Option.some.inj H.out)
    have d' : (e == 0) = false := by simp [d]
    have HI0 := Aside0.mk (CF.start w A2 l2.length c2)
    clear H
    go_wp2_with ((go_at_call 37; refine (maze_asks.calls _ _ _ _ HE.out).mono ?_; rintro e2 w2 ⟨rfl, hd2⟩; have hI1 := HI0.out.next hd2.below; have HI1 := Aside0.mk hI1;  have hc6 : w2.cell? ⟨w.heap.size + 1, 0, none⟩ = some (.bool false) := (blk_cell hI1.c6 0).trans rfl; have hf6 := blk_frozen hI1.c6 0; have hx7 := (Below.heap_setCell w2 ⟨w.heap.size + 1, 0, none⟩ (.bool false) (w.heap.size + 1 + 1) (by simp)).trans hI1.c7; have hc7 : (w2.setCell ⟨w.heap.size + 1, 0, none⟩ (.bool false)).cell? ⟨w.heap.size + 1 + 1, 0, none⟩ = some (.int .i64 0) := (blk_cell hx7 0).trans rfl; have hf7 := blk_frozen hx7 0; clear hd2 hI1 hx7))
    exact (HI1.out.put false e).ends rfl rfl rfl
end Go.Proofs.Ytgbjbgdnldklpaa.Q
end
/-! Part QLaw10Awake -/
section
-- Written by xprint.py, a program of this session's, over the kit's print. Lean checks it.
namespace Go.Proofs.Ytgbjbgdnldklpaa.Q
open Go.RowKit Go.Proofs.YtgbjbgdnldklpaaW.PrintWords Go.Proofs.YtgbjbgdnldklpaaW.PrintLast Go.Proofs.YtgbjbgdnldklpaaW.PrintMore
attribute [local go_sem] max2_int min2_int max_two min_two max_three min_three max_four min_four
set_option linter.unusedVariables false
set_option linter.unusedSimpArgs false

/-! ### mizmazelaw10_awake: function 14 -/
def mizmazelaw10_awake.f (k : Nat)  : Option (Bool) := (maze_Mazes.f k 2 1).bind fun bt101 => ((maze_Check.f k 2 2 (([0, 1] : List Int))).bind fun bt107 => ((maze_Check.f k 2 2 (([0] : List Int))).bind fun bt112 => (if bt101.2.2 = 0 then (if bt107.2 = 0 then (if bt112.2 = 0 then (if bt101.1 = 2 then (if bt101.2.1 = 1 then (if bt107.1 = true then (some (!bt112.1)) else (none)) else (none)) else (none)) else (none)) else (none)) else (none))))
theorem mizmazelaw10_awake.mono : ∀ k, LeO (mizmazelaw10_awake.f k ) (mizmazelaw10_awake.f (k + 1) ) := by
  intro  k
  unfold mizmazelaw10_awake.f
  repeat' first
      | (with_reducible exact maze_Check.mono _ _ _ _)
      | (with_reducible exact maze_Mazes.mono _ _ _)
      | (with_reducible exact LeO.refl _)
      | (with_reducible exact LeO.none _)
      | (with_reducible refine LeO.ite ?_ ?_)
      | (with_reducible refine LeO.bind ?_ (fun _ => ?_))
      | exact maze_Check.mono _ _ _ _
      | exact maze_Mazes.mono _ _ _
      | exact LeO.none _
      | refine LeO.ite ?_ ?_
      | refine LeO.bind ?_ (fun _ => ?_)
set_option maxHeartbeats 8000000 in
set_option maxRecDepth 100000 in
theorem mizmazelaw10_awake.calls (k : Nat)  (r : Bool) (w : World) (h : mizmazelaw10_awake.f k  = some r) :
    Calls Try.prog 14 #[] w fun e w' => e = .returned (.bool r) ∧ Below w.heap.size w w' := by
  have HB := Aside0.mk (Below.refl w.heap.size w)
  have H : ((maze_Mazes.f k 2 1).bind fun bt101 => ((maze_Check.f k 2 2 (([0, 1] : List Int))).bind fun bt107 => ((maze_Check.f k 2 2 (([0] : List Int))).bind fun bt112 => (if bt101.2.2 = 0 then (if bt107.2 = 0 then (if bt112.2 = 0 then (if bt101.1 = 2 then (if bt101.2.1 = 1 then (if bt107.1 = true then (some (!bt112.1)) else (none)) else (none)) else (none)) else (none)) else (none)) else (none))))) = some r := h
  clear h
  replace H := Option.bind_eq_some_iff.mp H
  obtain ⟨⟨t101, t102, t103⟩, A10, H⟩ := H
  replace H : ((maze_Check.f k 2 2 (([0, 1] : List Int))).bind fun bt107 => ((maze_Check.f k 2 2 (([0] : List Int))).bind fun bt112 => (if t103 = 0 then (if bt107.2 = 0 then (if bt112.2 = 0 then (if t101 = 2 then (if t102 = 1 then (if bt107.1 = true then (some (!bt112.1)) else (none)) else (none)) else (none)) else (none)) else (none)) else (none)))) = some r := H
  have A1 := Aside0.mk A10
  clear A10
  obtain ⟨y104, hy104⟩ : ∃ y_ : List Int, y_ = (([0, 1] : List Int)) := ⟨_, rfl⟩
  replace H : ((maze_Check.f k 2 2 y104).bind fun bt107 => ((maze_Check.f k 2 2 (([0] : List Int))).bind fun bt112 => (if t103 = 0 then (if bt107.2 = 0 then (if bt112.2 = 0 then (if t101 = 2 then (if t102 = 1 then (if bt107.1 = true then (some (!bt112.1)) else (none)) else (none)) else (none)) else (none)) else (none)) else (none)))) = some r := by first | (rw [hy104]; with_reducible exact H) | (have H2_ := (Option.bind_some _ _).symm.trans H; rw [hy104]; with_reducible exact H2_) | (have H2_ := (Option.bind_some _ _).symm.trans H; with_reducible exact H2_) | with_reducible exact H | (rw [hy104]; exact H) | exact H
  have Ny104 := Aside0.mk hy104
  clear hy104
  replace H := Option.bind_eq_some_iff.mp H
  obtain ⟨⟨t107, t108⟩, A20, H⟩ := H
  replace H : ((maze_Check.f k 2 2 (([0] : List Int))).bind fun bt112 => (if t103 = 0 then (if t108 = 0 then (if bt112.2 = 0 then (if t101 = 2 then (if t102 = 1 then (if t107 = true then (some (!bt112.1)) else (none)) else (none)) else (none)) else (none)) else (none)) else (none))) = some r := H
  have A2 := Aside0.mk A20
  clear A20
  obtain ⟨y109, hy109⟩ : ∃ y_ : List Int, y_ = (([0] : List Int)) := ⟨_, rfl⟩
  replace H : ((maze_Check.f k 2 2 y109).bind fun bt112 => (if t103 = 0 then (if t108 = 0 then (if bt112.2 = 0 then (if t101 = 2 then (if t102 = 1 then (if t107 = true then (some (!bt112.1)) else (none)) else (none)) else (none)) else (none)) else (none)) else (none))) = some r := by first | (rw [hy109]; with_reducible exact H) | (have H2_ := (Option.bind_some _ _).symm.trans H; rw [hy109]; with_reducible exact H2_) | (have H2_ := (Option.bind_some _ _).symm.trans H; with_reducible exact H2_) | with_reducible exact H | (rw [hy109]; exact H) | exact H
  have Ny109 := Aside0.mk hy109
  clear hy109
  replace H := Option.bind_eq_some_iff.mp H
  obtain ⟨⟨t112, t113⟩, A30, H⟩ := H
  replace H : (if t103 = 0 then (if t108 = 0 then (if t113 = 0 then (if t101 = 2 then (if t102 = 1 then (if t107 = true then (some (!t112)) else (none)) else (none)) else (none)) else (none)) else (none)) else (none)) = some r := H
  have A3 := Aside0.mk A30
  clear A30
  by_cases c4 : t103 = 0
  · rw [if_pos c4] at H
    have c4b0 : (t103 == 0) = true := beq_iff_eq.mpr c4
    have c4b1 : (t103 != 0) = false := bne_eq_false_iff_eq.mpr c4
    clear c4
    by_cases c5 : t108 = 0
    · rw [if_pos c5] at H
      have c5b0 : (t108 == 0) = true := beq_iff_eq.mpr c5
      have c5b1 : (t108 != 0) = false := bne_eq_false_iff_eq.mpr c5
      clear c5
      by_cases c6 : t113 = 0
      · rw [if_pos c6] at H
        have c6b0 : (t113 == 0) = true := beq_iff_eq.mpr c6
        have c6b1 : (t113 != 0) = false := bne_eq_false_iff_eq.mpr c6
        clear c6
        by_cases c7 : t101 = 2
        · rw [if_pos c7] at H
          have c7b0 : (t101 == 2) = true := beq_iff_eq.mpr c7
          have c7b1 : (t101 != 2) = false := bne_eq_false_iff_eq.mpr c7
          clear c7
          by_cases c8 : t102 = 1
          · rw [if_pos c8] at H
            have c8b0 : (t102 == 1) = true := beq_iff_eq.mpr c8
            have c8b1 : (t102 != 1) = false := bne_eq_false_iff_eq.mpr c8
            clear c8
            by_cases c9 : t107 = true
            · subst c9
              have H1 : (some (!t112)) = some r := by rw [if_pos rfl] at H; exact H
              clear H
              have H := H1
              clear H1
              obtain rfl := Option.some.inj H
              go_enter Try.func14, Try.ntmps14
              go_wp2_with (first | ((with_reducible refine gate_callee (f := 12) rfl ?_); refine goesL_ (some 9) rfl rfl Try.func12 (by kernel_rfl) rfl #[.int .i64 2, .int .i64 1] rfl (by (try simp only [List.map_toArray, List.map_cons, List.map_nil]); first | done | rfl | (simp only [List.length_drop, List.length_take]; rfl)) ?_; (with_reducible refine (maze_Mazes.calls k 2 1 t101 t102 t103 _ A1.out).mono ?_); rintro e w10 ⟨rfl, hb⟩; refine ⟨_, rfl, ?_⟩; have n0_ := Aside0.mk (below_step (by repeat (first | (with_reducible first | exact HB.out | apply below_alloc | apply pw_below_drewN | apply below_drew1) | exact HB.out)) hb); clear HB; have HB := n0_; clear n0_; (try clear hb); (try clear hb2); (try clear hk); (try clear hi)) | ((with_reducible refine gate_dst (N := 14) rfl ?_); refine Kd.R_lit (Kd.int .i64) _ 3 ?hg (N := 14) ?hd (xs := ([0, 1] : List Int)) (inner := [.int .i64 0, .int .i64 1]) (ok := fun _ => True) (okp := fun _ => True) ?hr ?hp (fun _ hk => hk) trivial (Below.refl _ _) (Nat.le_refl _) (by simp) ?_; (case hd => rfl); (case hg => rfl); (case hr => first | (go_simp; done) | (go_simp; rfl)); (case hp => exact (Reps.one (show Kd.M (Kd.int .i64) _ _ _ 0 [.int .i64 0] from rfl) (Reps.one (show Kd.M (Kd.int .i64) _ _ _ 1 [.int .i64 1] from rfl) (Reps.none _ _)))); intro v105 w11 ho12 hb hg_ hnew_; clear hg_ hnew_; (first | rw [← Ny104.out] at ho12 | (simp only [Int.reduceToNat] at ho12; rw [← Ny104.out] at ho12)); have n0_ := Aside0.mk (Kd.R_lower ho12 (below_size (by repeat (first | (with_reducible first | exact HB.out | apply below_alloc | apply pw_below_drewN | apply below_drew1) | exact HB.out)))); have n1_ := Aside0.mk (below_step (by repeat (first | (with_reducible first | exact HB.out | apply below_alloc | apply pw_below_drewN | apply below_drew1) | exact HB.out)) hb); clear HB; have HO106 := n0_; have HB := n1_; clear n0_ n1_; clear hb ho12; obtain ⟨Ao13, co13, eo13⟩ := Kd.R_slice HO106.out; subst eo13) | ((with_reducible refine gate_callee (f := 18) rfl ?_); refine goesL_ (some 15) rfl rfl Try.func18 (by kernel_rfl) rfl #[.int .i64 2, .int .i64 2, .slice Ao13 y104.length co13] rfl (by (try simp only [List.map_toArray, List.map_cons, List.map_nil]); first | done | rfl | (simp only [List.length_drop, List.length_take]; rfl)) ?_; (with_reducible refine (maze_Check.calls k 2 2 _ _ y104 true t108 _ ?side1 ?side2 A2.out).mono ?_); (case side1 => repeat (first | exact (Kd.R_reads' HO106.out).2.2 | (with_reducible refine Kd.C_alloc ?_ _) | (with_reducible refine Kd.C_drewN ?_ _) | (with_reducible refine Kd.C_drew ?_))); (case side2 => exact (Kd.R_reads' HO106.out).2.1); rintro e w14 ⟨rfl, hb⟩; refine ⟨_, rfl, ?_⟩; have n0_ := Aside0.mk (Kd.R_below (by (with_reducible repeat (first | apply Kd.R_alloc | apply Kd.R_drewN | apply Kd.R_drew)); exact HO106.out) hb); have n1_ := Aside0.mk (below_step (by repeat (first | (with_reducible first | exact HB.out | apply below_alloc | apply pw_below_drewN | apply below_drew1) | exact HB.out)) hb); clear HO106; clear HB; have HO106 := n0_; have HB := n1_; clear n0_ n1_; (try clear hb); (try clear hb2); (try clear hk); (try clear hi)) | ((with_reducible refine gate_dst (N := 19) rfl ?_); refine Kd.R_lit (Kd.int .i64) _ 3 ?hg (N := 19) ?hd (xs := ([0] : List Int)) (inner := [.int .i64 0]) (ok := fun _ => True) (okp := fun _ => True) ?hr ?hp (fun _ hk => hk) trivial (Below.refl _ _) (Nat.le_refl _) (by simp) ?_; (case hd => rfl); (case hg => rfl); (case hr => first | (go_simp; done) | (go_simp; rfl)); (case hp => exact (Reps.one (show Kd.M (Kd.int .i64) _ _ _ 0 [.int .i64 0] from rfl) (Reps.none _ _))); intro v110 w15 ho16 hb hg_ hnew_; clear hg_ hnew_; (first | rw [← Ny109.out] at ho16 | (simp only [Int.reduceToNat] at ho16; rw [← Ny109.out] at ho16)); have n0_ := Aside0.mk (Kd.R_elder' (by (with_reducible repeat (first | apply Kd.R_alloc | apply Kd.R_drewN | apply Kd.R_drew)); exact HO106.out) (Kd.R_base ho16) hb); have n1_ := Aside0.mk (Kd.R_lower (Kd.R_new' ho16 (Kd.R_lt (by (with_reducible repeat (first | apply Kd.R_alloc | apply Kd.R_drewN | apply Kd.R_drew)); exact HO106.out))) (below_size (by repeat (first | (with_reducible first | exact HB.out | apply below_alloc | apply pw_below_drewN | apply below_drew1) | exact HB.out)))); have n2_ := Aside0.mk (below_step (by repeat (first | (with_reducible first | exact HB.out | apply below_alloc | apply pw_below_drewN | apply below_drew1) | exact HB.out)) hb); clear HO106; clear HB; have HO106 := n0_; have HO111 := n1_; have HB := n2_; clear n0_ n1_ n2_; clear hb ho16; obtain ⟨Ao17, co17, eo17⟩ := Kd.R_slice HO111.out; subst eo17) | ((with_reducible refine gate_callee (f := 18) rfl ?_); refine goesL_ (some 20) rfl rfl Try.func18 (by kernel_rfl) rfl #[.int .i64 2, .int .i64 2, .slice Ao17 y109.length co17] rfl (by (try simp only [List.map_toArray, List.map_cons, List.map_nil]); first | done | rfl | (simp only [List.length_drop, List.length_take]; rfl)) ?_; (with_reducible refine (maze_Check.calls k 2 2 _ _ y109 t112 t113 _ ?side1 ?side2 A3.out).mono ?_); (case side1 => repeat (first | exact (Kd.R_reads' HO111.out).2.2 | (with_reducible refine Kd.C_alloc ?_ _) | (with_reducible refine Kd.C_drewN ?_ _) | (with_reducible refine Kd.C_drew ?_))); (case side2 => exact (Kd.R_reads' HO111.out).2.1); rintro e w18 ⟨rfl, hb⟩; refine ⟨_, rfl, ?_⟩; have n0_ := Aside0.mk (Kd.R_below (by (with_reducible repeat (first | apply Kd.R_alloc | apply Kd.R_drewN | apply Kd.R_drew)); exact HO106.out) hb); have n1_ := Aside0.mk (Kd.R_below (by (with_reducible repeat (first | apply Kd.R_alloc | apply Kd.R_drewN | apply Kd.R_drew)); exact HO111.out) hb); have n2_ := Aside0.mk (below_step (by repeat (first | (with_reducible first | exact HB.out | apply below_alloc | apply pw_below_drewN | apply below_drew1) | exact HB.out)) hb); clear HO106; clear HO111; clear HB; have HO106 := n0_; have HO111 := n1_; have HB := n2_; clear n0_ n1_ n2_; (try clear hb); (try clear hb2); (try clear hk); (try clear hi)))
              go_ret
              exact ⟨by first | rfl | (simp [errW_none, errW_some] <;> rfl) | (simp [*, errW_none, errW_some] <;> rfl), by repeat (first | (with_reducible first | exact HB.out | apply below_alloc | apply pw_below_drewN | apply below_drew1) | exact HB.out)⟩
            · replace c9 := Bool.eq_false_iff.mpr c9
              subst c9
              have H1 : (none) = some r := by rw [if_neg (show ¬ (false = true) by decide)] at H; exact H
              clear H
              have H := H1
              clear H1
              exact absurd H (by simp)
          · rw [if_neg c8] at H
            exact absurd H (by simp)
        · rw [if_neg c7] at H
          exact absurd H (by simp)
      · rw [if_neg c6] at H
        exact absurd H (by simp)
    · rw [if_neg c5] at H
      exact absurd H (by simp)
  · rw [if_neg c4] at H
    exact absurd H (by simp)

end Go.Proofs.Ytgbjbgdnldklpaa.Q
end
/-! Part QLaw10MazeBack -/
section
-- Written by xprint.py, a program of this session's, over the kit's print. Lean checks it.
namespace Go.Proofs.Ytgbjbgdnldklpaa.Q
open Go.RowKit Go.Proofs.YtgbjbgdnldklpaaW.PrintWords Go.Proofs.YtgbjbgdnldklpaaW.PrintLast Go.Proofs.YtgbjbgdnldklpaaW.PrintMore
attribute [local go_sem] max2_int min2_int max_two min_two max_three min_three max_four min_four
set_option linter.unusedVariables false
set_option linter.unusedSimpArgs false

/-! ### mizmazelaw10_MazeBack: function 6 -/
mutual
def mizmazelaw10_MazeBack.j0 : Nat → Int → List Int → Bool → List (List (S44)) → Option (Bool)
  | 0, _, _, _, _ => none
  | k + 1, x1, x2, x35, x205000 => if x35 = true then ((mizmazelaw10_awake.f k).bind fun t209 => (some t209)) else ((maze_Walk.f k x205000 x1 x2).bind fun bt210 => (if bt210.2 = 0 then (if (bt210.1.length : Int) = (wrap64 ((x2.length : Int) + 1)) then (if 0 ≤ (x2.length : Int) then (if ((x2.length : Int) : Int).toNat ≤ 35184372088832 then (mizmazelaw10_MazeBack.l0 k x2 bt210.1 (List.replicate ((x2.length : Int) : Int).toNat 0) 0 x205000) else (none)) else (none)) else (some false)) else ((mizmazelaw10_awake.f k).bind fun t214 => (some t214))))
def mizmazelaw10_MazeBack.l0 : Nat → List Int → List Int → List Int → Int → List (List (S44)) → Option (Bool)
  | 0, _, _, _, _, _ => none
  | k + 1, x2, x7, x9, x10, x205000 => if x10 < (x2.length : Int) then (if 0 ≤ x10 then (if x10 < (x7.length : Int) then (if (rd x7 x10) < 0 then (some false) else (if (rd x7 x10) ≥ (x205000.length : Int) then (some false) else (if 0 ≤ (rd x7 x10) then (if (rd x7 x10) < (x205000.length : Int) then (if 0 ≤ (rd x2 x10) then (if (rd x2 x10) < ((rd_L4 x205000 (rd x7 x10)).length : Int) then (if 0 ≤ (wrap64 ((wrap64 ((x2.length : Int) - 1)) - x10)) then (if (wrap64 ((wrap64 ((x2.length : Int) - 1)) - x10)) < (x9.length : Int) then (mizmazelaw10_MazeBack.l0 k x2 x7 (x9.set ((wrap64 ((wrap64 ((x2.length : Int) - 1)) - x10)) : Int).toNat ((rd_T44 (rd_L4 x205000 (rd x7 x10)) (rd x2 x10)).f1)) (wrap64 (x10 + 1)) x205000) else (none)) else (none)) else (none)) else (none)) else (none)) else (none)))) else (none)) else (none)) else (if 0 ≤ (wrap64 ((x7.length : Int) - 1)) then (if (wrap64 ((x7.length : Int) - 1)) < (x7.length : Int) then ((maze_Walk.f k x205000 (rd x7 (wrap64 ((x7.length : Int) - 1))) x9).bind fun bt226 => (if bt226.2 = 0 then (mizmazelaw10_MazeBack.j2 k x7 bt226.1 ((bt226.1.length : Int) != (x7.length : Int))) else (mizmazelaw10_MazeBack.j2 k x7 bt226.1 true))) else (none)) else (none))
def mizmazelaw10_MazeBack.j2 : Nat → List Int → List Int → Bool → Option (Bool)
  | 0, _, _, _ => none
  | k + 1, x7, x11, x119 => if x119 = true then (some false) else (mizmazelaw10_MazeBack.l1 k x7 x11 0)
def mizmazelaw10_MazeBack.l1 : Nat → List Int → List Int → Int → Option (Bool)
  | 0, _, _, _ => none
  | k + 1, x7, x11, x13 => if x13 < (x7.length : Int) then (if 0 ≤ (wrap64 ((wrap64 ((x7.length : Int) - 1)) - x13)) then (if (wrap64 ((wrap64 ((x7.length : Int) - 1)) - x13)) < (x11.length : Int) then (if 0 ≤ x13 then (if (rd x11 (wrap64 ((wrap64 ((x7.length : Int) - 1)) - x13))) = (rd x7 x13) then (mizmazelaw10_MazeBack.l1 k x7 x11 (wrap64 (x13 + 1))) else (some false)) else (none)) else (none)) else (none)) else ((mizmazelaw10_awake.f k).bind fun t232 => (some t232))
end
def mizmazelaw10_MazeBack.f (k : Nat) (l0_0 : List (List (S44))) (a1 : Int) (l2 : List Int) : Option (Bool) := (mizmazelaw10_Wide.f k l0_0).bind fun t205 => (if t205 = true then (mizmazelaw10_MazeBack.j0 k a1 l2 true l0_0) else (if (l2.length : Int) > 500 then (mizmazelaw10_MazeBack.j0 k a1 l2 true l0_0) else ((mizmazeref10_Valid.f k l0_0).bind fun t206 => (if t206 = true then (if 0 < (l0_0.length : Int) then ((mizmazeref10_Word.f k ((rd_L4 l0_0 0).length : Int) l2).bind fun t208 => (mizmazelaw10_MazeBack.j0 k a1 l2 (!t208) l0_0)) else (none)) else (mizmazelaw10_MazeBack.j0 k a1 l2 true l0_0)))))
theorem mizmazelaw10_MazeBack.mono_l : ∀ k, (∀ y0 y1 y2 y3, LeO (mizmazelaw10_MazeBack.j0 k y0 y1 y2 y3) (mizmazelaw10_MazeBack.j0 (k + 1) y0 y1 y2 y3)) ∧ (∀ y0 y1 y2 y3 y4, LeO (mizmazelaw10_MazeBack.l0 k y0 y1 y2 y3 y4) (mizmazelaw10_MazeBack.l0 (k + 1) y0 y1 y2 y3 y4)) ∧ (∀ y0 y1 y2, LeO (mizmazelaw10_MazeBack.j2 k y0 y1 y2) (mizmazelaw10_MazeBack.j2 (k + 1) y0 y1 y2)) ∧ (∀ y0 y1 y2, LeO (mizmazelaw10_MazeBack.l1 k y0 y1 y2) (mizmazelaw10_MazeBack.l1 (k + 1) y0 y1 y2))
  | 0 => ⟨fun _ _ _ _ r h => by simp [mizmazelaw10_MazeBack.j0] at h, fun _ _ _ _ _ r h => by simp [mizmazelaw10_MazeBack.l0] at h, fun _ _ _ r h => by simp [mizmazelaw10_MazeBack.j2] at h, fun _ _ _ r h => by simp [mizmazelaw10_MazeBack.l1] at h⟩
  | k + 1 => by
    obtain ⟨ih0, ih1, ih2, ih3⟩ := mizmazelaw10_MazeBack.mono_l k
    refine ⟨?_, ?_, ?_, ?_⟩
    · intro y0 y1 y2 y3
      unfold mizmazelaw10_MazeBack.j0
      repeat' first
      | (with_reducible exact ih0 _ _ _ _)
      | (with_reducible exact ih1 _ _ _ _ _)
      | (with_reducible exact ih2 _ _ _)
      | (with_reducible exact ih3 _ _ _)
      | (with_reducible exact maze_Walk.mono _ _ _ _)
      | (with_reducible exact mizmazelaw10_Wide.mono _ _)
      | (with_reducible exact mizmazelaw10_awake.mono _)
      | (with_reducible exact mizmazeref10_Valid.mono _ _)
      | (with_reducible exact mizmazeref10_Word.mono _ _ _)
      | (with_reducible exact LeO.refl _)
      | (with_reducible exact LeO.none _)
      | (with_reducible refine LeO.ite ?_ ?_)
      | (with_reducible refine LeO.bind ?_ (fun _ => ?_))
      | exact ih0 _ _ _ _
      | exact ih1 _ _ _ _ _
      | exact ih2 _ _ _
      | exact ih3 _ _ _
      | exact maze_Walk.mono _ _ _ _
      | exact mizmazelaw10_Wide.mono _ _
      | exact mizmazelaw10_awake.mono _
      | exact mizmazeref10_Valid.mono _ _
      | exact mizmazeref10_Word.mono _ _ _
      | exact LeO.none _
      | refine LeO.ite ?_ ?_
      | refine LeO.bind ?_ (fun _ => ?_)
    · intro y0 y1 y2 y3 y4
      unfold mizmazelaw10_MazeBack.l0
      repeat' first
      | (with_reducible exact ih0 _ _ _ _)
      | (with_reducible exact ih1 _ _ _ _ _)
      | (with_reducible exact ih2 _ _ _)
      | (with_reducible exact ih3 _ _ _)
      | (with_reducible exact maze_Walk.mono _ _ _ _)
      | (with_reducible exact mizmazelaw10_Wide.mono _ _)
      | (with_reducible exact mizmazelaw10_awake.mono _)
      | (with_reducible exact mizmazeref10_Valid.mono _ _)
      | (with_reducible exact mizmazeref10_Word.mono _ _ _)
      | (with_reducible exact LeO.refl _)
      | (with_reducible exact LeO.none _)
      | (with_reducible refine LeO.ite ?_ ?_)
      | (with_reducible refine LeO.bind ?_ (fun _ => ?_))
      | exact ih0 _ _ _ _
      | exact ih1 _ _ _ _ _
      | exact ih2 _ _ _
      | exact ih3 _ _ _
      | exact maze_Walk.mono _ _ _ _
      | exact mizmazelaw10_Wide.mono _ _
      | exact mizmazelaw10_awake.mono _
      | exact mizmazeref10_Valid.mono _ _
      | exact mizmazeref10_Word.mono _ _ _
      | exact LeO.none _
      | refine LeO.ite ?_ ?_
      | refine LeO.bind ?_ (fun _ => ?_)
    · intro y0 y1 y2
      unfold mizmazelaw10_MazeBack.j2
      repeat' first
      | (with_reducible exact ih0 _ _ _ _)
      | (with_reducible exact ih1 _ _ _ _ _)
      | (with_reducible exact ih2 _ _ _)
      | (with_reducible exact ih3 _ _ _)
      | (with_reducible exact maze_Walk.mono _ _ _ _)
      | (with_reducible exact mizmazelaw10_Wide.mono _ _)
      | (with_reducible exact mizmazelaw10_awake.mono _)
      | (with_reducible exact mizmazeref10_Valid.mono _ _)
      | (with_reducible exact mizmazeref10_Word.mono _ _ _)
      | (with_reducible exact LeO.refl _)
      | (with_reducible exact LeO.none _)
      | (with_reducible refine LeO.ite ?_ ?_)
      | (with_reducible refine LeO.bind ?_ (fun _ => ?_))
      | exact ih0 _ _ _ _
      | exact ih1 _ _ _ _ _
      | exact ih2 _ _ _
      | exact ih3 _ _ _
      | exact maze_Walk.mono _ _ _ _
      | exact mizmazelaw10_Wide.mono _ _
      | exact mizmazelaw10_awake.mono _
      | exact mizmazeref10_Valid.mono _ _
      | exact mizmazeref10_Word.mono _ _ _
      | exact LeO.none _
      | refine LeO.ite ?_ ?_
      | refine LeO.bind ?_ (fun _ => ?_)
    · intro y0 y1 y2
      unfold mizmazelaw10_MazeBack.l1
      repeat' first
      | (with_reducible exact ih0 _ _ _ _)
      | (with_reducible exact ih1 _ _ _ _ _)
      | (with_reducible exact ih2 _ _ _)
      | (with_reducible exact ih3 _ _ _)
      | (with_reducible exact maze_Walk.mono _ _ _ _)
      | (with_reducible exact mizmazelaw10_Wide.mono _ _)
      | (with_reducible exact mizmazelaw10_awake.mono _)
      | (with_reducible exact mizmazeref10_Valid.mono _ _)
      | (with_reducible exact mizmazeref10_Word.mono _ _ _)
      | (with_reducible exact LeO.refl _)
      | (with_reducible exact LeO.none _)
      | (with_reducible refine LeO.ite ?_ ?_)
      | (with_reducible refine LeO.bind ?_ (fun _ => ?_))
      | exact ih0 _ _ _ _
      | exact ih1 _ _ _ _ _
      | exact ih2 _ _ _
      | exact ih3 _ _ _
      | exact maze_Walk.mono _ _ _ _
      | exact mizmazelaw10_Wide.mono _ _
      | exact mizmazelaw10_awake.mono _
      | exact mizmazeref10_Valid.mono _ _
      | exact mizmazeref10_Word.mono _ _ _
      | exact LeO.none _
      | refine LeO.ite ?_ ?_
      | refine LeO.bind ?_ (fun _ => ?_)
theorem mizmazelaw10_MazeBack.mono : ∀ a0 a1 a2 k, LeO (mizmazelaw10_MazeBack.f k a0 a1 a2) (mizmazelaw10_MazeBack.f (k + 1) a0 a1 a2) := by
  intro a0 a1 a2 k
  obtain ⟨ih0, ih1, ih2, ih3⟩ := mizmazelaw10_MazeBack.mono_l k
  unfold mizmazelaw10_MazeBack.f
  repeat' first
      | (with_reducible exact ih0 _ _ _ _)
      | (with_reducible exact ih1 _ _ _ _ _)
      | (with_reducible exact ih2 _ _ _)
      | (with_reducible exact ih3 _ _ _)
      | (with_reducible exact maze_Walk.mono _ _ _ _)
      | (with_reducible exact mizmazelaw10_Wide.mono _ _)
      | (with_reducible exact mizmazelaw10_awake.mono _)
      | (with_reducible exact mizmazeref10_Valid.mono _ _)
      | (with_reducible exact mizmazeref10_Word.mono _ _ _)
      | (with_reducible exact LeO.refl _)
      | (with_reducible exact LeO.none _)
      | (with_reducible refine LeO.ite ?_ ?_)
      | (with_reducible refine LeO.bind ?_ (fun _ => ?_))
      | exact ih0 _ _ _ _
      | exact ih1 _ _ _ _ _
      | exact ih2 _ _ _
      | exact ih3 _ _ _
      | exact maze_Walk.mono _ _ _ _
      | exact mizmazelaw10_Wide.mono _ _
      | exact mizmazelaw10_awake.mono _
      | exact mizmazeref10_Valid.mono _ _
      | exact mizmazeref10_Word.mono _ _ _
      | exact LeO.none _
      | refine LeO.ite ?_ ?_
      | refine LeO.bind ?_ (fun _ => ?_)
def mizmazelaw10_MazeBack.T12 : Bool × List (List Nat × List Nat) := (true, [([], []), ([], []), ([0, 1], [0, 1]), ([2], [2]), ([3], [3]), ([4], [4]), ([5], [5]), ([5], [5]), ([6, 7, 5], [5, 6, 7]), ([8, 5], [5, 8]), ([5], [5]), ([10, 5], [5, 10]), ([11, 5], [5, 11]), ([9, 12, 5], [5, 9, 12]), ([5, 13], [5, 13])])
def mizmazelaw10_MazeBack.B12 : List Nat := [0, 0, 3, 7, 15, 31, 63, 63, 255, 511, 63, 1087, 3135, 8191, 16383]
theorem mizmazelaw10_MazeBack.tab12 : rtab .any (opsOf Try.f6 12) = mizmazelaw10_MazeBack.T12 := by kernel_rfl
theorem mizmazelaw10_MazeBack.bits12 : waitsOk mizmazelaw10_MazeBack.T12.2 mizmazelaw10_MazeBack.B12 = true := by kernel_rfl
def mizmazelaw10_MazeBack.T14 : Bool × List (List Nat × List Nat) := (true, [([], []), ([], []), ([1], [1]), ([2], [2]), ([], []), ([3, 4], [3, 4]), ([], []), ([6], [6]), ([], []), ([], []), ([8, 9], [8, 9]), ([10], [10]), ([7, 11], [7, 11]), ([12], [12]), ([], []), ([], []), ([14, 15], [14, 15]), ([16], [16]), ([13, 17], [13, 17]), ([18], [18]), ([19], [19]), ([0, 5, 0, 1, 2, 3, 4, 5, 6, 7, 8, 9, 10, 11, 12, 13, 14, 15, 16, 17, 18, 19, 20], [0, 5]), ([21, 20, 0, 1, 2, 3, 4, 5, 6, 7, 8, 9, 10, 11, 12, 13, 14, 15, 16, 17, 18, 19, 20], [20, 21])])
def mizmazelaw10_MazeBack.B14 : List Nat := [0, 0, 2, 6, 0, 30, 0, 64, 0, 0, 768, 1792, 4032, 8128, 0, 0, 49152, 114688, 262080, 524224, 1048512, 2097151, 4194303]
theorem mizmazelaw10_MazeBack.tab14 : rtab .any (opsOf Try.f6 14) = mizmazelaw10_MazeBack.T14 := by kernel_rfl
theorem mizmazelaw10_MazeBack.bits14 : waitsOk mizmazelaw10_MazeBack.T14.2 mizmazelaw10_MazeBack.B14 = true := by kernel_rfl
def mizmazelaw10_MazeBack.T15 : Bool × List (List Nat × List Nat) := (true, [([], []), ([], []), ([], []), ([2], [2]), ([3], [3]), ([1, 4], [1, 4]), ([5], [5]), ([], []), ([0, 6, 7], [0, 6, 7]), ([8], [8]), ([9], [9]), ([9], [9]), ([10, 8, 0, 1, 2, 3, 4, 5, 6, 7, 8, 9, 10], [10]), ([11, 12, 0, 1, 2, 3, 4, 5, 6, 7, 8, 9, 10, 11, 12], [11])])
def mizmazelaw10_MazeBack.B15 : List Nat := [0, 0, 0, 4, 12, 30, 62, 0, 255, 511, 1023, 1023, 2047, 8191]
theorem mizmazelaw10_MazeBack.tab15 : rtab .any (opsOf Try.f6 15) = mizmazelaw10_MazeBack.T15 := by kernel_rfl
theorem mizmazelaw10_MazeBack.bits15 : waitsOk mizmazelaw10_MazeBack.T15.2 mizmazelaw10_MazeBack.B15 = true := by kernel_rfl
def mizmazelaw10_MazeBack.T21 : Bool × List (List Nat × List Nat) := (true, [([], []), ([], []), ([1], [1]), ([2], [2]), ([], []), ([3, 4], [3, 4]), ([0, 5], [0, 5]), ([6], [6]), ([], []), ([], []), ([8, 9], [8, 9]), ([10], [10]), ([7, 11], [7, 11])])
def mizmazelaw10_MazeBack.B21 : List Nat := [0, 0, 2, 6, 0, 30, 63, 127, 0, 0, 768, 1792, 4095]
theorem mizmazelaw10_MazeBack.tab21 : rtab .any (opsOf Try.f6 21) = mizmazelaw10_MazeBack.T21 := by kernel_rfl
theorem mizmazelaw10_MazeBack.bits21 : waitsOk mizmazelaw10_MazeBack.T21.2 mizmazelaw10_MazeBack.B21 = true := by kernel_rfl
set_option maxHeartbeats 8000000 in
set_option maxRecDepth 100000 in
theorem mizmazelaw10_MazeBack.calls (k : Nat) (A0_0 : Option Addr) (c0_0 : Nat) (l0_0 : List (List (S44))) (a1 : Int) (A2 : Option Addr) (c2 : Nat) (l2 : List Int) (r : Bool) (w : World) (hr0_0 : Kd.C (Kd.slice 44 k44) w A0_0 l0_0.length l0_0) (hc0_0 : l0_0.length ≤ c0_0) (hr2 : Kd.C (Kd.int .i64) w A2 l2.length l2) (hc2 : l2.length ≤ c2) (h : mizmazelaw10_MazeBack.f k l0_0 a1 l2 = some r) :
    Calls Try.prog 6 #[.agg #[.slice A0_0 l0_0.length c0_0], .int .i64 a1, .slice A2 l2.length c2] w fun e w' => e = .returned (.bool r) ∧ Below w.heap.size w w' := by
  have hu38 := Try.underlying38
  have HR0_0 := Aside0.mk hr0_0
  have HC0_0 := Aside0.mk hc0_0
  clear hr0_0 hc0_0
  have HR2 := Aside0.mk hr2
  have HC2 := Aside0.mk hc2
  clear hr2 hc2
  have HB := Aside0.mk (Below.refl w.heap.size w)
  have H : ((mizmazelaw10_Wide.f k l0_0).bind fun t205 => (if t205 = true then (mizmazelaw10_MazeBack.j0 k a1 l2 true l0_0) else (if (l2.length : Int) > 500 then (mizmazelaw10_MazeBack.j0 k a1 l2 true l0_0) else ((mizmazeref10_Valid.f k l0_0).bind fun t206 => (if t206 = true then (if 0 < (l0_0.length : Int) then ((mizmazeref10_Word.f k ((rd_L4 l0_0 0).length : Int) l2).bind fun t208 => (mizmazelaw10_MazeBack.j0 k a1 l2 (!t208) l0_0)) else (none)) else (mizmazelaw10_MazeBack.j0 k a1 l2 true l0_0)))))) = some r := h
  clear h
  have HC4 := Aside0.mk H
  clear H
  go_enter Try.func6, Try.ntmps6
  go_upto_region 1 with (first | ((with_reducible refine gate_dst (N := 3) rfl ?_); (try (refine gate_guard (by rfl) ?_; dsimp only)); refine box_event ?hg (N := 3) ?hd (cs := #[.slice A0_0 l0_0.length c0_0]) (t := 38) ?hr ?_; (case hd => rfl); (case hg => rfl); (case hr => first | (go_simp; done) | (go_simp; rfl)); intro gb204 hg w5 hbox hb; have n0_ := Aside0.mk (below_step (by repeat (first | (with_reducible first | exact HB.out | apply below_alloc | apply pw_below_drewN | apply below_drew1) | exact HB.out)) hb); have n1_ := Aside0.mk (hbox); have n2_ := Aside0.mk ((by rw [hg]; exact (below_size (by repeat (first | (with_reducible first | exact HB.out | apply below_alloc | apply pw_below_drewN | apply below_drew1) | exact HB.out))) : w.heap.size ≤ gb204)); have n3_ := Aside0.mk ((by rw [hg]; exact (below_size (by repeat (first | (with_reducible first | exact HB.out | apply below_alloc | apply pw_below_drewN | apply below_drew1) | exact HB.out))) : w.heap.size ≤ gb204)); clear HB; have HB := n0_; have BK204 := n1_; have GW204 := n2_; have GE204 := n3_; clear n0_ n1_ n2_ n3_; clear hb hbox hg))
  (try simp only [Act.put, List.setIfInBounds_toArray, List.set_cons_zero, List.set_cons_succ])
  go_cut [35] (fun v35 wc => ∃ (kq : Nat) (x35_3 : Bool), v35 = .bool x35_3 ∧ Aside0 (mizmazelaw10_MazeBack.j0 kq a1 l2 x35_3 l0_0 = some r) ∧ Aside0 (kq ≤ k) ∧ Aside0 (wc.heap[gb204]? = some (.cells #[(.slice A0_0 l0_0.length c0_0)] 38 (0, 0))) ∧ Aside0 (Below w.heap.size w wc))
  case first =>
    have H := HC4.out
    clear HC4
    replace H := Option.bind_eq_some_iff.mp H
    obtain ⟨t205, A60, H⟩ := H
    replace H : (if t205 = true then (mizmazelaw10_MazeBack.j0 k a1 l2 true l0_0) else (if (l2.length : Int) > 500 then (mizmazelaw10_MazeBack.j0 k a1 l2 true l0_0) else ((mizmazeref10_Valid.f k l0_0).bind fun t206 => (if t206 = true then (if 0 < (l0_0.length : Int) then ((mizmazeref10_Word.f k ((rd_L4 l0_0 0).length : Int) l2).bind fun t208 => (mizmazelaw10_MazeBack.j0 k a1 l2 (!t208) l0_0)) else (none)) else (mizmazelaw10_MazeBack.j0 k a1 l2 true l0_0))))) = some r := H
    have A6 := Aside0.mk A60
    clear A60
    by_cases c7 : t205 = true
    · subst c7
      have H1 : (mizmazelaw10_MazeBack.j0 k a1 l2 true l0_0) = some r := by rw [if_pos rfl] at H; exact H
      clear H
      have H := H1
      clear H1
      have H' := Aside0.mk H
      clear H
      have hcz8_0 : w5.cell? ⟨gb204, 0, none⟩ = some (.slice A0_0 l0_0.length c0_0) := (blk_cell BK204.out 0).trans rfl
      have hfz8_0 := blk_frozen BK204.out 0
      go_wp2_with (first | ((with_reducible refine gate_callee (f := 20) rfl ?_); refine goesL_ (some 15) rfl rfl Try.func20 (by kernel_rfl) rfl #[.agg #[.slice A0_0 l0_0.length c0_0]] rfl (by (try simp only [List.map_toArray, List.map_cons, List.map_nil]); first | done | rfl | (simp only [List.length_drop, List.length_take]; rfl)) ?_; (with_reducible refine (mizmazelaw10_Wide.calls k _ _ l0_0 true _ ?side1 ?side2 A6.out).mono ?_); (case side1 => repeat (first | exact (Kd.C_below HR0_0.out HB.out) | (with_reducible refine Kd.C_alloc ?_ _) | (with_reducible refine Kd.C_drewN ?_ _) | (with_reducible refine Kd.C_drew ?_))); (case side2 => exact HC0_0.out); rintro e w9 ⟨rfl, hb⟩; refine ⟨_, rfl, ?_⟩; have n0_ := Aside0.mk (blk_below (g := gb204) (o := .cells #[.slice A0_0 l0_0.length c0_0] 38 (0, 0)) (by (with_reducible repeat (first | refine blk_drewN ?_ _ | refine blk_drew ?_ | refine blk_alloc ?_ _)); exact BK204.out) hb); have n1_ := Aside0.mk (below_step (by repeat (first | (with_reducible first | exact HB.out | apply below_alloc | apply pw_below_drewN | apply below_drew1 | refine below_set ?_ GE204.out) | exact HB.out)) hb); clear BK204; clear HB; have BK204 := n0_; have HB := n1_; clear n0_ n1_; (try clear hb); (try clear hb2); (try clear hk); (try clear hi)))
      go_meet
      case rel => exact ⟨_, (true), (by first | rfl | (simp; done) | (simp [*]; done)), H', ⟨by first | omega | exact Nat.le_refl _⟩, ⟨by (with_reducible repeat (first | refine blk_drewN ?_ _ | refine blk_drew ?_ | refine blk_alloc ?_ _)); exact BK204.out⟩, ⟨by repeat (first | (with_reducible first | exact HB.out | apply below_alloc | apply pw_below_drewN | apply below_drew1 | refine below_set ?_ GE204.out) | exact HB.out)⟩⟩
    · replace c7 := Bool.eq_false_iff.mpr c7
      subst c7
      have H1 : (if (l2.length : Int) > 500 then (mizmazelaw10_MazeBack.j0 k a1 l2 true l0_0) else ((mizmazeref10_Valid.f k l0_0).bind fun t206 => (if t206 = true then (if 0 < (l0_0.length : Int) then ((mizmazeref10_Word.f k ((rd_L4 l0_0 0).length : Int) l2).bind fun t208 => (mizmazelaw10_MazeBack.j0 k a1 l2 (!t208) l0_0)) else (none)) else (mizmazelaw10_MazeBack.j0 k a1 l2 true l0_0)))) = some r := by rw [if_neg (show ¬ (false = true) by decide)] at H; exact H
      clear H
      have H := H1
      clear H1
      by_cases c10 : (l2.length : Int) > 500
      · rw [if_pos c10] at H
        have c10b0 : decide (500 < (l2.length : Int)) = true := decide_eq_true c10
        have c10b1 : decide (500 < l2.length) = true := decide_eq_true (by omega)
        clear c10
        (first | rw [c10b0] | (simp only [i64_w, i32_w]; rw [c10b0]) | skip)
        have H' := Aside0.mk H
        clear H
        have hcz11_0 : w5.cell? ⟨gb204, 0, none⟩ = some (.slice A0_0 l0_0.length c0_0) := (blk_cell BK204.out 0).trans rfl
        have hfz11_0 := blk_frozen BK204.out 0
        go_wp2_with (first | ((with_reducible refine gate_callee (f := 20) rfl ?_); refine goesL_ (some 15) rfl rfl Try.func20 (by kernel_rfl) rfl #[.agg #[.slice A0_0 l0_0.length c0_0]] rfl (by (try simp only [List.map_toArray, List.map_cons, List.map_nil]); first | done | rfl | (simp only [List.length_drop, List.length_take]; rfl)) ?_; (with_reducible refine (mizmazelaw10_Wide.calls k _ _ l0_0 false _ ?side1 ?side2 A6.out).mono ?_); (case side1 => repeat (first | exact (Kd.C_below HR0_0.out HB.out) | (with_reducible refine Kd.C_alloc ?_ _) | (with_reducible refine Kd.C_drewN ?_ _) | (with_reducible refine Kd.C_drew ?_))); (case side2 => exact HC0_0.out); rintro e w12 ⟨rfl, hb⟩; refine ⟨_, rfl, ?_⟩; have n0_ := Aside0.mk (blk_below (g := gb204) (o := .cells #[.slice A0_0 l0_0.length c0_0] 38 (0, 0)) (by (with_reducible repeat (first | refine blk_drewN ?_ _ | refine blk_drew ?_ | refine blk_alloc ?_ _)); exact BK204.out) hb); have n1_ := Aside0.mk (below_step (by repeat (first | (with_reducible first | exact HB.out | apply below_alloc | apply pw_below_drewN | apply below_drew1 | refine below_set ?_ GE204.out) | exact HB.out)) hb); clear BK204; clear HB; have BK204 := n0_; have HB := n1_; clear n0_ n1_; (try clear hb); (try clear hb2); (try clear hk); (try clear hi)))
        go_meet
        case rel => exact ⟨_, (true), (by first | rfl | (simp; done) | (simp [*]; done)), H', ⟨by first | omega | exact Nat.le_refl _⟩, ⟨by (with_reducible repeat (first | refine blk_drewN ?_ _ | refine blk_drew ?_ | refine blk_alloc ?_ _)); exact BK204.out⟩, ⟨by repeat (first | (with_reducible first | exact HB.out | apply below_alloc | apply pw_below_drewN | apply below_drew1 | refine below_set ?_ GE204.out) | exact HB.out)⟩⟩
      · rw [if_neg c10] at H
        have c10b0 : decide (500 < (l2.length : Int)) = false := decide_eq_false c10
        have c10b1 : decide (500 < l2.length) = false := decide_eq_false (by omega)
        clear c10
        (first | rw [c10b0] | (simp only [i64_w, i32_w]; rw [c10b0]) | skip)
        replace H := Option.bind_eq_some_iff.mp H
        obtain ⟨t206, A130, H⟩ := H
        replace H : (if t206 = true then (if 0 < (l0_0.length : Int) then ((mizmazeref10_Word.f k ((rd_L4 l0_0 0).length : Int) l2).bind fun t208 => (mizmazelaw10_MazeBack.j0 k a1 l2 (!t208) l0_0)) else (none)) else (mizmazelaw10_MazeBack.j0 k a1 l2 true l0_0)) = some r := H
        have A13 := Aside0.mk A130
        clear A130
        by_cases c14 : t206 = true
        · subst c14
          have H1 : (if 0 < (l0_0.length : Int) then ((mizmazeref10_Word.f k ((rd_L4 l0_0 0).length : Int) l2).bind fun t208 => (mizmazelaw10_MazeBack.j0 k a1 l2 (!t208) l0_0)) else (none)) = some r := by rw [if_pos rfl] at H; exact H
          clear H
          have H := H1
          clear H1
          by_cases c15 : 0 < (l0_0.length : Int)
          · rw [if_pos c15] at H
            have c15b0 : decide (0 < (l0_0.length : Int)) = true := decide_eq_true c15
            have c15b1 : decide (0 < l0_0.length) = true := decide_eq_true (by omega)
            clear c15
            replace H := Option.bind_eq_some_iff.mp H
            obtain ⟨t208, A160, H⟩ := H
            replace H : (mizmazelaw10_MazeBack.j0 k a1 l2 (!t208) l0_0) = some r := H
            have A16 := Aside0.mk A160
            clear A160
            have H' := Aside0.mk H
            clear H
            have hcz17_0 : w5.cell? ⟨gb204, 0, none⟩ = some (.slice A0_0 l0_0.length c0_0) := (blk_cell BK204.out 0).trans rfl
            have hfz17_0 := blk_frozen BK204.out 0
            go_wp2_with (first | ((with_reducible refine gate_callee (f := 20) rfl ?_); refine goesL_ (some 15) rfl rfl Try.func20 (by kernel_rfl) rfl #[.agg #[.slice A0_0 l0_0.length c0_0]] rfl (by (try simp only [List.map_toArray, List.map_cons, List.map_nil]); first | done | rfl | (simp only [List.length_drop, List.length_take]; rfl)) ?_; (with_reducible refine (mizmazelaw10_Wide.calls k _ _ l0_0 false _ ?side1 ?side2 A6.out).mono ?_); (case side1 => repeat (first | exact (Kd.C_below HR0_0.out HB.out) | (with_reducible refine Kd.C_alloc ?_ _) | (with_reducible refine Kd.C_drewN ?_ _) | (with_reducible refine Kd.C_drew ?_))); (case side2 => exact HC0_0.out); rintro e w18 ⟨rfl, hb⟩; refine ⟨_, rfl, ?_⟩; have n0_ := Aside0.mk (blk_below (g := gb204) (o := .cells #[.slice A0_0 l0_0.length c0_0] 38 (0, 0)) (by (with_reducible repeat (first | refine blk_drewN ?_ _ | refine blk_drew ?_ | refine blk_alloc ?_ _)); exact BK204.out) hb); have n1_ := Aside0.mk (below_step (by repeat (first | (with_reducible first | exact HB.out | apply below_alloc | apply pw_below_drewN | apply below_drew1 | refine below_set ?_ GE204.out) | exact HB.out)) hb); clear BK204; clear HB; have BK204 := n0_; have HB := n1_; clear n0_ n1_; (try clear hb); (try clear hb2); (try clear hk); (try clear hi); have hcz19_0 : w18.cell? ⟨gb204, 0, none⟩ = some (.slice A0_0 l0_0.length c0_0) := (blk_cell BK204.out 0).trans rfl; have hfz19_0 := blk_frozen BK204.out 0) | (go_at_call 21; (with_reducible refine (mizmazeref10_Valid.calls k _ _ l0_0 true _ ?side1 ?side2 A13.out).mono ?_); (case side1 => repeat (first | exact (Kd.C_below HR0_0.out HB.out) | (with_reducible refine Kd.C_alloc ?_ _) | (with_reducible refine Kd.C_drewN ?_ _) | (with_reducible refine Kd.C_drew ?_))); (case side2 => exact HC0_0.out); rintro e w20 ⟨rfl, hb⟩; have n0_ := Aside0.mk (blk_below (g := gb204) (o := .cells #[.slice A0_0 l0_0.length c0_0] 38 (0, 0)) (by (with_reducible repeat (first | refine blk_drewN ?_ _ | refine blk_drew ?_ | refine blk_alloc ?_ _)); exact BK204.out) hb); have n1_ := Aside0.mk (below_step (by repeat (first | (with_reducible first | exact HB.out | apply below_alloc | apply pw_below_drewN | apply below_drew1 | refine below_set ?_ GE204.out) | exact HB.out)) hb); clear BK204; clear HB; have BK204 := n0_; have HB := n1_; clear n0_ n1_; (try clear hb); (try clear hb2); (try clear hk); (try clear hi); have hcz21_0 : w20.cell? ⟨gb204, 0, none⟩ = some (.slice A0_0 l0_0.length c0_0) := (blk_cell BK204.out 0).trans rfl; have hfz21_0 := blk_frozen BK204.out 0; have p207 : 0 ≤ (0 : Int) := (by omega); have q207 : 0 < (l0_0.length : Int) := of_decide_eq_true (by first | (with_reducible assumption) | assumption); obtain ⟨ad207, A207_0, c207_0, e207, hx207_0, hl207_0, hi207_0⟩ := at_L4 HR0_0.out 0 p207 q207; cases e207; have qi207 : (0 < l0_0.length) = True := eq_true (by omega); (try rw [show ((0 : Int)).toNat = 0 from rfl] at hx207_0); (try rw [Addr.add_zero'] at hx207_0); replace hx207_0 := (HB.out.cell (World.block_lt_of_cell? w _ hx207_0)).trans hx207_0; have HR207_0 := Aside0.mk hi207_0; have HC207_0 := Aside0.mk hl207_0; clear hi207_0 hl207_0; replace p207 := eq_true p207; replace q207 := eq_true q207) | (go_at_call 17; (with_reducible refine (mizmazeref10_Word.calls k ((rd_L4 l0_0 0).length : Int) _ _ l2 t208 _ ?side1 ?side2 A16.out).mono ?_); (case side1 => repeat (first | exact (Kd.C_below HR2.out HB.out) | (with_reducible refine Kd.C_alloc ?_ _) | (with_reducible refine Kd.C_drewN ?_ _) | (with_reducible refine Kd.C_drew ?_))); (case side2 => exact HC2.out); rintro e w' ⟨rfl, ⟨nd, rfl⟩⟩))
            go_meet
            case rel => exact ⟨_, (!t208), (by first | rfl | (simp; done) | (simp [*]; done)), H', ⟨by first | omega | exact Nat.le_refl _⟩, ⟨by (with_reducible repeat (first | refine blk_drewN ?_ _ | refine blk_drew ?_ | refine blk_alloc ?_ _)); exact BK204.out⟩, ⟨by repeat (first | (with_reducible first | exact HB.out | apply below_alloc | apply pw_below_drewN | apply below_drew1 | refine below_set ?_ GE204.out) | exact HB.out)⟩⟩
          · rw [if_neg c15] at H
            exact absurd H (by simp)
        · replace c14 := Bool.eq_false_iff.mpr c14
          subst c14
          have H1 : (mizmazelaw10_MazeBack.j0 k a1 l2 true l0_0) = some r := by rw [if_neg (show ¬ (false = true) by decide)] at H; exact H
          clear H
          have H := H1
          clear H1
          have H' := Aside0.mk H
          clear H
          have hcz22_0 : w5.cell? ⟨gb204, 0, none⟩ = some (.slice A0_0 l0_0.length c0_0) := (blk_cell BK204.out 0).trans rfl
          have hfz22_0 := blk_frozen BK204.out 0
          go_wp2_with (first | ((with_reducible refine gate_callee (f := 20) rfl ?_); refine goesL_ (some 15) rfl rfl Try.func20 (by kernel_rfl) rfl #[.agg #[.slice A0_0 l0_0.length c0_0]] rfl (by (try simp only [List.map_toArray, List.map_cons, List.map_nil]); first | done | rfl | (simp only [List.length_drop, List.length_take]; rfl)) ?_; (with_reducible refine (mizmazelaw10_Wide.calls k _ _ l0_0 false _ ?side1 ?side2 A6.out).mono ?_); (case side1 => repeat (first | exact (Kd.C_below HR0_0.out HB.out) | (with_reducible refine Kd.C_alloc ?_ _) | (with_reducible refine Kd.C_drewN ?_ _) | (with_reducible refine Kd.C_drew ?_))); (case side2 => exact HC0_0.out); rintro e w23 ⟨rfl, hb⟩; refine ⟨_, rfl, ?_⟩; have n0_ := Aside0.mk (blk_below (g := gb204) (o := .cells #[.slice A0_0 l0_0.length c0_0] 38 (0, 0)) (by (with_reducible repeat (first | refine blk_drewN ?_ _ | refine blk_drew ?_ | refine blk_alloc ?_ _)); exact BK204.out) hb); have n1_ := Aside0.mk (below_step (by repeat (first | (with_reducible first | exact HB.out | apply below_alloc | apply pw_below_drewN | apply below_drew1 | refine below_set ?_ GE204.out) | exact HB.out)) hb); clear BK204; clear HB; have BK204 := n0_; have HB := n1_; clear n0_ n1_; (try clear hb); (try clear hb2); (try clear hk); (try clear hi); have hcz24_0 : w23.cell? ⟨gb204, 0, none⟩ = some (.slice A0_0 l0_0.length c0_0) := (blk_cell BK204.out 0).trans rfl; have hfz24_0 := blk_frozen BK204.out 0) | (go_at_call 21; (with_reducible refine (mizmazeref10_Valid.calls k _ _ l0_0 false _ ?side1 ?side2 A13.out).mono ?_); (case side1 => repeat (first | exact (Kd.C_below HR0_0.out HB.out) | (with_reducible refine Kd.C_alloc ?_ _) | (with_reducible refine Kd.C_drewN ?_ _) | (with_reducible refine Kd.C_drew ?_))); (case side2 => exact HC0_0.out); rintro e w25 ⟨rfl, hb⟩; have n0_ := Aside0.mk (blk_below (g := gb204) (o := .cells #[.slice A0_0 l0_0.length c0_0] 38 (0, 0)) (by (with_reducible repeat (first | refine blk_drewN ?_ _ | refine blk_drew ?_ | refine blk_alloc ?_ _)); exact BK204.out) hb); have n1_ := Aside0.mk (below_step (by repeat (first | (with_reducible first | exact HB.out | apply below_alloc | apply pw_below_drewN | apply below_drew1 | refine below_set ?_ GE204.out) | exact HB.out)) hb); clear BK204; clear HB; have BK204 := n0_; have HB := n1_; clear n0_ n1_; (try clear hb); (try clear hb2); (try clear hk); (try clear hi)))
          go_meet
          case rel => exact ⟨_, (true), (by first | rfl | (simp; done) | (simp [*]; done)), H', ⟨by first | omega | exact Nat.le_refl _⟩, ⟨by (with_reducible repeat (first | refine blk_drewN ?_ _ | refine blk_drew ?_ | refine blk_alloc ?_ _)); exact BK204.out⟩, ⟨by repeat (first | (with_reducible first | exact HB.out | apply below_alloc | apply pw_below_drewN | apply below_drew1 | refine below_set ?_ GE204.out) | exact HB.out)⟩⟩
  case rest =>
    clear HC4
    try clear c1
    try clear c2
    try clear p2
    try clear q2
    try clear hx2
    try clear qi2
    try clear c6
    try clear c7
    try clear c10
    try clear c10b0
    try clear c10b1
    try clear c14
    try clear c15
    try clear c15b0
    try clear c15b1
    try clear c20
    try clear p20
    try clear q20
    try clear hx20
    try clear qi20
    try clear hcz11_0
    try clear hcz17_0
    try clear hcz19_0
    try clear hcz21_0
    try clear hcz22_0
    try clear hcz24_0
    try clear hcz8_0
    try clear hfz11_0
    try clear hfz17_0
    try clear hfz19_0
    try clear hfz21_0
    try clear hfz22_0
    try clear hfz24_0
    try clear hfz8_0
    try clear hx207_0
    try clear p207
    try clear q207
    obtain ⟨kq, x35_3, rfl, HA, HJ3, BK204, HB⟩ := hcut
    cases kq with
    | zero => exact absurd HA.out (by simp [mizmazelaw10_MazeBack.j0])
    | succ kj3 =>
      have H := HA.out
      clear HA
      simp only [mizmazelaw10_MazeBack.j0] at H
      by_cases c26 : x35_3 = true
      · subst c26
        have H1 : ((mizmazelaw10_awake.f kj3).bind fun t209 => (some t209)) = some r := by rw [if_pos rfl] at H; exact H
        clear H
        have H := H1
        clear H1
        replace H := Option.bind_eq_some_iff.mp H
        obtain ⟨t209, A270, H⟩ := H
        replace H : (some t209) = some r := H
        have A27 := Aside0.mk A270
        clear A270
        obtain rfl := Option.some.inj H
        go_wp2_with (first | ((with_reducible refine gate_callee (f := 14) rfl ?_); refine goesL_ (some 36) rfl rfl Try.func14 (by kernel_rfl) rfl #[] rfl (by (try simp only [List.map_toArray, List.map_cons, List.map_nil]); first | done | rfl | (simp only [List.length_drop, List.length_take]; rfl)) ?_; (with_reducible refine (mizmazelaw10_awake.calls kj3  t209 _ A27.out).mono ?_); rintro e w28 ⟨rfl, hb⟩; refine ⟨_, rfl, ?_⟩; have n0_ := Aside0.mk (blk_below (g := gb204) (o := .cells #[.slice A0_0 l0_0.length c0_0] 38 (0, 0)) (by (with_reducible repeat (first | refine blk_drewN ?_ _ | refine blk_drew ?_ | refine blk_alloc ?_ _)); exact BK204.out) hb); have n1_ := Aside0.mk (below_step (by repeat (first | (with_reducible first | exact HB.out | apply below_alloc | apply pw_below_drewN | apply below_drew1 | refine below_set ?_ GE204.out) | exact HB.out)) hb); clear BK204; clear HB; have BK204 := n0_; have HB := n1_; clear n0_ n1_; (try clear hb); (try clear hb2); (try clear hk); (try clear hi)))
        go_ret
        exact ⟨by first | rfl | (simp [errW_none, errW_some] <;> rfl) | (simp [*, errW_none, errW_some] <;> rfl), by repeat (first | (with_reducible first | exact HB.out | apply below_alloc | apply pw_below_drewN | apply below_drew1 | refine below_set ?_ GE204.out) | exact HB.out)⟩
      · replace c26 := Bool.eq_false_iff.mpr c26
        subst c26
        have H1 : ((maze_Walk.f kj3 l0_0 a1 l2).bind fun bt210 => (if bt210.2 = 0 then (if (bt210.1.length : Int) = (wrap64 ((l2.length : Int) + 1)) then (if 0 ≤ (l2.length : Int) then (if ((l2.length : Int) : Int).toNat ≤ 35184372088832 then (mizmazelaw10_MazeBack.l0 kj3 l2 bt210.1 (List.replicate ((l2.length : Int) : Int).toNat 0) 0 l0_0) else (none)) else (none)) else (some false)) else ((mizmazelaw10_awake.f kj3).bind fun t214 => (some t214)))) = some r := by rw [if_neg (show ¬ (false = true) by decide)] at H; exact H
        clear H
        have H := H1
        clear H1
        replace H := Option.bind_eq_some_iff.mp H
        obtain ⟨⟨t210, t213⟩, A290, H⟩ := H
        replace H : (if t213 = 0 then (if (t210.length : Int) = (wrap64 ((l2.length : Int) + 1)) then (if 0 ≤ (l2.length : Int) then (if ((l2.length : Int) : Int).toNat ≤ 35184372088832 then (mizmazelaw10_MazeBack.l0 kj3 l2 t210 (List.replicate ((l2.length : Int) : Int).toNat 0) 0 l0_0) else (none)) else (none)) else (some false)) else ((mizmazelaw10_awake.f kj3).bind fun t214 => (some t214))) = some r := H
        have A29 := Aside0.mk A290
        clear A290
        by_cases c30 : t213 = 0
        · rw [if_pos c30] at H
          have c30b0 : (t213 == 0) = true := beq_iff_eq.mpr c30
          have c30b1 : (t213 != 0) = false := bne_eq_false_iff_eq.mpr c30
          clear c30
          by_cases c31 : (t210.length : Int) = (wrap64 ((l2.length : Int) + 1))
          · rw [if_pos c31] at H
            have c31b0 : ((t210.length : Int) == (wrap64 ((l2.length : Int) + 1))) = true := beq_iff_eq.mpr c31
            have c31b1 : ((t210.length : Int) != (wrap64 ((l2.length : Int) + 1))) = false := bne_eq_false_iff_eq.mpr c31
            clear c31
            by_cases c32 : 0 ≤ (l2.length : Int)
            · rw [if_pos c32] at H
              have c32b0 := eq_true c32
              have c32b1 : decide (0 ≤ (l2.length : Int)) = true := decide_eq_true c32
              clear c32
              by_cases c33 : ((l2.length : Int) : Int).toNat ≤ 35184372088832
              · rw [if_pos c33] at H
                have c33b0 := eq_true c33
                have c33b1 : decide (((l2.length : Int) : Int).toNat ≤ 35184372088832) = true := decide_eq_true c33
                clear c33
                obtain ⟨y215, hy215⟩ : ∃ y_ : List Int, y_ = (List.replicate ((l2.length : Int) : Int).toNat 0) := ⟨_, rfl⟩
                replace H : (mizmazelaw10_MazeBack.l0 kj3 l2 t210 y215 0 l0_0) = some r := by first | (rw [hy215]; with_reducible exact H) | (have H2_ := (Option.bind_some _ _).symm.trans H; rw [hy215]; with_reducible exact H2_) | (have H2_ := (Option.bind_some _ _).symm.trans H; with_reducible exact H2_) | with_reducible exact H | (rw [hy215]; exact H) | exact H
                have Ny215 := Aside0.mk hy215
                clear hy215
                have H' := Aside0.mk H
                clear H
                have hcz34_0 : wc.cell? ⟨gb204, 0, none⟩ = some (.slice A0_0 l0_0.length c0_0) := (blk_cell BK204.out 0).trans rfl
                have hfz34_0 := blk_frozen BK204.out 0
                go_wp2_with (first | ((with_reducible refine gate_callee (f := 22) rfl ?_); refine goesL_ (some 41) rfl rfl Try.func22 (by kernel_rfl) rfl #[.agg #[.slice A0_0 l0_0.length c0_0], .int .i64 a1, .slice A2 l2.length c2] rfl (by (try simp only [List.map_toArray, List.map_cons, List.map_nil]); first | done | rfl | (simp only [List.length_drop, List.length_take]; rfl)) ?_; (with_reducible refine (maze_Walk.calls kj3 _ _ l0_0 a1 _ _ l2 t210 t213 _ ?side1 ?side2 ?side3 ?side4 A29.out).mono ?_); (case side1 => repeat (first | exact (Kd.C_below HR0_0.out HB.out) | (with_reducible refine Kd.C_alloc ?_ _) | (with_reducible refine Kd.C_drewN ?_ _) | (with_reducible refine Kd.C_drew ?_))); (case side2 => exact HC0_0.out); (case side3 => repeat (first | exact (Kd.C_below HR2.out HB.out) | (with_reducible refine Kd.C_alloc ?_ _) | (with_reducible refine Kd.C_drewN ?_ _) | (with_reducible refine Kd.C_drew ?_))); (case side4 => exact HC2.out); rintro e w35 ⟨v211, rfl, ho0, hb⟩; refine ⟨_, rfl, ?_⟩; have n0_ := Aside0.mk (Kd.R_lower ho0 (below_size (by repeat (first | (with_reducible first | exact HB.out | apply below_alloc | apply pw_below_drewN | apply below_drew1 | refine below_set ?_ GE204.out) | exact HB.out)))); have n1_ := Aside0.mk (blk_below (g := gb204) (o := .cells #[.slice A0_0 l0_0.length c0_0] 38 (0, 0)) (by (with_reducible repeat (first | refine blk_drewN ?_ _ | refine blk_drew ?_ | refine blk_alloc ?_ _)); exact BK204.out) hb); have n2_ := Aside0.mk (below_step (by repeat (first | (with_reducible first | exact HB.out | apply below_alloc | apply pw_below_drewN | apply below_drew1 | refine below_set ?_ GE204.out) | exact HB.out)) hb); clear BK204; clear HB; have HO212 := n0_; have BK204 := n1_; have HB := n2_; clear n0_ n1_ n2_; (try clear hb); (try clear hb2); (try clear hk); (try clear hi); (try clear ho0); obtain ⟨Ao36, co36, eo36⟩ := Kd.R_slice HO212.out; subst eo36) | ((with_reducible refine gate_dst (N := 55) rfl ?_); (try (refine gate_guard (by rfl) ?_; dsimp only)); refine Kd.R_make (Kd.int .i64) _ 3 rfl (N := 55) rfl 30 _ _ rfl (l2.length : Int) rfl rfl Try.underlying30 (.int .i64 0) 8 info3 rfl (by decide) (by omega) 0 (ok := fun _ => True) (okp := fun _ => True) rfl (fun _ hk => hk) trivial (of_decide_eq_true (by first | (with_reducible assumption) | assumption)) (Nat.le_trans (Nat.mul_le_mul_right _ (of_decide_eq_true (by first | (with_reducible assumption) | assumption) : (l2.length : Int).toNat ≤ 35184372088832)) (by omega)) (Below.refl _ _) (Nat.le_refl _) ?_; intro v216 w37 ho38 hb hg_ hnew_; clear hg_ hnew_; (first | rw [← Ny215.out] at ho38 | (simp only [Int.reduceToNat] at ho38; rw [← Ny215.out] at ho38)); have n0_ := Aside0.mk (Kd.R_elder' (by (with_reducible repeat (first | apply Kd.R_alloc | apply Kd.R_drewN | apply Kd.R_drew)); exact HO212.out) (Kd.R_base ho38) hb); have n1_ := Aside0.mk (Kd.R_lower (Kd.R_new' ho38 (Kd.R_lt (by (with_reducible repeat (first | apply Kd.R_alloc | apply Kd.R_drewN | apply Kd.R_drew)); exact HO212.out))) (below_size (by repeat (first | (with_reducible first | exact HB.out | apply below_alloc | apply pw_below_drewN | apply below_drew1 | refine below_set ?_ GE204.out) | exact HB.out)))); have n2_ := Aside0.mk (blk_below (g := gb204) (o := .cells #[.slice A0_0 l0_0.length c0_0] 38 (0, 0)) (by (with_reducible repeat (first | refine blk_drewN ?_ _ | refine blk_drew ?_ | refine blk_alloc ?_ _)); exact BK204.out) hb); have n3_ := Aside0.mk (below_step (by repeat (first | (with_reducible first | exact HB.out | apply below_alloc | apply pw_below_drewN | apply below_drew1 | refine below_set ?_ GE204.out) | exact HB.out)) hb); clear HO212; clear BK204; clear HB; have HO212 := n0_; have HO217 := n1_; have BK204 := n2_; have HB := n3_; clear n0_ n1_ n2_ n3_; clear hb ho38))
                go_loopg [10] kj3 (fun kq v10 w' => ∃ (x9_2 : List Int) (x10_2 : Int), v10 = .int .i64 x10_2 ∧ Aside0 (mizmazelaw10_MazeBack.l0 kq l2 t210 x9_2 x10_2 l0_0 = some r) ∧ Aside0 (kq ≤ kj3) ∧ Aside0 (Kd.R (Kd.int .i64) 3 w' w.heap.size (fun k_ => some k_ ≠ (v216 : Value).ownBlock) (.slice Ao36 t210.length co36) t210) ∧ Aside0 (Kd.R (Kd.int .i64) 3 w' w.heap.size (fun k_ => some k_ ≠ ((.slice Ao36 t210.length co36) : Value).ownBlock) v216 x9_2) ∧ Aside0 (w'.heap[gb204]? = some (.cells #[(.slice A0_0 l0_0.length c0_0)] 38 (0, 0))) ∧ Aside0 (Below w.heap.size w w'))
                case atStart => exact ⟨(y215), (0), (by first | rfl | (simp; done) | (simp [*]; done)), H', ⟨Nat.le_refl _⟩, ⟨by (with_reducible repeat (first | apply Kd.R_alloc | apply Kd.R_drewN | apply Kd.R_drew)); exact Kd.R_mono HO212.out (fun _ hk => hk.2)⟩, ⟨by (with_reducible repeat (first | apply Kd.R_alloc | apply Kd.R_drewN | apply Kd.R_drew)); exact Kd.R_mono HO217.out (fun _ hk => hk.2)⟩, ⟨by (with_reducible repeat (first | refine blk_drewN ?_ _ | refine blk_drew ?_ | refine blk_alloc ?_ _)); exact BK204.out⟩, ⟨by repeat (first | (with_reducible first | exact HB.out | apply below_alloc | apply pw_below_drewN | apply below_drew1 | refine below_set ?_ GE204.out) | exact HB.out)⟩⟩
                case round =>
                  clear H'
                  try clear c1
                  try clear c2
                  try clear p2
                  try clear q2
                  try clear hx2
                  try clear qi2
                  try clear c3
                  try clear c6
                  try clear p6
                  try clear c7
                  try clear c10
                  try clear c10b0
                  try clear c10b1
                  try clear c14
                  try clear c15
                  try clear c15b0
                  try clear c15b1
                  try clear c20
                  try clear p20
                  try clear q20
                  try clear hx20
                  try clear qi20
                  try clear c22
                  try clear c26
                  try clear c30
                  try clear c30b0
                  try clear c30b1
                  try clear c31
                  try clear c31b0
                  try clear c31b1
                  try clear c32
                  try clear c32b0
                  try clear c32b1
                  try clear c33
                  try clear c33b0
                  try clear c33b1
                  try clear hcz11_0
                  try clear hcz17_0
                  try clear hcz19_0
                  try clear hcz21_0
                  try clear hcz22_0
                  try clear hcz24_0
                  try clear hcz34_0
                  try clear hcz8_0
                  try clear hfz11_0
                  try clear hfz17_0
                  try clear hfz19_0
                  try clear hfz21_0
                  try clear hfz22_0
                  try clear hfz24_0
                  try clear hfz34_0
                  try clear hfz8_0
                  try clear hx207_0
                  try clear p2
                  try clear p20
                  try clear p207
                  try clear q2
                  try clear q20
                  try clear q207
                  obtain ⟨x9_2, x10_2, rfl, HA, HK2, HO_7, HO_9, BK204, HB⟩ := hrel
                  cases gk with
                  | zero => exact absurd HA.out (by simp [mizmazelaw10_MazeBack.l0])
                  | succ k2 =>
                    have H := HA.out
                    clear HA
                    simp only [mizmazelaw10_MazeBack.l0] at H
                    by_cases c39 : x10_2 < (l2.length : Int)
                    · rw [if_pos c39] at H
                      have c39b0 : decide (x10_2 < (l2.length : Int)) = true := decide_eq_true c39
                      clear c39
                      by_cases c40 : 0 ≤ x10_2
                      · rw [if_pos c40] at H
                        have c40b0 : decide (0 ≤ x10_2) = true := decide_eq_true c40
                        clear c40
                        by_cases c41 : x10_2 < (t210.length : Int)
                        · rw [if_pos c41] at H
                          have c41b0 : decide (x10_2 < (t210.length : Int)) = true := decide_eq_true c41
                          clear c41
                          by_cases c42 : (rd t210 x10_2) < 0
                          · rw [if_pos c42] at H
                            have c42b0 : decide ((rd t210 x10_2) < 0) = true := decide_eq_true c42
                            clear c42
                            obtain rfl := Option.some.inj H
                            try go_wp2
                            have n0_ := Aside0.mk (Kd.R_drew HO_7.out)
                            have n1_ := Aside0.mk (Kd.R_drew HO_9.out)
                            have n2_ := Aside0.mk (blk_drew BK204.out)
                            have n3_ := Aside0.mk (below_drew1 HB.out)
                            clear HO_7
                            clear HO_9
                            clear BK204
                            clear HB
                            have HO_7 := n0_
                            have HO_9 := n1_
                            have BK204 := n2_
                            have HB := n3_
                            clear n0_ n1_ n2_ n3_
                            have p218 : 0 ≤ (x10_2 : Int) := of_decide_eq_true (by first | (with_reducible assumption) | assumption)
                            have q218 : x10_2 < (t210.length : Int) := of_decide_eq_true (by first | (with_reducible assumption) | assumption)
                            obtain ⟨ad218, e218, hx218_0⟩ := Kd.at_int (Kd.R_reads' HO_7.out).2.2 x10_2 p218 q218
                            cases e218
                            replace p218 := eq_true p218
                            replace q218 := eq_true q218
                            refine start_ (n := 15) (S := fun w' => w'.cell? (ad218.add (x10_2).toNat) = some (.int .i64 (rd t210 x10_2))) (ds := []) #[false, false, false, false, false, false, false, false, false, false, false, false, false, false, false] (by kernel_rfl) rfl rfl (hx218_0) (fun hHeld => ?_); refine with_tabW mizmazelaw10_MazeBack.tab12 mizmazelaw10_MazeBack.bits12 (fun HT_ HW_ => ?_)
                            generalize wr.drew = w43 at HO_7 HO_9 BK204 HB hx218_0 hHeld ⊢
                            refine pure_ (i := 0) (N := some 62) (v := ?_) (a' := ?_) #[true, false, false, false, false, false, false, false, false, false, false, false, false, false, false] rfl rfl (any_of HT_.out (by kernel_rfl)) (fun _ _ _ h => h) (Or.inl ⟨by rfl, ?_⟩) ?_ ?_
                            rotate_left
                            · intro w'
                              go_simp
                              with_reducible rfl
                            rotate_left
                            · simp only [Act.put, List.setIfInBounds_toArray, List.set_cons_zero, List.set_cons_succ, i64_w, i32_w]
                              rfl
                            refine pure_ (i := 1) (N := some 63) (v := ?_) (a' := ?_) #[true, true, false, false, false, false, false, false, false, false, false, false, false, false, false] rfl rfl (any_of HT_.out (by kernel_rfl)) (fun _ _ _ h => h) (Or.inl ⟨by rfl, ?_⟩) ?_ ?_
                            rotate_left
                            · intro w'
                              go_simp
                              with_reducible rfl
                            rotate_left
                            · simp only [Act.put, List.setIfInBounds_toArray, List.set_cons_zero, List.set_cons_succ, i64_w, i32_w]
                              rfl
                            refine pure_ (i := 2) (N := some 64) (v := ?_) (a' := ?_) #[true, true, true, false, false, false, false, false, false, false, false, false, false, false, false] rfl rfl (any_of HT_.out (by kernel_rfl)) (fun _ _ _ h => h) (Or.inl ⟨by rfl, ?_⟩) ?_ ?_
                            rotate_left
                            · intro w'
                              go_simp
                              with_reducible rfl
                            rotate_left
                            · simp only [Act.put, List.setIfInBounds_toArray, List.set_cons_zero, List.set_cons_succ, i64_w, i32_w]
                              rfl
                            refine take_ (i := 3) (N := some 65) (v := ?_) (a' := ?_) #[true, true, true, true, false, false, false, false, false, false, false, false, false, false, false] rfl rfl (take_ofW HT_.out HW_.out (by kernel_rfl)) (fun _ _ _ h => h) (Or.inl ⟨by rfl, ?_⟩) hHeld ?_ ?_
                            rotate_left
                            · intro w' s0
                              go_simp
                              with_reducible rfl
                            rotate_left
                            · simp only [Act.put, List.setIfInBounds_toArray, List.set_cons_zero, List.set_cons_succ, i64_w, i32_w]
                              rfl
                            refine pure_ (i := 4) (N := some 66) (v := ?_) (a' := ?_) #[true, true, true, true, true, false, false, false, false, false, false, false, false, false, false] rfl rfl (any_of HT_.out (by kernel_rfl)) (fun _ _ _ h => h) (Or.inl ⟨by rfl, ?_⟩) ?_ ?_
                            rotate_left
                            · intro w'
                              go_simp
                              with_reducible rfl
                            rotate_left
                            · simp only [Act.put, List.setIfInBounds_toArray, List.set_cons_zero, List.set_cons_succ, i64_w, i32_w]
                              rfl
                            refine pure_ (i := 5) (N := some 67) (v := ?_) (a' := ?_) #[true, true, true, true, true, true, false, false, false, false, false, false, false, false, false] rfl rfl (any_of HT_.out (by kernel_rfl)) (fun _ _ _ h => h) (Or.inl ⟨by rfl, ?_⟩) ?_ ?_
                            rotate_left
                            · intro w'
                              go_simp
                              with_reducible rfl
                            rotate_left
                            · simp only [Act.put, List.setIfInBounds_toArray, List.set_cons_zero, List.set_cons_succ, i64_w, i32_w]
                              rfl
                            refine pure_ (i := 6) (N := some 68) (v := undef) (a' := ?_) #[true, true, true, true, true, true, true, false, false, false, false, false, false, false, false] rfl rfl (any_of HT_.out (by kernel_rfl)) (fun _ _ _ h => h) (Or.inr ⟨by rfl, rfl⟩) ?_ ?_
                            rotate_left
                            · simp only [Act.put, List.setIfInBounds_toArray, List.set_cons_zero, List.set_cons_succ, i64_w, i32_w]
                              rfl
                            refine pure_ (i := 7) (N := some 69) (v := undef) (a' := ?_) #[true, true, true, true, true, true, true, true, false, false, false, false, false, false, false] rfl rfl (any_of HT_.out (by kernel_rfl)) (fun _ _ _ h => h) (Or.inr ⟨by rfl, rfl⟩) ?_ ?_
                            rotate_left
                            · simp only [Act.put, List.setIfInBounds_toArray, List.set_cons_zero, List.set_cons_succ, i64_w, i32_w]
                              rfl
                            refine pure_ (i := 8) (N := some 70) (v := undef) (a' := ?_) #[true, true, true, true, true, true, true, true, true, false, false, false, false, false, false] rfl rfl (any_of HT_.out (by kernel_rfl)) (fun _ _ _ h => h) (Or.inr ⟨by rfl, rfl⟩) ?_ ?_
                            rotate_left
                            · simp only [Act.put, List.setIfInBounds_toArray, List.set_cons_zero, List.set_cons_succ, i64_w, i32_w]
                              rfl
                            refine pure_ (i := 9) (N := some 71) (v := undef) (a' := ?_) #[true, true, true, true, true, true, true, true, true, true, false, false, false, false, false] rfl rfl (any_of HT_.out (by kernel_rfl)) (fun _ _ _ h => h) (Or.inr ⟨by rfl, rfl⟩) ?_ ?_
                            rotate_left
                            · simp only [Act.put, List.setIfInBounds_toArray, List.set_cons_zero, List.set_cons_succ, i64_w, i32_w]
                              rfl
                            refine pure_ (i := 10) (N := some 72) (v := undef) (a' := ?_) #[true, true, true, true, true, true, true, true, true, true, true, false, false, false, false] rfl rfl (any_of HT_.out (by kernel_rfl)) (fun _ _ _ h => h) (Or.inr ⟨by rfl, rfl⟩) ?_ ?_
                            rotate_left
                            · simp only [Act.put, List.setIfInBounds_toArray, List.set_cons_zero, List.set_cons_succ, i64_w, i32_w]
                              rfl
                            refine pure_ (i := 11) (N := some 73) (v := undef) (a' := ?_) #[true, true, true, true, true, true, true, true, true, true, true, true, false, false, false] rfl rfl (any_of HT_.out (by kernel_rfl)) (fun _ _ _ h => h) (Or.inr ⟨by rfl, rfl⟩) ?_ ?_
                            rotate_left
                            · simp only [Act.put, List.setIfInBounds_toArray, List.set_cons_zero, List.set_cons_succ, i64_w, i32_w]
                              rfl
                            refine pure_ (i := 12) (N := some 74) (v := undef) (a' := ?_) #[true, true, true, true, true, true, true, true, true, true, true, true, true, false, false] rfl rfl (any_of HT_.out (by kernel_rfl)) (fun _ _ _ h => h) (Or.inr ⟨by rfl, rfl⟩) ?_ ?_
                            rotate_left
                            · simp only [Act.put, List.setIfInBounds_toArray, List.set_cons_zero, List.set_cons_succ, i64_w, i32_w]
                              rfl
                            refine pure_ (i := 13) (N := some 75) (v := undef) (a' := ?_) #[true, true, true, true, true, true, true, true, true, true, true, true, true, true, false] rfl rfl (any_of HT_.out (by kernel_rfl)) (fun _ _ _ h => h) (Or.inr ⟨by rfl, rfl⟩) ?_ ?_
                            rotate_left
                            · simp only [Act.put, List.setIfInBounds_toArray, List.set_cons_zero, List.set_cons_succ, i64_w, i32_w]
                              rfl
                            refine pure_ (i := 14) (N := some 76) (v := ?_) (a' := ?_) #[true, true, true, true, true, true, true, true, true, true, true, true, true, true, true] rfl rfl (any_of HT_.out (by kernel_rfl)) (fun _ _ _ h => h) (Or.inl ⟨by rfl, ?_⟩) ?_ ?_
                            rotate_left
                            · intro w'
                              go_simp
                              with_reducible rfl
                            rotate_left
                            · simp only [Act.put, List.setIfInBounds_toArray, List.set_cons_zero, List.set_cons_succ, i64_w, i32_w]
                              rfl
                            refine done_ (done_of HT_.out (by kernel_rfl)) ?_
                            try go_wp2
                            go_ret
                            exact ⟨by first | rfl | (simp [errW_none, errW_some] <;> rfl) | (simp [*, errW_none, errW_some] <;> rfl), by repeat (first | (with_reducible first | exact HB.out | apply below_alloc | apply pw_below_drewN | apply below_drew1 | refine below_set ?_ GE204.out) | exact HB.out)⟩
                          · rw [if_neg c42] at H
                            have c42b0 : decide ((rd t210 x10_2) < 0) = false := decide_eq_false c42
                            clear c42
                            by_cases c44 : (rd t210 x10_2) ≥ (l0_0.length : Int)
                            · rw [if_pos c44] at H
                              have c44b0 : decide ((l0_0.length : Int) ≤ (rd t210 x10_2)) = true := decide_eq_true c44
                              clear c44
                              obtain rfl := Option.some.inj H
                              try go_wp2
                              have n0_ := Aside0.mk (Kd.R_drew HO_7.out)
                              have n1_ := Aside0.mk (Kd.R_drew HO_9.out)
                              have n2_ := Aside0.mk (blk_drew BK204.out)
                              have n3_ := Aside0.mk (below_drew1 HB.out)
                              clear HO_7
                              clear HO_9
                              clear BK204
                              clear HB
                              have HO_7 := n0_
                              have HO_9 := n1_
                              have BK204 := n2_
                              have HB := n3_
                              clear n0_ n1_ n2_ n3_
                              have p218 : 0 ≤ (x10_2 : Int) := of_decide_eq_true (by first | (with_reducible assumption) | assumption)
                              have q218 : x10_2 < (t210.length : Int) := of_decide_eq_true (by first | (with_reducible assumption) | assumption)
                              obtain ⟨ad218, e218, hx218_0⟩ := Kd.at_int (Kd.R_reads' HO_7.out).2.2 x10_2 p218 q218
                              cases e218
                              replace p218 := eq_true p218
                              replace q218 := eq_true q218
                              have p219 : 0 ≤ (x10_2 : Int) := of_decide_eq_true (by first | (with_reducible assumption) | assumption)
                              have q219 : x10_2 < (t210.length : Int) := of_decide_eq_true (by first | (with_reducible assumption) | assumption)
                              obtain ⟨ad219, e219, hx219_0⟩ := Kd.at_int (Kd.R_reads' HO_7.out).2.2 x10_2 p219 q219
                              obtain rfl : ad218 = ad219 := (by injection e219)
                              replace p219 := eq_true p219
                              replace q219 := eq_true q219
                              refine start_ (n := 15) (S := fun w' => w'.cell? ⟨gb204, 0, none⟩ = some (.slice A0_0 l0_0.length c0_0) ∧ w'.cell? (ad218.add (x10_2).toNat) = some (.int .i64 (rd t210 x10_2)) ∧ w'.cell? (ad218.add (x10_2).toNat) = some (.int .i64 (rd t210 x10_2))) (ds := []) #[false, false, false, false, false, false, false, false, false, false, false, false, false, false, false] (by kernel_rfl) rfl rfl ⟨(blk_cell BK204.out 0).trans rfl, hx218_0, hx219_0⟩ (fun hHeld => ?_); refine with_tabW mizmazelaw10_MazeBack.tab12 mizmazelaw10_MazeBack.bits12 (fun HT_ HW_ => ?_)
                              generalize wr.drew = w45 at HO_7 HO_9 BK204 HB hx218_0 hx219_0 hHeld ⊢
                              refine pure_ (i := 0) (N := some 62) (v := ?_) (a' := ?_) #[true, false, false, false, false, false, false, false, false, false, false, false, false, false, false] rfl rfl (any_of HT_.out (by kernel_rfl)) (fun _ _ _ h => h) (Or.inl ⟨by rfl, ?_⟩) ?_ ?_
                              rotate_left
                              · intro w'
                                go_simp
                                with_reducible rfl
                              rotate_left
                              · simp only [Act.put, List.setIfInBounds_toArray, List.set_cons_zero, List.set_cons_succ, i64_w, i32_w]
                                rfl
                              refine pure_ (i := 1) (N := some 63) (v := ?_) (a' := ?_) #[true, true, false, false, false, false, false, false, false, false, false, false, false, false, false] rfl rfl (any_of HT_.out (by kernel_rfl)) (fun _ _ _ h => h) (Or.inl ⟨by rfl, ?_⟩) ?_ ?_
                              rotate_left
                              · intro w'
                                go_simp
                                with_reducible rfl
                              rotate_left
                              · simp only [Act.put, List.setIfInBounds_toArray, List.set_cons_zero, List.set_cons_succ, i64_w, i32_w]
                                rfl
                              refine pure_ (i := 2) (N := some 64) (v := ?_) (a' := ?_) #[true, true, true, false, false, false, false, false, false, false, false, false, false, false, false] rfl rfl (any_of HT_.out (by kernel_rfl)) (fun _ _ _ h => h) (Or.inl ⟨by rfl, ?_⟩) ?_ ?_
                              rotate_left
                              · intro w'
                                go_simp
                                with_reducible rfl
                              rotate_left
                              · simp only [Act.put, List.setIfInBounds_toArray, List.set_cons_zero, List.set_cons_succ, i64_w, i32_w]
                                rfl
                              refine take_ (i := 3) (N := some 65) (v := ?_) (a' := ?_) #[true, true, true, true, false, false, false, false, false, false, false, false, false, false, false] rfl rfl (take_ofW HT_.out HW_.out (by kernel_rfl)) (fun _ _ _ h => h) (Or.inl ⟨by rfl, ?_⟩) hHeld ?_ ?_
                              rotate_left
                              · rintro w' ⟨s0, s1, s2⟩
                                go_simp
                                with_reducible rfl
                              rotate_left
                              · simp only [Act.put, List.setIfInBounds_toArray, List.set_cons_zero, List.set_cons_succ, i64_w, i32_w]
                                rfl
                              refine pure_ (i := 4) (N := some 66) (v := ?_) (a' := ?_) #[true, true, true, true, true, false, false, false, false, false, false, false, false, false, false] rfl rfl (any_of HT_.out (by kernel_rfl)) (fun _ _ _ h => h) (Or.inl ⟨by rfl, ?_⟩) ?_ ?_
                              rotate_left
                              · intro w'
                                go_simp
                                with_reducible rfl
                              rotate_left
                              · simp only [Act.put, List.setIfInBounds_toArray, List.set_cons_zero, List.set_cons_succ, i64_w, i32_w]
                                rfl
                              refine pure_ (i := 5) (N := some 67) (v := ?_) (a' := ?_) #[true, true, true, true, true, true, false, false, false, false, false, false, false, false, false] rfl rfl (any_of HT_.out (by kernel_rfl)) (fun _ _ _ h => h) (Or.inl ⟨by rfl, ?_⟩) ?_ ?_
                              rotate_left
                              · intro w'
                                go_simp
                                with_reducible rfl
                              rotate_left
                              · simp only [Act.put, List.setIfInBounds_toArray, List.set_cons_zero, List.set_cons_succ, i64_w, i32_w]
                                rfl
                              refine pure_ (i := 6) (N := some 68) (v := ?_) (a' := ?_) #[true, true, true, true, true, true, true, false, false, false, false, false, false, false, false] rfl rfl (any_of HT_.out (by kernel_rfl)) (fun _ _ _ h => h) (Or.inl ⟨by rfl, ?_⟩) ?_ ?_
                              rotate_left
                              · intro w'
                                go_simp
                                with_reducible rfl
                              rotate_left
                              · simp only [Act.put, List.setIfInBounds_toArray, List.set_cons_zero, List.set_cons_succ, i64_w, i32_w]
                                rfl
                              refine pure_ (i := 7) (N := some 69) (v := ?_) (a' := ?_) #[true, true, true, true, true, true, true, true, false, false, false, false, false, false, false] rfl rfl (any_of HT_.out (by kernel_rfl)) (fun _ _ _ h => h) (Or.inl ⟨by rfl, ?_⟩) ?_ ?_
                              rotate_left
                              · intro w'
                                go_simp
                                with_reducible rfl
                              rotate_left
                              · simp only [Act.put, List.setIfInBounds_toArray, List.set_cons_zero, List.set_cons_succ, i64_w, i32_w]
                                rfl
                              refine pure_ (i := 8) (N := some 70) (v := ?_) (a' := ?_) #[true, true, true, true, true, true, true, true, true, false, false, false, false, false, false] rfl rfl (any_of HT_.out (by kernel_rfl)) (fun _ _ _ h => h) (Or.inl ⟨by rfl, ?_⟩) ?_ ?_
                              rotate_left
                              · intro w'
                                go_simp
                                with_reducible rfl
                              rotate_left
                              · simp only [Act.put, List.setIfInBounds_toArray, List.set_cons_zero, List.set_cons_succ, i64_w, i32_w]
                                rfl
                              refine pure_ (i := 10) (N := some 72) (v := ?_) (a' := ?_) #[true, true, true, true, true, true, true, true, true, false, true, false, false, false, false] rfl rfl (any_of HT_.out (by kernel_rfl)) (fun _ _ _ h => h) (Or.inl ⟨by rfl, ?_⟩) ?_ ?_
                              rotate_left
                              · intro w'
                                go_simp
                                with_reducible rfl
                              rotate_left
                              · simp only [Act.put, List.setIfInBounds_toArray, List.set_cons_zero, List.set_cons_succ, i64_w, i32_w]
                                rfl
                              refine take_ (i := 9) (N := some 71) (v := ?_) (a' := ?_) #[true, true, true, true, true, true, true, true, true, true, true, false, false, false, false] rfl rfl (take_ofW HT_.out HW_.out (by kernel_rfl)) (fun _ _ _ h => h) (Or.inl ⟨by rfl, ?_⟩) hHeld ?_ ?_
                              rotate_left
                              · rintro w' ⟨s0, s1, s2⟩
                                go_simp
                                with_reducible rfl
                              rotate_left
                              · simp only [Act.put, List.setIfInBounds_toArray, List.set_cons_zero, List.set_cons_succ, i64_w, i32_w]
                                rfl
                              refine take_ (i := 11) (N := some 73) (v := ?_) (a' := ?_) #[true, true, true, true, true, true, true, true, true, true, true, true, false, false, false] rfl rfl (take_ofW HT_.out HW_.out (by kernel_rfl)) (fun _ _ _ h => h) (Or.inl ⟨by rfl, ?_⟩) hHeld ?_ ?_
                              rotate_left
                              · rintro w' ⟨s0, s1, s2⟩
                                go_simp
                                with_reducible rfl
                              rotate_left
                              · simp only [Act.put, List.setIfInBounds_toArray, List.set_cons_zero, List.set_cons_succ, i64_w, i32_w]
                                rfl
                              refine pure_ (i := 12) (N := some 74) (v := ?_) (a' := ?_) #[true, true, true, true, true, true, true, true, true, true, true, true, true, false, false] rfl rfl (any_of HT_.out (by kernel_rfl)) (fun _ _ _ h => h) (Or.inl ⟨by rfl, ?_⟩) ?_ ?_
                              rotate_left
                              · intro w'
                                go_simp
                                with_reducible rfl
                              rotate_left
                              · simp only [Act.put, List.setIfInBounds_toArray, List.set_cons_zero, List.set_cons_succ, i64_w, i32_w]
                                rfl
                              refine pure_ (i := 13) (N := some 75) (v := ?_) (a' := ?_) #[true, true, true, true, true, true, true, true, true, true, true, true, true, true, false] rfl rfl (any_of HT_.out (by kernel_rfl)) (fun _ _ _ h => h) (Or.inl ⟨by rfl, ?_⟩) ?_ ?_
                              rotate_left
                              · intro w'
                                go_simp
                                with_reducible rfl
                              rotate_left
                              · simp only [Act.put, List.setIfInBounds_toArray, List.set_cons_zero, List.set_cons_succ, i64_w, i32_w]
                                rfl
                              refine pure_ (i := 14) (N := some 76) (v := ?_) (a' := ?_) #[true, true, true, true, true, true, true, true, true, true, true, true, true, true, true] rfl rfl (any_of HT_.out (by kernel_rfl)) (fun _ _ _ h => h) (Or.inl ⟨by rfl, ?_⟩) ?_ ?_
                              rotate_left
                              · intro w'
                                go_simp
                                with_reducible rfl
                              rotate_left
                              · simp only [Act.put, List.setIfInBounds_toArray, List.set_cons_zero, List.set_cons_succ, i64_w, i32_w]
                                rfl
                              refine done_ (done_of HT_.out (by kernel_rfl)) ?_
                              try go_wp2
                              go_ret
                              exact ⟨by first | rfl | (simp [errW_none, errW_some] <;> rfl) | (simp [*, errW_none, errW_some] <;> rfl), by repeat (first | (with_reducible first | exact HB.out | apply below_alloc | apply pw_below_drewN | apply below_drew1 | refine below_set ?_ GE204.out) | exact HB.out)⟩
                            · rw [if_neg c44] at H
                              have c44b0 : decide ((l0_0.length : Int) ≤ (rd t210 x10_2)) = false := decide_eq_false c44
                              clear c44
                              by_cases c46 : 0 ≤ (rd t210 x10_2)
                              · rw [if_pos c46] at H
                                have c46b0 : decide (0 ≤ (rd t210 x10_2)) = true := decide_eq_true c46
                                clear c46
                                by_cases c47 : (rd t210 x10_2) < (l0_0.length : Int)
                                · rw [if_pos c47] at H
                                  have c47b0 : decide ((rd t210 x10_2) < (l0_0.length : Int)) = true := decide_eq_true c47
                                  clear c47
                                  by_cases c48 : 0 ≤ (rd l2 x10_2)
                                  · rw [if_pos c48] at H
                                    have c48b0 : decide (0 ≤ (rd l2 x10_2)) = true := decide_eq_true c48
                                    clear c48
                                    by_cases c49 : (rd l2 x10_2) < ((rd_L4 l0_0 (rd t210 x10_2)).length : Int)
                                    · rw [if_pos c49] at H
                                      have c49b0 : decide ((rd l2 x10_2) < ((rd_L4 l0_0 (rd t210 x10_2)).length : Int)) = true := decide_eq_true c49
                                      clear c49
                                      obtain ⟨ji50, hji50⟩ : ∃ j_ : Int, (wrap64 ((wrap64 ((l2.length : Int) - 1)) - x10_2)) = j_ := ⟨_, rfl⟩
                                      replace H : (if 0 ≤ (ji50) then (if (ji50) < (x9_2.length : Int) then (mizmazelaw10_MazeBack.l0 k2 l2 t210 (x9_2.set ((ji50) : Int).toNat ((rd_T44 (rd_L4 l0_0 (rd t210 x10_2)) (rd l2 x10_2)).f1)) (wrap64 (x10_2 + 1)) l0_0) else (none)) else (none)) = some r := by first | (rw [hji50] at H; exact H) | (simp only [hji50] at H ⊢; exact H)
                                      have hji50w : (IntKind.i64.wrap ((wrap64 ((l2.length : Int) - 1)) - x10_2)) = ji50 := (i64_w _).trans hji50
                                      by_cases c51 : 0 ≤ (ji50)
                                      · rw [if_pos c51] at H
                                        have c51b0 : decide (0 ≤ (ji50)) = true := decide_eq_true c51
                                        clear c51
                                        by_cases c52 : (ji50) < (x9_2.length : Int)
                                        · rw [if_pos c52] at H
                                          have c52b0 : decide ((ji50) < (x9_2.length : Int)) = true := decide_eq_true c52
                                          clear c52
                                          obtain ⟨y224, hy224⟩ : ∃ y_ : List Int, y_ = (x9_2.set ((ji50) : Int).toNat ((rd_T44 (rd_L4 l0_0 (rd t210 x10_2)) (rd l2 x10_2)).f1)) := ⟨_, rfl⟩
                                          replace H : (mizmazelaw10_MazeBack.l0 k2 l2 t210 y224 (wrap64 (x10_2 + 1)) l0_0) = some r := by first | (rw [hy224]; with_reducible exact H) | (have H2_ := (Option.bind_some _ _).symm.trans H; rw [hy224]; with_reducible exact H2_) | (have H2_ := (Option.bind_some _ _).symm.trans H; with_reducible exact H2_) | with_reducible exact H | (rw [hy224]; exact H) | exact H
                                          have Ny224 := Aside0.mk hy224
                                          clear hy224
                                          have H' := Aside0.mk H
                                          clear H
                                          try go_wp2
                                          have n0_ := Aside0.mk (Kd.R_drew HO_7.out)
                                          have n1_ := Aside0.mk (Kd.R_drew HO_9.out)
                                          have n2_ := Aside0.mk (blk_drew BK204.out)
                                          have n3_ := Aside0.mk (below_drew1 HB.out)
                                          clear HO_7
                                          clear HO_9
                                          clear BK204
                                          clear HB
                                          have HO_7 := n0_
                                          have HO_9 := n1_
                                          have BK204 := n2_
                                          have HB := n3_
                                          clear n0_ n1_ n2_ n3_
                                          have p218 : 0 ≤ (x10_2 : Int) := of_decide_eq_true (by first | (with_reducible assumption) | assumption)
                                          have q218 : x10_2 < (t210.length : Int) := of_decide_eq_true (by first | (with_reducible assumption) | assumption)
                                          obtain ⟨ad218, e218, hx218_0⟩ := Kd.at_int (Kd.R_reads' HO_7.out).2.2 x10_2 p218 q218
                                          cases e218
                                          replace p218 := eq_true p218
                                          replace q218 := eq_true q218
                                          have p219 : 0 ≤ (x10_2 : Int) := of_decide_eq_true (by first | (with_reducible assumption) | assumption)
                                          have q219 : x10_2 < (t210.length : Int) := of_decide_eq_true (by first | (with_reducible assumption) | assumption)
                                          obtain ⟨ad219, e219, hx219_0⟩ := Kd.at_int (Kd.R_reads' HO_7.out).2.2 x10_2 p219 q219
                                          obtain rfl : ad218 = ad219 := (by injection e219)
                                          replace p219 := eq_true p219
                                          replace q219 := eq_true q219
                                          refine start_ (n := 15) (S := fun w' => w'.cell? ⟨gb204, 0, none⟩ = some (.slice A0_0 l0_0.length c0_0) ∧ w'.cell? (ad218.add (x10_2).toNat) = some (.int .i64 (rd t210 x10_2)) ∧ w'.cell? (ad218.add (x10_2).toNat) = some (.int .i64 (rd t210 x10_2))) (ds := []) #[false, false, false, false, false, false, false, false, false, false, false, false, false, false, false] (by kernel_rfl) rfl rfl ⟨(blk_cell BK204.out 0).trans rfl, hx218_0, hx219_0⟩ (fun hHeld => ?_); refine with_tabW mizmazelaw10_MazeBack.tab12 mizmazelaw10_MazeBack.bits12 (fun HT_ HW_ => ?_)
                                          generalize wr.drew = w54 at HO_7 HO_9 BK204 HB hx218_0 hx219_0 hHeld ⊢
                                          refine pure_ (i := 0) (N := some 62) (v := ?_) (a' := ?_) #[true, false, false, false, false, false, false, false, false, false, false, false, false, false, false] rfl rfl (any_of HT_.out (by kernel_rfl)) (fun _ _ _ h => h) (Or.inl ⟨by rfl, ?_⟩) ?_ ?_
                                          rotate_left
                                          · intro w'
                                            go_simp
                                            with_reducible rfl
                                          rotate_left
                                          · simp only [Act.put, List.setIfInBounds_toArray, List.set_cons_zero, List.set_cons_succ, i64_w, i32_w]
                                            rfl
                                          refine pure_ (i := 1) (N := some 63) (v := ?_) (a' := ?_) #[true, true, false, false, false, false, false, false, false, false, false, false, false, false, false] rfl rfl (any_of HT_.out (by kernel_rfl)) (fun _ _ _ h => h) (Or.inl ⟨by rfl, ?_⟩) ?_ ?_
                                          rotate_left
                                          · intro w'
                                            go_simp
                                            with_reducible rfl
                                          rotate_left
                                          · simp only [Act.put, List.setIfInBounds_toArray, List.set_cons_zero, List.set_cons_succ, i64_w, i32_w]
                                            rfl
                                          refine pure_ (i := 2) (N := some 64) (v := ?_) (a' := ?_) #[true, true, true, false, false, false, false, false, false, false, false, false, false, false, false] rfl rfl (any_of HT_.out (by kernel_rfl)) (fun _ _ _ h => h) (Or.inl ⟨by rfl, ?_⟩) ?_ ?_
                                          rotate_left
                                          · intro w'
                                            go_simp
                                            with_reducible rfl
                                          rotate_left
                                          · simp only [Act.put, List.setIfInBounds_toArray, List.set_cons_zero, List.set_cons_succ, i64_w, i32_w]
                                            rfl
                                          refine take_ (i := 3) (N := some 65) (v := ?_) (a' := ?_) #[true, true, true, true, false, false, false, false, false, false, false, false, false, false, false] rfl rfl (take_ofW HT_.out HW_.out (by kernel_rfl)) (fun _ _ _ h => h) (Or.inl ⟨by rfl, ?_⟩) hHeld ?_ ?_
                                          rotate_left
                                          · rintro w' ⟨s0, s1, s2⟩
                                            go_simp
                                            with_reducible rfl
                                          rotate_left
                                          · simp only [Act.put, List.setIfInBounds_toArray, List.set_cons_zero, List.set_cons_succ, i64_w, i32_w]
                                            rfl
                                          refine pure_ (i := 4) (N := some 66) (v := ?_) (a' := ?_) #[true, true, true, true, true, false, false, false, false, false, false, false, false, false, false] rfl rfl (any_of HT_.out (by kernel_rfl)) (fun _ _ _ h => h) (Or.inl ⟨by rfl, ?_⟩) ?_ ?_
                                          rotate_left
                                          · intro w'
                                            go_simp
                                            with_reducible rfl
                                          rotate_left
                                          · simp only [Act.put, List.setIfInBounds_toArray, List.set_cons_zero, List.set_cons_succ, i64_w, i32_w]
                                            rfl
                                          refine pure_ (i := 5) (N := some 67) (v := ?_) (a' := ?_) #[true, true, true, true, true, true, false, false, false, false, false, false, false, false, false] rfl rfl (any_of HT_.out (by kernel_rfl)) (fun _ _ _ h => h) (Or.inl ⟨by rfl, ?_⟩) ?_ ?_
                                          rotate_left
                                          · intro w'
                                            go_simp
                                            with_reducible rfl
                                          rotate_left
                                          · simp only [Act.put, List.setIfInBounds_toArray, List.set_cons_zero, List.set_cons_succ, i64_w, i32_w]
                                            rfl
                                          refine pure_ (i := 6) (N := some 68) (v := ?_) (a' := ?_) #[true, true, true, true, true, true, true, false, false, false, false, false, false, false, false] rfl rfl (any_of HT_.out (by kernel_rfl)) (fun _ _ _ h => h) (Or.inl ⟨by rfl, ?_⟩) ?_ ?_
                                          rotate_left
                                          · intro w'
                                            go_simp
                                            with_reducible rfl
                                          rotate_left
                                          · simp only [Act.put, List.setIfInBounds_toArray, List.set_cons_zero, List.set_cons_succ, i64_w, i32_w]
                                            rfl
                                          refine pure_ (i := 7) (N := some 69) (v := ?_) (a' := ?_) #[true, true, true, true, true, true, true, true, false, false, false, false, false, false, false] rfl rfl (any_of HT_.out (by kernel_rfl)) (fun _ _ _ h => h) (Or.inl ⟨by rfl, ?_⟩) ?_ ?_
                                          rotate_left
                                          · intro w'
                                            go_simp
                                            with_reducible rfl
                                          rotate_left
                                          · simp only [Act.put, List.setIfInBounds_toArray, List.set_cons_zero, List.set_cons_succ, i64_w, i32_w]
                                            rfl
                                          refine pure_ (i := 8) (N := some 70) (v := ?_) (a' := ?_) #[true, true, true, true, true, true, true, true, true, false, false, false, false, false, false] rfl rfl (any_of HT_.out (by kernel_rfl)) (fun _ _ _ h => h) (Or.inl ⟨by rfl, ?_⟩) ?_ ?_
                                          rotate_left
                                          · intro w'
                                            go_simp
                                            with_reducible rfl
                                          rotate_left
                                          · simp only [Act.put, List.setIfInBounds_toArray, List.set_cons_zero, List.set_cons_succ, i64_w, i32_w]
                                            rfl
                                          refine pure_ (i := 10) (N := some 72) (v := ?_) (a' := ?_) #[true, true, true, true, true, true, true, true, true, false, true, false, false, false, false] rfl rfl (any_of HT_.out (by kernel_rfl)) (fun _ _ _ h => h) (Or.inl ⟨by rfl, ?_⟩) ?_ ?_
                                          rotate_left
                                          · intro w'
                                            go_simp
                                            with_reducible rfl
                                          rotate_left
                                          · simp only [Act.put, List.setIfInBounds_toArray, List.set_cons_zero, List.set_cons_succ, i64_w, i32_w]
                                            rfl
                                          refine take_ (i := 9) (N := some 71) (v := ?_) (a' := ?_) #[true, true, true, true, true, true, true, true, true, true, true, false, false, false, false] rfl rfl (take_ofW HT_.out HW_.out (by kernel_rfl)) (fun _ _ _ h => h) (Or.inl ⟨by rfl, ?_⟩) hHeld ?_ ?_
                                          rotate_left
                                          · rintro w' ⟨s0, s1, s2⟩
                                            go_simp
                                            with_reducible rfl
                                          rotate_left
                                          · simp only [Act.put, List.setIfInBounds_toArray, List.set_cons_zero, List.set_cons_succ, i64_w, i32_w]
                                            rfl
                                          refine take_ (i := 11) (N := some 73) (v := ?_) (a' := ?_) #[true, true, true, true, true, true, true, true, true, true, true, true, false, false, false] rfl rfl (take_ofW HT_.out HW_.out (by kernel_rfl)) (fun _ _ _ h => h) (Or.inl ⟨by rfl, ?_⟩) hHeld ?_ ?_
                                          rotate_left
                                          · rintro w' ⟨s0, s1, s2⟩
                                            go_simp
                                            with_reducible rfl
                                          rotate_left
                                          · simp only [Act.put, List.setIfInBounds_toArray, List.set_cons_zero, List.set_cons_succ, i64_w, i32_w]
                                            rfl
                                          refine pure_ (i := 12) (N := some 74) (v := ?_) (a' := ?_) #[true, true, true, true, true, true, true, true, true, true, true, true, true, false, false] rfl rfl (any_of HT_.out (by kernel_rfl)) (fun _ _ _ h => h) (Or.inl ⟨by rfl, ?_⟩) ?_ ?_
                                          rotate_left
                                          · intro w'
                                            go_simp
                                            with_reducible rfl
                                          rotate_left
                                          · simp only [Act.put, List.setIfInBounds_toArray, List.set_cons_zero, List.set_cons_succ, i64_w, i32_w]
                                            rfl
                                          refine pure_ (i := 13) (N := some 75) (v := ?_) (a' := ?_) #[true, true, true, true, true, true, true, true, true, true, true, true, true, true, false] rfl rfl (any_of HT_.out (by kernel_rfl)) (fun _ _ _ h => h) (Or.inl ⟨by rfl, ?_⟩) ?_ ?_
                                          rotate_left
                                          · intro w'
                                            go_simp
                                            with_reducible rfl
                                          rotate_left
                                          · simp only [Act.put, List.setIfInBounds_toArray, List.set_cons_zero, List.set_cons_succ, i64_w, i32_w]
                                            rfl
                                          refine pure_ (i := 14) (N := some 76) (v := ?_) (a' := ?_) #[true, true, true, true, true, true, true, true, true, true, true, true, true, true, true] rfl rfl (any_of HT_.out (by kernel_rfl)) (fun _ _ _ h => h) (Or.inl ⟨by rfl, ?_⟩) ?_ ?_
                                          rotate_left
                                          · intro w'
                                            go_simp
                                            with_reducible rfl
                                          rotate_left
                                          · simp only [Act.put, List.setIfInBounds_toArray, List.set_cons_zero, List.set_cons_succ, i64_w, i32_w]
                                            rfl
                                          refine done_ (done_of HT_.out (by kernel_rfl)) ?_
                                          try go_wp2
                                          have n0_ := Aside0.mk (Kd.R_drew HO_7.out)
                                          have n1_ := Aside0.mk (Kd.R_drew HO_9.out)
                                          have n2_ := Aside0.mk (blk_drew BK204.out)
                                          have n3_ := Aside0.mk (below_drew1 HB.out)
                                          clear HO_7
                                          clear HO_9
                                          clear BK204
                                          clear HB
                                          have HO_7 := n0_
                                          have HO_9 := n1_
                                          have BK204 := n2_
                                          have HB := n3_
                                          clear n0_ n1_ n2_ n3_
                                          have p220 : 0 ≤ (x10_2 : Int) := of_decide_eq_true (by first | (with_reducible assumption) | assumption)
                                          have q220 : x10_2 < (t210.length : Int) := of_decide_eq_true (by first | (with_reducible assumption) | assumption)
                                          obtain ⟨ad220, e220, hx220_0⟩ := Kd.at_int (Kd.R_reads' HO_7.out).2.2 x10_2 p220 q220
                                          obtain rfl : ad218 = ad220 := (by injection e220)
                                          replace p220 := eq_true p220
                                          replace q220 := eq_true q220
                                          have p221 : 0 ≤ ((rd t210 x10_2) : Int) := of_decide_eq_true (by first | (with_reducible assumption) | assumption)
                                          have q221 : (rd t210 x10_2) < (l0_0.length : Int) := of_decide_eq_true (by first | (with_reducible assumption) | assumption)
                                          obtain ⟨ad221, A221_0, c221_0, e221, hx221_0, hl221_0, hi221_0⟩ := at_L4 HR0_0.out (rd t210 x10_2) p221 q221
                                          have hw221_0 := hx221_0
                                          cases e221
                                          replace hx221_0 := (HB.out.cell (World.block_lt_of_cell? w _ hx221_0)).trans hx221_0
                                          have HR221_0 := Aside0.mk hi221_0
                                          have HC221_0 := Aside0.mk hl221_0
                                          clear hi221_0 hl221_0
                                          replace p221 := eq_true p221
                                          replace q221 := eq_true q221
                                          have p222 : 0 ≤ (x10_2 : Int) := of_decide_eq_true (by first | (with_reducible assumption) | assumption)
                                          have q222 : x10_2 < (l2.length : Int) := of_decide_eq_true (by first | (with_reducible assumption) | assumption)
                                          obtain ⟨ad222, e222, hx222_0⟩ := Kd.at_int HR2.out x10_2 p222 q222
                                          have hw222_0 := hx222_0
                                          cases e222
                                          replace hx222_0 := (HB.out.cell (World.block_lt_of_cell? w _ hx222_0)).trans hx222_0
                                          replace p222 := eq_true p222
                                          replace q222 := eq_true q222
                                          have p223 : 0 ≤ ((rd l2 x10_2) : Int) := of_decide_eq_true (by first | (with_reducible assumption) | assumption)
                                          have q223 : (rd l2 x10_2) < ((rd_L4 l0_0 (rd t210 x10_2)).length : Int) := of_decide_eq_true (by first | (with_reducible assumption) | assumption)
                                          obtain ⟨ad223, e223, hx223_0, hx223_1⟩ := at_T44 HR221_0.out (rd l2 x10_2) p223 q223
                                          have hw223_1 := hx223_1
                                          have hw223_0 := hx223_0
                                          cases e223
                                          replace hx223_0 := (HB.out.cell (World.block_lt_of_cell? w _ hx223_0)).trans hx223_0
                                          replace hx223_1 := (HB.out.cell (World.block_lt_of_cell? w _ hx223_1)).trans hx223_1
                                          replace p223 := eq_true p223
                                          replace q223 := eq_true q223
                                          have p53 : 0 ≤ ((ji50) : Int) := of_decide_eq_true (by first | (with_reducible assumption) | assumption)
                                          have q53 : ((ji50) : Int) < ((x9_2.length : Int) : Int) := of_decide_eq_true (by first | (with_reducible assumption) | assumption)
                                          obtain ⟨go53, co53, eo53, gb53, gl53, cl53, HG53⟩ := Kd.R_form HO_9.out (by omega)
                                          (first | cases eo53 | (injection eo53 with ea_ en_ ec_; (first | subst ea_ | (injection ea_ with ea_; subst ea_)); subst ec_; clear en_))
                                          have GB53 := Aside0.mk gb53
                                          have GG53 := Aside0.mk HG53
                                          clear gb53 gl53 HG53
                                          obtain ⟨hx53_0, hf53_0⟩ := Kd.R_celln 0 HO_9.out ((ji50) : Int) p53 q53
                                          replace p53 := eq_true p53
                                          replace q53 := eq_true q53
                                          have HP56 := Kd.R_putn HO_9.out ((ji50) : Int) ((rd_T44 (rd_L4 l0_0 (rd t210 x10_2)) (rd l2 x10_2)).f1)
                                          rw [← Ny224.out] at HP56
                                          have HQ56 := Aside0.mk HP56
                                          clear HP56
                                          refine start_ (n := 23) (S := fun w' => w'.cell? ⟨gb204, 0, none⟩ = some (.slice (some ad221) l0_0.length c0_0) ∧ w'.cell? (ad218.add (x10_2).toNat) = some (.int .i64 (rd t210 x10_2)) ∧ w'.cell? (ad221.add ((rd t210 x10_2)).toNat) = some (.slice (some ad223) (rd_L4 l0_0 (rd t210 x10_2)).length c221_0) ∧ w'.cell? (ad222.add (x10_2).toNat) = some (.int .i64 (rd l2 x10_2)) ∧ w'.cell? (ad223.add (((rd l2 x10_2)).toNat * 2)) = some (.int .i64 ((rd_T44 (rd_L4 l0_0 (rd t210 x10_2)) (rd l2 x10_2)).f0)) ∧ w'.cell? ⟨(ad223.add (((rd l2 x10_2)).toNat * 2)).block, (ad223.add (((rd l2 x10_2)).toNat * 2)).off + 1, none⟩ = some (.int .i64 ((rd_T44 (rd_L4 l0_0 (rd t210 x10_2)) (rd l2 x10_2)).f1))) (ds := [22]) #[false, false, false, false, false, false, false, false, false, false, false, false, false, false, false, false, false, false, false, false, false, false, false] (by kernel_rfl) rfl rfl ⟨(blk_cell BK204.out 0).trans rfl, hx220_0, ((HB.out.cell (World.block_lt_of_cell? w _ hw221_0)).trans hw221_0), ((HB.out.cell (World.block_lt_of_cell? w _ hw222_0)).trans hw222_0), ((HB.out.cell (World.block_lt_of_cell? w _ hw223_0)).trans hw223_0), ((HB.out.cell (World.block_lt_of_cell? w _ hw223_1)).trans hw223_1)⟩ (fun hHeld => ?_); refine with_tabW mizmazelaw10_MazeBack.tab14 mizmazelaw10_MazeBack.bits14 (fun HT_ HW_ => ?_)
                                          generalize w54.drew = w55 at HO_7 HO_9 BK204 HB GG53 HQ56 HR221_0 hf53_0 hx220_0 hx221_0 hx222_0 hx223_0 hx223_1 hx53_0 hHeld ⊢
                                          refine pure_ (i := 0) (N := some 77) (v := ?_) (a' := ?_) #[true, false, false, false, false, false, false, false, false, false, false, false, false, false, false, false, false, false, false, false, false, false, false] rfl rfl (any_of HT_.out (by kernel_rfl)) (fun _ _ _ h => h) (Or.inl ⟨by rfl, ?_⟩) ?_ ?_
                                          rotate_left
                                          · intro w'
                                            go_simp
                                            with_reducible rfl
                                          rotate_left
                                          · simp only [Act.put, List.setIfInBounds_toArray, List.set_cons_zero, List.set_cons_succ, i64_w, i32_w]
                                            rfl
                                          refine pure_ (i := 1) (N := some 78) (v := ?_) (a' := ?_) #[true, true, false, false, false, false, false, false, false, false, false, false, false, false, false, false, false, false, false, false, false, false, false] rfl rfl (any_of HT_.out (by kernel_rfl)) (fun _ _ _ h => h) (Or.inl ⟨by rfl, ?_⟩) ?_ ?_
                                          rotate_left
                                          · intro w'
                                            go_simp
                                            with_reducible rfl
                                          rotate_left
                                          · simp only [Act.put, List.setIfInBounds_toArray, List.set_cons_zero, List.set_cons_succ, i64_w, i32_w]
                                            rfl
                                          refine pure_ (i := 2) (N := some 79) (v := ?_) (a' := ?_) #[true, true, true, false, false, false, false, false, false, false, false, false, false, false, false, false, false, false, false, false, false, false, false] rfl rfl (any_of HT_.out (by kernel_rfl)) (fun _ _ _ h => h) (Or.inl ⟨by rfl, ?_⟩) ?_ ?_
                                          rotate_left
                                          · intro w'
                                            go_simp
                                            with_reducible rfl
                                          rotate_left
                                          · simp only [Act.put, List.setIfInBounds_toArray, List.set_cons_zero, List.set_cons_succ, i64_w, i32_w]
                                            rfl
                                          refine pure_ (i := 3) (N := some 80) (v := ?_) (a' := ?_) #[true, true, true, true, false, false, false, false, false, false, false, false, false, false, false, false, false, false, false, false, false, false, false] rfl rfl (any_of HT_.out (by kernel_rfl)) (fun _ _ _ h => h) (Or.inl ⟨by rfl, ?_⟩) ?_ ?_
                                          rotate_left
                                          · intro w'
                                            go_simp
                                            with_reducible rfl
                                          rotate_left
                                          · simp only [Act.put, List.setIfInBounds_toArray, List.set_cons_zero, List.set_cons_succ, i64_w, i32_w]
                                            rfl
                                          refine pure_ (i := 4) (N := some 81) (v := ?_) (a' := ?_) #[true, true, true, true, true, false, false, false, false, false, false, false, false, false, false, false, false, false, false, false, false, false, false] rfl rfl (any_of HT_.out (by kernel_rfl)) (fun _ _ _ h => h) (Or.inl ⟨by rfl, ?_⟩) ?_ ?_
                                          rotate_left
                                          · intro w'
                                            go_simp
                                            with_reducible rfl
                                          rotate_left
                                          · simp only [Act.put, List.setIfInBounds_toArray, List.set_cons_zero, List.set_cons_succ, i64_w, i32_w]
                                            rfl
                                          refine pure_ (i := 5) (N := some 82) (v := ?_) (a' := ?_) #[true, true, true, true, true, true, false, false, false, false, false, false, false, false, false, false, false, false, false, false, false, false, false] rfl rfl (any_of HT_.out (by kernel_rfl)) (fun _ _ _ h => h) (Or.inl ⟨by rfl, ?_⟩) ?_ ?_
                                          rotate_left
                                          · intro w'
                                            go_simp
                                            with_reducible rfl
                                          rotate_left
                                          · simp only [Act.put, List.setIfInBounds_toArray, List.set_cons_zero, List.set_cons_succ, i64_w, i32_w]
                                            rfl
                                          refine pure_ (i := 6) (N := some 83) (v := ?_) (a' := ?_) #[true, true, true, true, true, true, true, false, false, false, false, false, false, false, false, false, false, false, false, false, false, false, false] rfl rfl (any_of HT_.out (by kernel_rfl)) (fun _ _ _ h => h) (Or.inl ⟨by rfl, ?_⟩) ?_ ?_
                                          rotate_left
                                          · intro w'
                                            go_simp
                                            with_reducible rfl
                                          rotate_left
                                          · simp only [Act.put, List.setIfInBounds_toArray, List.set_cons_zero, List.set_cons_succ, i64_w, i32_w]
                                            rfl
                                          refine pure_ (i := 8) (N := some 85) (v := ?_) (a' := ?_) #[true, true, true, true, true, true, true, false, true, false, false, false, false, false, false, false, false, false, false, false, false, false, false] rfl rfl (any_of HT_.out (by kernel_rfl)) (fun _ _ _ h => h) (Or.inl ⟨by rfl, ?_⟩) ?_ ?_
                                          rotate_left
                                          · intro w'
                                            go_simp
                                            with_reducible rfl
                                          rotate_left
                                          · simp only [Act.put, List.setIfInBounds_toArray, List.set_cons_zero, List.set_cons_succ, i64_w, i32_w]
                                            rfl
                                          refine pure_ (i := 9) (N := some 86) (v := ?_) (a' := ?_) #[true, true, true, true, true, true, true, false, true, true, false, false, false, false, false, false, false, false, false, false, false, false, false] rfl rfl (any_of HT_.out (by kernel_rfl)) (fun _ _ _ h => h) (Or.inl ⟨by rfl, ?_⟩) ?_ ?_
                                          rotate_left
                                          · intro w'
                                            go_simp
                                            with_reducible rfl
                                          rotate_left
                                          · simp only [Act.put, List.setIfInBounds_toArray, List.set_cons_zero, List.set_cons_succ, i64_w, i32_w]
                                            rfl
                                          refine pure_ (i := 10) (N := some 87) (v := ?_) (a' := ?_) #[true, true, true, true, true, true, true, false, true, true, true, false, false, false, false, false, false, false, false, false, false, false, false] rfl rfl (any_of HT_.out (by kernel_rfl)) (fun _ _ _ h => h) (Or.inl ⟨by rfl, ?_⟩) ?_ ?_
                                          rotate_left
                                          · intro w'
                                            go_simp
                                            with_reducible rfl
                                          rotate_left
                                          · simp only [Act.put, List.setIfInBounds_toArray, List.set_cons_zero, List.set_cons_succ, i64_w, i32_w]
                                            rfl
                                          refine pure_ (i := 14) (N := some 91) (v := ?_) (a' := ?_) #[true, true, true, true, true, true, true, false, true, true, true, false, false, false, true, false, false, false, false, false, false, false, false] rfl rfl (any_of HT_.out (by kernel_rfl)) (fun _ _ _ h => h) (Or.inl ⟨by rfl, ?_⟩) ?_ ?_
                                          rotate_left
                                          · intro w'
                                            go_simp
                                            with_reducible rfl
                                          rotate_left
                                          · simp only [Act.put, List.setIfInBounds_toArray, List.set_cons_zero, List.set_cons_succ, i64_w, i32_w]
                                            rfl
                                          refine pure_ (i := 15) (N := some 92) (v := ?_) (a' := ?_) #[true, true, true, true, true, true, true, false, true, true, true, false, false, false, true, true, false, false, false, false, false, false, false] rfl rfl (any_of HT_.out (by kernel_rfl)) (fun _ _ _ h => h) (Or.inl ⟨by rfl, ?_⟩) ?_ ?_
                                          rotate_left
                                          · intro w'
                                            go_simp
                                            with_reducible rfl
                                          rotate_left
                                          · simp only [Act.put, List.setIfInBounds_toArray, List.set_cons_zero, List.set_cons_succ, i64_w, i32_w]
                                            rfl
                                          refine pure_ (i := 16) (N := some 93) (v := ?_) (a' := ?_) #[true, true, true, true, true, true, true, false, true, true, true, false, false, false, true, true, true, false, false, false, false, false, false] rfl rfl (any_of HT_.out (by kernel_rfl)) (fun _ _ _ h => h) (Or.inl ⟨by rfl, ?_⟩) ?_ ?_
                                          rotate_left
                                          · intro w'
                                            go_simp
                                            with_reducible rfl
                                          rotate_left
                                          · simp only [Act.put, List.setIfInBounds_toArray, List.set_cons_zero, List.set_cons_succ, i64_w, i32_w]
                                            rfl
                                          refine take_ (i := 7) (N := some 84) (v := ?_) (a' := ?_) #[true, true, true, true, true, true, true, true, true, true, true, false, false, false, true, true, true, false, false, false, false, false, false] rfl rfl (take_ofW HT_.out HW_.out (by kernel_rfl)) (fun _ _ _ h => h) (Or.inl ⟨by rfl, ?_⟩) hHeld ?_ ?_
                                          rotate_left
                                          · rintro w' ⟨s0, s1, s2, s3, s4, s5⟩
                                            go_simp
                                            with_reducible rfl
                                          rotate_left
                                          · simp only [Act.put, List.setIfInBounds_toArray, List.set_cons_zero, List.set_cons_succ, i64_w, i32_w]
                                            rfl
                                          refine take_ (i := 11) (N := some 88) (v := ?_) (a' := ?_) #[true, true, true, true, true, true, true, true, true, true, true, true, false, false, true, true, true, false, false, false, false, false, false] rfl rfl (take_ofW HT_.out HW_.out (by kernel_rfl)) (fun _ _ _ h => h) (Or.inl ⟨by rfl, ?_⟩) hHeld ?_ ?_
                                          rotate_left
                                          · rintro w' ⟨s0, s1, s2, s3, s4, s5⟩
                                            go_simp
                                            with_reducible rfl
                                          rotate_left
                                          · simp only [Act.put, List.setIfInBounds_toArray, List.set_cons_zero, List.set_cons_succ, i64_w, i32_w]
                                            rfl
                                          refine pure_ (i := 12) (N := some 89) (v := ?_) (a' := ?_) #[true, true, true, true, true, true, true, true, true, true, true, true, true, false, true, true, true, false, false, false, false, false, false] rfl rfl (any_of HT_.out (by kernel_rfl)) (fun _ _ _ h => h) (Or.inl ⟨by rfl, ?_⟩) ?_ ?_
                                          rotate_left
                                          · intro w'
                                            go_simp
                                            with_reducible rfl
                                          rotate_left
                                          · simp only [Act.put, List.setIfInBounds_toArray, List.set_cons_zero, List.set_cons_succ, i64_w, i32_w]
                                            rfl
                                          refine take_ (i := 13) (N := some 90) (v := ?_) (a' := ?_) #[true, true, true, true, true, true, true, true, true, true, true, true, true, true, true, true, true, false, false, false, false, false, false] rfl rfl (take_ofW HT_.out HW_.out (by kernel_rfl)) (fun _ _ _ h => h) (Or.inl ⟨by rfl, ?_⟩) hHeld ?_ ?_
                                          rotate_left
                                          · rintro w' ⟨s0, s1, s2, s3, s4, s5⟩
                                            go_simp
                                            with_reducible rfl
                                          rotate_left
                                          · simp only [Act.put, List.setIfInBounds_toArray, List.set_cons_zero, List.set_cons_succ, i64_w, i32_w]
                                            rfl
                                          refine take_ (i := 17) (N := some 94) (v := ?_) (a' := ?_) #[true, true, true, true, true, true, true, true, true, true, true, true, true, true, true, true, true, true, false, false, false, false, false] rfl rfl (take_ofW HT_.out HW_.out (by kernel_rfl)) (fun _ _ _ h => h) (Or.inl ⟨by rfl, ?_⟩) hHeld ?_ ?_
                                          rotate_left
                                          · rintro w' ⟨s0, s1, s2, s3, s4, s5⟩
                                            go_simp
                                            with_reducible rfl
                                          rotate_left
                                          · simp only [Act.put, List.setIfInBounds_toArray, List.set_cons_zero, List.set_cons_succ, i64_w, i32_w]
                                            rfl
                                          refine pure_ (i := 18) (N := some 95) (v := ?_) (a' := ?_) #[true, true, true, true, true, true, true, true, true, true, true, true, true, true, true, true, true, true, true, false, false, false, false] rfl rfl (any_of HT_.out (by kernel_rfl)) (fun _ _ _ h => h) (Or.inl ⟨by rfl, ?_⟩) ?_ ?_
                                          rotate_left
                                          · intro w'
                                            go_simp
                                            with_reducible rfl
                                          rotate_left
                                          · simp only [Act.put, List.setIfInBounds_toArray, List.set_cons_zero, List.set_cons_succ, i64_w, i32_w]
                                            rfl
                                          refine pure_ (i := 19) (N := some 96) (v := ?_) (a' := ?_) #[true, true, true, true, true, true, true, true, true, true, true, true, true, true, true, true, true, true, true, true, false, false, false] rfl rfl (any_of HT_.out (by kernel_rfl)) (fun _ _ _ h => h) (Or.inl ⟨by rfl, ?_⟩) ?_ ?_
                                          rotate_left
                                          · intro w'
                                            go_simp
                                            with_reducible rfl
                                          rotate_left
                                          · simp only [Act.put, List.setIfInBounds_toArray, List.set_cons_zero, List.set_cons_succ, i64_w, i32_w]
                                            rfl
                                          refine take_ (i := 20) (N := some 97) (v := ?_) (a' := ?_) #[true, true, true, true, true, true, true, true, true, true, true, true, true, true, true, true, true, true, true, true, true, false, false] rfl rfl (take_ofW HT_.out HW_.out (by kernel_rfl)) (fun _ _ _ h => h) (Or.inl ⟨by rfl, ?_⟩) hHeld ?_ ?_
                                          rotate_left
                                          · rintro w' ⟨s0, s1, s2, s3, s4, s5⟩
                                            go_simp
                                            with_reducible rfl
                                          rotate_left
                                          · simp only [Act.put, List.setIfInBounds_toArray, List.set_cons_zero, List.set_cons_succ, i64_w, i32_w]
                                            rfl
                                          refine pure_ (i := 21) (N := some 98) (v := ?_) (a' := ?_) #[true, true, true, true, true, true, true, true, true, true, true, true, true, true, true, true, true, true, true, true, true, true, false] rfl rfl (any_of HT_.out (by kernel_rfl)) (fun _ _ _ h => h) (Or.inl ⟨by rfl, ?_⟩) ?_ ?_
                                          rotate_left
                                          · intro w'
                                            go_simp
                                            with_reducible rfl
                                          rotate_left
                                          · simp only [Act.put, List.setIfInBounds_toArray, List.set_cons_zero, List.set_cons_succ, i64_w, i32_w]
                                            rfl
                                          refine last_ (i := 22) (N := none) #[true, true, true, true, true, true, true, true, true, true, true, true, true, true, true, true, true, true, true, true, true, true, true] rfl rfl (one_of HT_.out (by kernel_rfl)) (by decide) (fun K hK => ?_)
                                          refine skip_ (w1 := ?_) (by rfl) rfl ?_ ?_
                                          rotate_left
                                          · go_simp
                                            rfl
                                          refine hK.out _ _ ?_
                                          clear hK K
                                          refine done_ (done_of HT_.out (by kernel_rfl)) ?_
                                          try go_wp2
                                          go_roundg k2
                                          case measure => have := HJ3.out; have := HK2.out; omega
                                          case rel => exact ⟨(y224), (wrap64 (x10_2 + 1)), (by first | rfl | (simp; done) | (simp [*]; done)), H', ⟨by have := HJ3.out; have := HK2.out; omega⟩, ⟨by (with_reducible repeat (first | apply Kd.R_alloc | apply Kd.R_drewN | apply Kd.R_drew)); exact Kd.R_mono (Kd.R_far (p := ⟨go53, ((ji50) : Int).toNat, none⟩) (Kd.R_mono HO_7.out (fun k_ hk => (⟨hk, fun e_ => hk (by rw [e_]; rfl)⟩ : _ ∧ k_ ≠ go53))) (fun _ hk => hk.2) (.int .i64 ((rd_T44 (rd_L4 l0_0 (rd t210 x10_2)) (rd l2 x10_2)).f1))) (fun _ hk => hk.1)⟩, ⟨by (with_reducible repeat (first | apply Kd.R_alloc | apply Kd.R_drewN | apply Kd.R_drew)); exact HQ56.out⟩, ⟨by (with_reducible repeat (first | refine blk_drewN ?_ _ | refine blk_drew ?_ | refine blk_alloc ?_ _)); refine blk_far ?_ (by have h_ := Kd.R_ne HO_9.out BK204.out (by decide); intro e_; exact h_ (by rw [e_]; rfl)) _; (with_reducible repeat (first | refine blk_drewN ?_ _ | refine blk_drew ?_ | refine blk_alloc ?_ _)); exact BK204.out⟩, ⟨by repeat (first | (with_reducible first | exact HB.out | apply below_alloc | apply pw_below_drewN | apply below_drew1 | refine below_set ?_ GB53.out | refine below_set ?_ GE204.out) | exact HB.out)⟩⟩
                                        · rw [if_neg c52] at H
                                          exact absurd H (by simp)
                                      · rw [if_neg c51] at H
                                        exact absurd H (by simp)
                                    · rw [if_neg c49] at H
                                      exact absurd H (by simp)
                                  · rw [if_neg c48] at H
                                    exact absurd H (by simp)
                                · rw [if_neg c47] at H
                                  exact absurd H (by simp)
                              · rw [if_neg c46] at H
                                exact absurd H (by simp)
                        · rw [if_neg c41] at H
                          exact absurd H (by simp)
                      · rw [if_neg c40] at H
                        exact absurd H (by simp)
                    · rw [if_neg c39] at H
                      have c39b0 : decide (x10_2 < (l2.length : Int)) = false := decide_eq_false c39
                      clear c39
                      obtain ⟨ji57, hji57⟩ : ∃ j_ : Int, (wrap64 ((t210.length : Int) - 1)) = j_ := ⟨_, rfl⟩
                      replace H : (if 0 ≤ (ji57) then (if (ji57) < (t210.length : Int) then ((maze_Walk.f k2 l0_0 (rd t210 (ji57)) x9_2).bind fun bt226 => (if bt226.2 = 0 then (mizmazelaw10_MazeBack.j2 k2 t210 bt226.1 ((bt226.1.length : Int) != (t210.length : Int))) else (mizmazelaw10_MazeBack.j2 k2 t210 bt226.1 true))) else (none)) else (none)) = some r := by first | (rw [hji57] at H; exact H) | (simp only [hji57] at H ⊢; exact H)
                      have hji57w : (IntKind.i64.wrap ((t210.length : Int) - 1)) = ji57 := (i64_w _).trans hji57
                      by_cases c58 : 0 ≤ (ji57)
                      · rw [if_pos c58] at H
                        have c58b0 : decide (0 ≤ (ji57)) = true := decide_eq_true c58
                        clear c58
                        by_cases c59 : (ji57) < (t210.length : Int)
                        · rw [if_pos c59] at H
                          have c59b0 : decide ((ji57) < (t210.length : Int)) = true := decide_eq_true c59
                          clear c59
                          replace H := Option.bind_eq_some_iff.mp H
                          obtain ⟨⟨t226, t229⟩, A600, H⟩ := H
                          replace H : (if t229 = 0 then (mizmazelaw10_MazeBack.j2 k2 t210 t226 ((t226.length : Int) != (t210.length : Int))) else (mizmazelaw10_MazeBack.j2 k2 t210 t226 true)) = some r := H
                          have A60 := Aside0.mk A600
                          clear A600
                          have HC61 := Aside0.mk H
                          clear H
                          try go_wp2
                          have n0_ := Aside0.mk (Kd.R_drew HO_7.out)
                          have n1_ := Aside0.mk (Kd.R_drew HO_9.out)
                          have n2_ := Aside0.mk (blk_drew BK204.out)
                          have n3_ := Aside0.mk (below_drew1 HB.out)
                          clear HO_7
                          clear HO_9
                          clear BK204
                          clear HB
                          have HO_7 := n0_
                          have HO_9 := n1_
                          have BK204 := n2_
                          have HB := n3_
                          clear n0_ n1_ n2_ n3_
                          have p225 : 0 ≤ ((ji57) : Int) := of_decide_eq_true (by first | (with_reducible assumption) | assumption)
                          have q225 : (ji57) < (t210.length : Int) := of_decide_eq_true (by first | (with_reducible assumption) | assumption)
                          obtain ⟨ad225, e225, hx225_0⟩ := Kd.at_int (Kd.R_reads' HO_7.out).2.2 (ji57) p225 q225
                          cases e225
                          replace p225 := eq_true p225
                          replace q225 := eq_true q225
                          obtain ⟨Ao63, co63, eo63⟩ := Kd.R_slice HO_9.out
                          (first | subst eo63 | (injection eo63 with f1_ f2_ f3_; have f4_ := f1_.symm; have f5_ := f3_.symm; clear f1_ f2_ f3_; subst f4_; subst f5_))
                          refine start_ (n := 14) (S := fun w' => w'.cell? ⟨gb204, 0, none⟩ = some (.slice A0_0 l0_0.length c0_0) ∧ w'.cell? (ad225.add ((ji57)).toNat) = some (.int .i64 (rd t210 (ji57)))) (ds := []) #[false, false, false, false, false, false, false, false, false, false, false, false, false, false] (by kernel_rfl) rfl rfl ⟨(blk_cell BK204.out 0).trans rfl, hx225_0⟩ (fun hHeld => ?_); refine with_tabW mizmazelaw10_MazeBack.tab15 mizmazelaw10_MazeBack.bits15 (fun HT_ HW_ => ?_)
                          generalize wr.drew = w62 at HO_7 HO_9 BK204 HB hx225_0 hHeld ⊢
                          refine pure_ (i := 1) (N := some 101) (v := ?_) (a' := ?_) #[false, true, false, false, false, false, false, false, false, false, false, false, false, false] rfl rfl (any_of HT_.out (by kernel_rfl)) (fun _ _ _ h => h) (Or.inl ⟨by rfl, ?_⟩) ?_ ?_
                          rotate_left
                          · intro w'
                            go_simp
                            with_reducible rfl
                          rotate_left
                          · simp only [Act.put, List.setIfInBounds_toArray, List.set_cons_zero, List.set_cons_succ, i64_w, i32_w]
                            rfl
                          refine pure_ (i := 2) (N := some 102) (v := ?_) (a' := ?_) #[false, true, true, false, false, false, false, false, false, false, false, false, false, false] rfl rfl (any_of HT_.out (by kernel_rfl)) (fun _ _ _ h => h) (Or.inl ⟨by rfl, ?_⟩) ?_ ?_
                          rotate_left
                          · intro w'
                            go_simp
                            with_reducible rfl
                          rotate_left
                          · simp only [Act.put, List.setIfInBounds_toArray, List.set_cons_zero, List.set_cons_succ, i64_w, i32_w]
                            rfl
                          refine pure_ (i := 3) (N := some 103) (v := ?_) (a' := ?_) #[false, true, true, true, false, false, false, false, false, false, false, false, false, false] rfl rfl (any_of HT_.out (by kernel_rfl)) (fun _ _ _ h => h) (Or.inl ⟨by rfl, ?_⟩) ?_ ?_
                          rotate_left
                          · intro w'
                            go_simp
                            with_reducible rfl
                          rotate_left
                          · simp only [Act.put, List.setIfInBounds_toArray, List.set_cons_zero, List.set_cons_succ, i64_w, i32_w]
                            rfl
                          refine pure_ (i := 4) (N := some 104) (v := ?_) (a' := ?_) #[false, true, true, true, true, false, false, false, false, false, false, false, false, false] rfl rfl (any_of HT_.out (by kernel_rfl)) (fun _ _ _ h => h) (Or.inl ⟨by rfl, ?_⟩) ?_ ?_
                          rotate_left
                          · intro w'
                            go_simp
                            with_reducible rfl
                          rotate_left
                          · simp only [Act.put, List.setIfInBounds_toArray, List.set_cons_zero, List.set_cons_succ, i64_w, i32_w]
                            rfl
                          refine pure_ (i := 5) (N := some 105) (v := ?_) (a' := ?_) #[false, true, true, true, true, true, false, false, false, false, false, false, false, false] rfl rfl (any_of HT_.out (by kernel_rfl)) (fun _ _ _ h => h) (Or.inl ⟨by rfl, ?_⟩) ?_ ?_
                          rotate_left
                          · intro w'
                            go_simp
                            with_reducible rfl
                          rotate_left
                          · simp only [Act.put, List.setIfInBounds_toArray, List.set_cons_zero, List.set_cons_succ, i64_w, i32_w]
                            rfl
                          refine pure_ (i := 7) (N := some 107) (v := ?_) (a' := ?_) #[false, true, true, true, true, true, false, true, false, false, false, false, false, false] rfl rfl (any_of HT_.out (by kernel_rfl)) (fun _ _ _ h => h) (Or.inl ⟨by rfl, ?_⟩) ?_ ?_
                          rotate_left
                          · intro w'
                            go_simp
                            with_reducible rfl
                          rotate_left
                          · simp only [Act.put, List.setIfInBounds_toArray, List.set_cons_zero, List.set_cons_succ, i64_w, i32_w]
                            rfl
                          refine take_ (i := 0) (N := some 100) (v := ?_) (a' := ?_) #[true, true, true, true, true, true, false, true, false, false, false, false, false, false] rfl rfl (take_ofW HT_.out HW_.out (by kernel_rfl)) (fun _ _ _ h => h) (Or.inl ⟨by rfl, ?_⟩) hHeld ?_ ?_
                          rotate_left
                          · rintro w' ⟨s0, s1⟩
                            go_simp
                            with_reducible rfl
                          rotate_left
                          · simp only [Act.put, List.setIfInBounds_toArray, List.set_cons_zero, List.set_cons_succ, i64_w, i32_w]
                            rfl
                          refine take_ (i := 6) (N := some 106) (v := ?_) (a' := ?_) #[true, true, true, true, true, true, true, true, false, false, false, false, false, false] rfl rfl (take_ofW HT_.out HW_.out (by kernel_rfl)) (fun _ _ _ h => h) (Or.inl ⟨by rfl, ?_⟩) hHeld ?_ ?_
                          rotate_left
                          · rintro w' ⟨s0, s1⟩
                            go_simp
                            with_reducible rfl
                          rotate_left
                          · simp only [Act.put, List.setIfInBounds_toArray, List.set_cons_zero, List.set_cons_succ, i64_w, i32_w]
                            rfl
                          refine one_ (i := 8) (N := some 108) #[true, true, true, true, true, true, true, true, true, false, false, false, false, false] rfl rfl (one_of HT_.out (by kernel_rfl)) (by decide) (fun K hK => ?_)
                          refine goes_ Try.func22 (by kernel_rfl) rfl #[.agg #[.slice A0_0 l0_0.length c0_0], .int .i64 (rd t210 (ji57)), .slice Ao63 x9_2.length co63] (by rfl) rfl rfl (by (try simp only [List.map_toArray, List.map_cons, List.map_nil]); first | done | (simp only [hji57]; rfl) | rfl | (simp only [List.length_drop, List.length_take]; rfl)) ?_
                          with_reducible refine (maze_Walk.calls k2 _ _ l0_0 (rd t210 (ji57)) _ _ x9_2 t226 t229 _ ?side1 ?side2 ?side3 ?side4 A60.out).mono ?_
                          (case side1 => repeat (first | exact (Kd.C_below HR0_0.out HB.out) | (with_reducible refine Kd.C_alloc ?_ _) | (with_reducible refine Kd.C_drewN ?_ _) | (with_reducible refine Kd.C_drew ?_)))
                          (case side2 => exact HC0_0.out)
                          (case side3 => repeat (first | exact (Kd.R_reads' HO_9.out).2.2 | (with_reducible refine Kd.C_alloc ?_ _) | (with_reducible refine Kd.C_drewN ?_ _) | (with_reducible refine Kd.C_drew ?_)))
                          (case side4 => exact (Kd.R_reads' HO_9.out).2.1)
                          rintro e w64 ⟨v227, rfl, ho0, hb⟩
                          have HS1_ := (hb.cell (World.block_lt_of_cell? _ _ (hHeld.2))).trans (hHeld.2)
                          refine ⟨_, rfl, ?_⟩
                          have n0_ := Aside0.mk (Kd.R_elder' (by (with_reducible repeat (first | apply Kd.R_alloc | apply Kd.R_drewN | apply Kd.R_drew)); exact HO_7.out) (Kd.R_base ho0) hb)
                          have n1_ := Aside0.mk (Kd.R_elder' (by (with_reducible repeat (first | apply Kd.R_alloc | apply Kd.R_drewN | apply Kd.R_drew)); exact HO_9.out) (Kd.R_base ho0) hb)
                          have n2_ := Aside0.mk (Kd.R_lower (Kd.R_new' (Kd.R_new' ho0 (Kd.R_lt (by (with_reducible repeat (first | apply Kd.R_alloc | apply Kd.R_drewN | apply Kd.R_drew)); exact HO_7.out))) (Kd.R_lt (by (with_reducible repeat (first | apply Kd.R_alloc | apply Kd.R_drewN | apply Kd.R_drew)); exact HO_9.out))) (below_size (by repeat (first | (with_reducible first | exact HB.out | apply below_alloc | apply pw_below_drewN | apply below_drew1 | refine below_set ?_ GE204.out) | exact HB.out))))
                          have n3_ := Aside0.mk (blk_below (g := gb204) (o := .cells #[.slice A0_0 l0_0.length c0_0] 38 (0, 0)) (by (with_reducible repeat (first | refine blk_drewN ?_ _ | refine blk_drew ?_ | refine blk_alloc ?_ _)); exact BK204.out) hb)
                          have n4_ := Aside0.mk (below_step (by repeat (first | (with_reducible first | exact HB.out | apply below_alloc | apply pw_below_drewN | apply below_drew1 | refine below_set ?_ GE204.out) | exact HB.out)) hb)
                          clear HO_7
                          clear HO_9
                          clear BK204
                          clear HB
                          have HO_7 := n0_
                          have HO_9 := n1_
                          have HO228 := n2_
                          have BK204 := n3_
                          have HB := n4_
                          clear n0_ n1_ n2_ n3_ n4_
                          (try clear hb)
                          (try clear hb2)
                          (try clear hk)
                          (try clear hi)
                          (try clear ho0)
                          refine hK.out _ _ ⟨(blk_cell BK204.out 0).trans rfl, HS1_⟩ (fun hHeld => ?_)
                          clear hK K
                          refine norm_ (a' := ?_) ?_ ?_
                          rotate_left
                          · show Act.put _ (some 108) _ = _
                            simp only [Act.put, List.setIfInBounds_toArray, List.set_cons_zero, List.set_cons_succ, i64_w, i32_w]
                            rfl
                          refine pure_ (i := 9) (N := some 99) (v := ?_) (a' := ?_) #[true, true, true, true, true, true, true, true, true, true, false, false, false, false] rfl rfl (any_of HT_.out (by kernel_rfl)) (fun _ _ _ h => h) (Or.inl ⟨by rfl, ?_⟩) ?_ ?_
                          rotate_left
                          · intro w'
                            go_simp
                            with_reducible rfl
                          rotate_left
                          · simp only [Act.put, List.setIfInBounds_toArray, List.set_cons_zero, List.set_cons_succ, i64_w, i32_w]
                            rfl
                          refine pure_ (i := 10) (N := some 109) (v := ?_) (a' := ?_) #[true, true, true, true, true, true, true, true, true, true, true, false, false, false] rfl rfl (any_of HT_.out (by kernel_rfl)) (fun _ _ _ h => h) (Or.inl ⟨by rfl, ?_⟩) ?_ ?_
                          rotate_left
                          · intro w'
                            go_simp
                            with_reducible rfl
                          rotate_left
                          · simp only [Act.put, List.setIfInBounds_toArray, List.set_cons_zero, List.set_cons_succ, i64_w, i32_w]
                            rfl
                          refine pure_ (i := 11) (N := some 110) (v := ?_) (a' := ?_) #[true, true, true, true, true, true, true, true, true, true, true, true, false, false] rfl rfl (any_of HT_.out (by kernel_rfl)) (fun _ _ _ h => h) (Or.inl ⟨by rfl, ?_⟩) ?_ ?_
                          rotate_left
                          · intro w'
                            go_simp
                            with_reducible rfl
                          rotate_left
                          · simp only [Act.put, List.setIfInBounds_toArray, List.set_cons_zero, List.set_cons_succ, i64_w, i32_w]
                            rfl
                          refine pure_ (i := 12) (N := some 11) (v := ?_) (a' := ?_) #[true, true, true, true, true, true, true, true, true, true, true, true, true, false] rfl rfl (any_of HT_.out (by kernel_rfl)) (fun _ _ _ h => h) (Or.inl ⟨by rfl, ?_⟩) ?_ ?_
                          rotate_left
                          · intro w'
                            go_simp
                            with_reducible rfl
                          rotate_left
                          · simp only [Act.put, List.setIfInBounds_toArray, List.set_cons_zero, List.set_cons_succ, i64_w, i32_w]
                            rfl
                          refine pure_ (i := 13) (N := some 12) (v := ?_) (a' := ?_) #[true, true, true, true, true, true, true, true, true, true, true, true, true, true] rfl rfl (any_of HT_.out (by kernel_rfl)) (fun _ _ _ h => h) (Or.inl ⟨by rfl, ?_⟩) ?_ ?_
                          rotate_left
                          · intro w'
                            go_simp
                            with_reducible rfl
                          rotate_left
                          · simp only [Act.put, List.setIfInBounds_toArray, List.set_cons_zero, List.set_cons_succ, i64_w, i32_w]
                            rfl
                          refine done_ (done_of HT_.out (by kernel_rfl)) ?_
                          go_upto_region 16 with (fail)
                          go_cut [119] (fun v119 wc => ∃ (kq : Nat) (x119_60 : Bool), v119 = .bool x119_60 ∧ Aside0 (mizmazelaw10_MazeBack.j2 kq t210 t226 x119_60 = some r) ∧ Aside0 (kq ≤ k2) ∧ Aside0 (Kd.R (Kd.int .i64) 3 wc w.heap.size (fun k_ => some k_ ≠ (v227 : Value).ownBlock) (.slice (some ad225) t210.length co36) t210) ∧ Aside0 (Kd.R (Kd.int .i64) 3 wc w.heap.size (fun k_ => some k_ ≠ ((.slice (some ad225) t210.length co36) : Value).ownBlock) v227 t226) ∧ Aside0 (wc.heap[gb204]? = some (.cells #[(.slice A0_0 l0_0.length c0_0)] 38 (0, 0))) ∧ Aside0 (Below w.heap.size w wc))
                          case first =>
                            have H := HC61.out
                            clear HC61
                            by_cases c65 : t229 = 0
                            · rw [if_pos c65] at H
                              have c65b0 : (t229 == 0) = true := beq_iff_eq.mpr c65
                              have c65b1 : (t229 != 0) = false := bne_eq_false_iff_eq.mpr c65
                              clear c65
                              (first | rw [c65b0] | (simp only [i64_w, i32_w]; rw [c65b0]) | skip)
                              have H' := Aside0.mk H
                              clear H
                              obtain ⟨Ao66, co66, eo66⟩ := Kd.R_slice HO228.out
                              subst eo66
                              go_wp2
                              go_meet
                              case rel => exact ⟨_, (((t226.length : Int) != (t210.length : Int))), (by first | rfl | (simp; done) | (simp [*]; done)), H', ⟨by have := HJ3.out; have := HK2.out; first | omega | exact Nat.le_refl _⟩, ⟨by (with_reducible repeat (first | apply Kd.R_alloc | apply Kd.R_drewN | apply Kd.R_drew)); exact Kd.R_mono HO_7.out (fun _ hk => hk.2)⟩, ⟨by (with_reducible repeat (first | apply Kd.R_alloc | apply Kd.R_drewN | apply Kd.R_drew)); exact Kd.R_mono HO228.out (fun _ hk => hk.1.2)⟩, ⟨by (with_reducible repeat (first | refine blk_drewN ?_ _ | refine blk_drew ?_ | refine blk_alloc ?_ _)); exact BK204.out⟩, ⟨by repeat (first | (with_reducible first | exact HB.out | apply below_alloc | apply pw_below_drewN | apply below_drew1 | refine below_set ?_ GE204.out) | exact HB.out)⟩⟩
                            · rw [if_neg c65] at H
                              have c65b0 : (t229 == 0) = false := beq_eq_false_iff_ne.mpr c65
                              have c65b1 : (t229 != 0) = true := bne_iff_ne.mpr c65
                              (first | rw [c65b0] | (simp only [i64_w, i32_w]; rw [c65b0]) | skip)
                              have H' := Aside0.mk H
                              clear H
                              go_wp2
                              go_meet
                              case rel => exact ⟨_, (true), (by first | rfl | (simp; done) | (simp [*]; done)), H', ⟨by have := HJ3.out; have := HK2.out; first | omega | exact Nat.le_refl _⟩, ⟨by (with_reducible repeat (first | apply Kd.R_alloc | apply Kd.R_drewN | apply Kd.R_drew)); exact Kd.R_mono HO_7.out (fun _ hk => hk.2)⟩, ⟨by (with_reducible repeat (first | apply Kd.R_alloc | apply Kd.R_drewN | apply Kd.R_drew)); exact Kd.R_mono HO228.out (fun _ hk => hk.1.2)⟩, ⟨by (with_reducible repeat (first | refine blk_drewN ?_ _ | refine blk_drew ?_ | refine blk_alloc ?_ _)); exact BK204.out⟩, ⟨by repeat (first | (with_reducible first | exact HB.out | apply below_alloc | apply pw_below_drewN | apply below_drew1 | refine below_set ?_ GE204.out) | exact HB.out)⟩⟩
                          case rest =>
                            clear HC61
                            try clear c2
                            try clear p2
                            try clear q2
                            try clear hx2
                            try clear c3
                            try clear c4
                            try clear c5
                            try clear p5
                            try clear q5
                            try clear hx5
                            try clear hf5
                            try clear c6
                            try clear p6
                            try clear c22
                            try clear p22
                            try clear q22
                            try clear hx22
                            try clear c39
                            try clear c39b0
                            try clear c40
                            try clear c41
                            try clear c46
                            try clear c47
                            try clear c48
                            try clear c49
                            try clear c51
                            try clear c52
                            try clear p53
                            try clear q53
                            try clear hx53
                            try clear hf53
                            try clear c58
                            try clear c58b0
                            try clear c59
                            try clear c59b0
                            try clear p64
                            try clear c65
                            try clear c65b0
                            try clear c65b1
                            try clear hx220_0
                            try clear hx221_0
                            try clear hx222_0
                            try clear hx223_0
                            try clear hx223_1
                            try clear hx225_0
                            try clear hx53_0
                            try clear p220
                            try clear p221
                            try clear p222
                            try clear p223
                            try clear p225
                            try clear p53
                            try clear q220
                            try clear q221
                            try clear q222
                            try clear q223
                            try clear q225
                            try clear q53
                            obtain ⟨kq, x119_60, rfl, HA, HJ60, HO_7, HO_11, BK204, HB⟩ := hcut
                            cases kq with
                            | zero => exact absurd HA.out (by simp [mizmazelaw10_MazeBack.j2])
                            | succ kj60 =>
                              have H := HA.out
                              clear HA
                              simp only [mizmazelaw10_MazeBack.j2] at H
                              by_cases c67 : x119_60 = true
                              · subst c67
                                have H1 : (some false) = some r := by rw [if_pos rfl] at H; exact H
                                clear H
                                have H := H1
                                clear H1
                                obtain rfl := Option.some.inj H
                                go_wp2
                                go_ret
                                exact ⟨by first | rfl | (simp [errW_none, errW_some] <;> rfl) | (simp only [← hji57]; first | rfl | (simp [errW_none, errW_some] <;> rfl)) | (simp [*, errW_none, errW_some] <;> rfl), by repeat (first | (with_reducible first | exact HB.out | apply below_alloc | apply pw_below_drewN | apply below_drew1 | refine below_set ?_ GE204.out) | exact HB.out)⟩
                              · replace c67 := Bool.eq_false_iff.mpr c67
                                subst c67
                                have H1 : (mizmazelaw10_MazeBack.l1 kj60 t210 t226 0) = some r := by rw [if_neg (show ¬ (false = true) by decide)] at H; exact H
                                clear H
                                have H := H1
                                clear H1
                                have H' := Aside0.mk H
                                clear H
                                go_wp2
                                go_loopg [13] kj60 (fun kq v13 w' => ∃ (x13_4 : Int), v13 = .int .i64 x13_4 ∧ Aside0 (mizmazelaw10_MazeBack.l1 kq t210 t226 x13_4 = some r) ∧ Aside0 (kq ≤ kj60) ∧ Aside0 (Kd.R (Kd.int .i64) 3 w' w.heap.size (fun k_ => some k_ ≠ (v227 : Value).ownBlock) (.slice (some ad225) t210.length co36) t210) ∧ Aside0 (Kd.R (Kd.int .i64) 3 w' w.heap.size (fun k_ => some k_ ≠ ((.slice (some ad225) t210.length co36) : Value).ownBlock) v227 t226) ∧ Aside0 (w'.heap[gb204]? = some (.cells #[(.slice A0_0 l0_0.length c0_0)] 38 (0, 0))) ∧ Aside0 (Below w.heap.size w w'))
                                case atStart => exact ⟨(0), (by first | rfl | (simp; done) | (simp [*]; done)), H', ⟨Nat.le_refl _⟩, ⟨by (with_reducible repeat (first | apply Kd.R_alloc | apply Kd.R_drewN | apply Kd.R_drew)); exact HO_7.out⟩, ⟨by (with_reducible repeat (first | apply Kd.R_alloc | apply Kd.R_drewN | apply Kd.R_drew)); exact HO_11.out⟩, ⟨by (with_reducible repeat (first | refine blk_drewN ?_ _ | refine blk_drew ?_ | refine blk_alloc ?_ _)); exact BK204.out⟩, ⟨by repeat (first | (with_reducible first | exact HB.out | apply below_alloc | apply pw_below_drewN | apply below_drew1 | refine below_set ?_ GE204.out) | exact HB.out)⟩⟩
                                case round =>
                                  clear H'
                                  try clear c2
                                  try clear p2
                                  try clear q2
                                  try clear hx2
                                  try clear c3
                                  try clear c4
                                  try clear c5
                                  try clear p5
                                  try clear q5
                                  try clear hx5
                                  try clear hf5
                                  try clear c6
                                  try clear p6
                                  try clear c22
                                  try clear p22
                                  try clear q22
                                  try clear hx22
                                  try clear c39
                                  try clear c39b0
                                  try clear c40
                                  try clear c41
                                  try clear c46
                                  try clear c47
                                  try clear c48
                                  try clear c49
                                  try clear c51
                                  try clear c52
                                  try clear p53
                                  try clear q53
                                  try clear hx53
                                  try clear hf53
                                  try clear c58
                                  try clear c58b0
                                  try clear c59
                                  try clear c59b0
                                  try clear p64
                                  try clear c65
                                  try clear c65b0
                                  try clear c65b1
                                  try clear c67
                                  try clear hx220_0
                                  try clear hx221_0
                                  try clear hx222_0
                                  try clear hx223_0
                                  try clear hx223_1
                                  try clear hx225_0
                                  try clear hx53_0
                                  try clear p2
                                  try clear p22
                                  try clear p220
                                  try clear p221
                                  try clear p222
                                  try clear p223
                                  try clear p225
                                  try clear p5
                                  try clear p53
                                  try clear p6
                                  try clear p64
                                  try clear q2
                                  try clear q22
                                  try clear q220
                                  try clear q221
                                  try clear q222
                                  try clear q223
                                  try clear q225
                                  try clear q5
                                  try clear q53
                                  obtain ⟨x13_4, rfl, HA, HK4, HO_7, HO_11, BK204, HB⟩ := hrel
                                  cases gk with
                                  | zero => exact absurd HA.out (by simp [mizmazelaw10_MazeBack.l1])
                                  | succ k4 =>
                                    have H := HA.out
                                    clear HA
                                    simp only [mizmazelaw10_MazeBack.l1] at H
                                    by_cases c68 : x13_4 < (t210.length : Int)
                                    · rw [if_pos c68] at H
                                      have c68b0 : decide (x13_4 < (t210.length : Int)) = true := decide_eq_true c68
                                      clear c68
                                      obtain ⟨ji69, hji69⟩ : ∃ j_ : Int, (wrap64 ((wrap64 ((t210.length : Int) - 1)) - x13_4)) = j_ := ⟨_, rfl⟩
                                      replace H : (if 0 ≤ (ji69) then (if (ji69) < (t226.length : Int) then (if 0 ≤ x13_4 then (if (rd t226 (ji69)) = (rd t210 x13_4) then (mizmazelaw10_MazeBack.l1 k4 t210 t226 (wrap64 (x13_4 + 1))) else (some false)) else (none)) else (none)) else (none)) = some r := by first | (rw [hji69] at H; exact H) | (simp only [hji69] at H ⊢; exact H)
                                      have hji69w : (IntKind.i64.wrap ((wrap64 ((t210.length : Int) - 1)) - x13_4)) = ji69 := (i64_w _).trans hji69
                                      have hji69v : (wrap64 (ji57 - x13_4)) = ji69 := by rw [← hji57]; exact hji69
                                      have hji69u : (IntKind.i64.wrap (ji57 - x13_4)) = ji69 := (i64_w _).trans hji69v
                                      by_cases c70 : 0 ≤ (ji69)
                                      · rw [if_pos c70] at H
                                        have c70b0 : decide (0 ≤ (ji69)) = true := decide_eq_true c70
                                        clear c70
                                        by_cases c71 : (ji69) < (t226.length : Int)
                                        · rw [if_pos c71] at H
                                          have c71b0 : decide ((ji69) < (t226.length : Int)) = true := decide_eq_true c71
                                          clear c71
                                          by_cases c72 : 0 ≤ x13_4
                                          · rw [if_pos c72] at H
                                            have c72b0 : decide (0 ≤ x13_4) = true := decide_eq_true c72
                                            clear c72
                                            by_cases c73 : (rd t226 (ji69)) = (rd t210 x13_4)
                                            · rw [if_pos c73] at H
                                              have c73b0 : ((rd t226 (ji69)) == (rd t210 x13_4)) = true := beq_iff_eq.mpr c73
                                              have c73b1 : ((rd t226 (ji69)) != (rd t210 x13_4)) = false := bne_eq_false_iff_eq.mpr c73
                                              clear c73
                                              have H' := Aside0.mk H
                                              clear H
                                              try go_wp2
                                              have n0_ := Aside0.mk (Kd.R_drew HO_7.out)
                                              have n1_ := Aside0.mk (Kd.R_drew HO_11.out)
                                              have n2_ := Aside0.mk (blk_drew BK204.out)
                                              have n3_ := Aside0.mk (below_drew1 HB.out)
                                              clear HO_7
                                              clear HO_11
                                              clear BK204
                                              clear HB
                                              have HO_7 := n0_
                                              have HO_11 := n1_
                                              have BK204 := n2_
                                              have HB := n3_
                                              clear n0_ n1_ n2_ n3_
                                              obtain ⟨Ao75, co75, eo75⟩ := Kd.R_slice HO_11.out
                                              (first | subst eo75 | (injection eo75 with f1_ f2_ f3_; have f4_ := f1_.symm; have f5_ := f3_.symm; clear f1_ f2_ f3_; subst f4_; subst f5_))
                                              have p230 : 0 ≤ ((ji69) : Int) := of_decide_eq_true (by first | (with_reducible assumption) | assumption)
                                              have q230 : (ji69) < (t226.length : Int) := of_decide_eq_true (by first | (with_reducible assumption) | assumption)
                                              obtain ⟨ad230, e230, hx230_0⟩ := Kd.at_int (Kd.R_reads' HO_11.out).2.2 (ji69) p230 q230
                                              cases e230
                                              replace p230 := eq_true p230
                                              replace q230 := eq_true q230
                                              have p231 : 0 ≤ (x13_4 : Int) := of_decide_eq_true (by first | (with_reducible assumption) | assumption)
                                              have q231 : x13_4 < (t210.length : Int) := of_decide_eq_true (by first | (with_reducible assumption) | assumption)
                                              obtain ⟨ad231, e231, hx231_0⟩ := Kd.at_int (Kd.R_reads' HO_7.out).2.2 x13_4 p231 q231
                                              obtain rfl : ad225 = ad231 := (by injection e231)
                                              replace p231 := eq_true p231
                                              replace q231 := eq_true q231
                                              refine start_ (n := 13) (S := fun w' => w'.cell? (ad230.add ((ji69)).toNat) = some (.int .i64 (rd t226 (ji69))) ∧ w'.cell? (ad225.add (x13_4).toNat) = some (.int .i64 (rd t210 x13_4))) (ds := []) #[false, false, false, false, false, false, false, false, false, false, false, false, false] (by kernel_rfl) rfl rfl ⟨hx230_0, hx231_0⟩ (fun hHeld => ?_); refine with_tabW mizmazelaw10_MazeBack.tab21 mizmazelaw10_MazeBack.bits21 (fun HT_ HW_ => ?_)
                                              generalize wr.drew = w74 at HO_7 HO_11 BK204 HB hx230_0 hx231_0 hHeld ⊢
                                              refine pure_ (i := 0) (N := some 126) (v := ?_) (a' := ?_) #[true, false, false, false, false, false, false, false, false, false, false, false, false] rfl rfl (any_of HT_.out (by kernel_rfl)) (fun _ _ _ h => h) (Or.inl ⟨by rfl, ?_⟩) ?_ ?_
                                              rotate_left
                                              · intro w'
                                                go_simp
                                                with_reducible rfl
                                              rotate_left
                                              · simp only [Act.put, List.setIfInBounds_toArray, List.set_cons_zero, List.set_cons_succ, i64_w, i32_w]
                                                rfl
                                              refine pure_ (i := 1) (N := some 127) (v := ?_) (a' := ?_) #[true, true, false, false, false, false, false, false, false, false, false, false, false] rfl rfl (any_of HT_.out (by kernel_rfl)) (fun _ _ _ h => h) (Or.inl ⟨by rfl, ?_⟩) ?_ ?_
                                              rotate_left
                                              · intro w'
                                                go_simp
                                                with_reducible rfl
                                              rotate_left
                                              · simp only [Act.put, List.setIfInBounds_toArray, List.set_cons_zero, List.set_cons_succ, i64_w, i32_w]
                                                rfl
                                              refine pure_ (i := 2) (N := some 128) (v := ?_) (a' := ?_) #[true, true, true, false, false, false, false, false, false, false, false, false, false] rfl rfl (any_of HT_.out (by kernel_rfl)) (fun _ _ _ h => h) (Or.inl ⟨by rfl, ?_⟩) ?_ ?_
                                              rotate_left
                                              · intro w'
                                                go_simp
                                                with_reducible rfl
                                              rotate_left
                                              · simp only [Act.put, List.setIfInBounds_toArray, List.set_cons_zero, List.set_cons_succ, i64_w, i32_w]
                                                rfl
                                              refine pure_ (i := 3) (N := some 129) (v := ?_) (a' := ?_) #[true, true, true, true, false, false, false, false, false, false, false, false, false] rfl rfl (any_of HT_.out (by kernel_rfl)) (fun _ _ _ h => h) (Or.inl ⟨by rfl, ?_⟩) ?_ ?_
                                              rotate_left
                                              · intro w'
                                                go_simp
                                                with_reducible rfl
                                              rotate_left
                                              · simp only [Act.put, List.setIfInBounds_toArray, List.set_cons_zero, List.set_cons_succ, i64_w, i32_w]
                                                rfl
                                              refine pure_ (i := 4) (N := some 130) (v := ?_) (a' := ?_) #[true, true, true, true, true, false, false, false, false, false, false, false, false] rfl rfl (any_of HT_.out (by kernel_rfl)) (fun _ _ _ h => h) (Or.inl ⟨by rfl, ?_⟩) ?_ ?_
                                              rotate_left
                                              · intro w'
                                                go_simp
                                                with_reducible rfl
                                              rotate_left
                                              · simp only [Act.put, List.setIfInBounds_toArray, List.set_cons_zero, List.set_cons_succ, i64_w, i32_w]
                                                rfl
                                              refine pure_ (i := 5) (N := some 131) (v := ?_) (a' := ?_) #[true, true, true, true, true, true, false, false, false, false, false, false, false] rfl rfl (any_of HT_.out (by kernel_rfl)) (fun _ _ _ h => h) (Or.inl ⟨by rfl, ?_⟩) ?_ ?_
                                              rotate_left
                                              · intro w'
                                                go_simp
                                                with_reducible rfl
                                              rotate_left
                                              · simp only [Act.put, List.setIfInBounds_toArray, List.set_cons_zero, List.set_cons_succ, i64_w, i32_w]
                                                rfl
                                              refine pure_ (i := 6) (N := some 132) (v := ?_) (a' := ?_) #[true, true, true, true, true, true, true, false, false, false, false, false, false] rfl rfl (any_of HT_.out (by kernel_rfl)) (fun _ _ _ h => h) (Or.inl ⟨by rfl, ?_⟩) ?_ ?_
                                              rotate_left
                                              · intro w'
                                                go_simp
                                                with_reducible rfl
                                              rotate_left
                                              · simp only [Act.put, List.setIfInBounds_toArray, List.set_cons_zero, List.set_cons_succ, i64_w, i32_w]
                                                rfl
                                              refine pure_ (i := 8) (N := some 134) (v := ?_) (a' := ?_) #[true, true, true, true, true, true, true, false, true, false, false, false, false] rfl rfl (any_of HT_.out (by kernel_rfl)) (fun _ _ _ h => h) (Or.inl ⟨by rfl, ?_⟩) ?_ ?_
                                              rotate_left
                                              · intro w'
                                                go_simp
                                                with_reducible rfl
                                              rotate_left
                                              · simp only [Act.put, List.setIfInBounds_toArray, List.set_cons_zero, List.set_cons_succ, i64_w, i32_w]
                                                rfl
                                              refine pure_ (i := 9) (N := some 135) (v := ?_) (a' := ?_) #[true, true, true, true, true, true, true, false, true, true, false, false, false] rfl rfl (any_of HT_.out (by kernel_rfl)) (fun _ _ _ h => h) (Or.inl ⟨by rfl, ?_⟩) ?_ ?_
                                              rotate_left
                                              · intro w'
                                                go_simp
                                                with_reducible rfl
                                              rotate_left
                                              · simp only [Act.put, List.setIfInBounds_toArray, List.set_cons_zero, List.set_cons_succ, i64_w, i32_w]
                                                rfl
                                              refine pure_ (i := 10) (N := some 136) (v := ?_) (a' := ?_) #[true, true, true, true, true, true, true, false, true, true, true, false, false] rfl rfl (any_of HT_.out (by kernel_rfl)) (fun _ _ _ h => h) (Or.inl ⟨by rfl, ?_⟩) ?_ ?_
                                              rotate_left
                                              · intro w'
                                                go_simp
                                                with_reducible rfl
                                              rotate_left
                                              · simp only [Act.put, List.setIfInBounds_toArray, List.set_cons_zero, List.set_cons_succ, i64_w, i32_w]
                                                rfl
                                              refine take_ (i := 7) (N := some 133) (v := ?_) (a' := ?_) #[true, true, true, true, true, true, true, true, true, true, true, false, false] rfl rfl (take_ofW HT_.out HW_.out (by kernel_rfl)) (fun _ _ _ h => h) (Or.inl ⟨by rfl, ?_⟩) hHeld ?_ ?_
                                              rotate_left
                                              · rintro w' ⟨s0, s1⟩
                                                go_simp
                                                with_reducible rfl
                                              rotate_left
                                              · simp only [Act.put, List.setIfInBounds_toArray, List.set_cons_zero, List.set_cons_succ, i64_w, i32_w]
                                                rfl
                                              refine take_ (i := 11) (N := some 137) (v := ?_) (a' := ?_) #[true, true, true, true, true, true, true, true, true, true, true, true, false] rfl rfl (take_ofW HT_.out HW_.out (by kernel_rfl)) (fun _ _ _ h => h) (Or.inl ⟨by rfl, ?_⟩) hHeld ?_ ?_
                                              rotate_left
                                              · rintro w' ⟨s0, s1⟩
                                                go_simp
                                                with_reducible rfl
                                              rotate_left
                                              · simp only [Act.put, List.setIfInBounds_toArray, List.set_cons_zero, List.set_cons_succ, i64_w, i32_w]
                                                rfl
                                              refine pure_ (i := 12) (N := some 138) (v := ?_) (a' := ?_) #[true, true, true, true, true, true, true, true, true, true, true, true, true] rfl rfl (any_of HT_.out (by kernel_rfl)) (fun _ _ _ h => h) (Or.inl ⟨by rfl, ?_⟩) ?_ ?_
                                              rotate_left
                                              · intro w'
                                                go_simp
                                                with_reducible rfl
                                              rotate_left
                                              · simp only [Act.put, List.setIfInBounds_toArray, List.set_cons_zero, List.set_cons_succ, i64_w, i32_w]
                                                rfl
                                              refine done_ (done_of HT_.out (by kernel_rfl)) ?_
                                              try go_wp2
                                              go_roundg k4
                                              case measure => have := HJ3.out; have := HK2.out; have := HJ60.out; have := HK4.out; omega
                                              case rel => exact ⟨(wrap64 (x13_4 + 1)), (by first | rfl | (simp; done) | (simp [*]; done)), H', ⟨by have := HJ3.out; have := HK2.out; have := HJ60.out; have := HK4.out; omega⟩, ⟨by (with_reducible repeat (first | apply Kd.R_alloc | apply Kd.R_drewN | apply Kd.R_drew)); exact HO_7.out⟩, ⟨by (with_reducible repeat (first | apply Kd.R_alloc | apply Kd.R_drewN | apply Kd.R_drew)); exact HO_11.out⟩, ⟨by (with_reducible repeat (first | refine blk_drewN ?_ _ | refine blk_drew ?_ | refine blk_alloc ?_ _)); exact BK204.out⟩, ⟨by repeat (first | (with_reducible first | exact HB.out | apply below_alloc | apply pw_below_drewN | apply below_drew1 | refine below_set ?_ GE204.out) | exact HB.out)⟩⟩
                                            · rw [if_neg c73] at H
                                              have c73b0 : ((rd t226 (ji69)) == (rd t210 x13_4)) = false := beq_eq_false_iff_ne.mpr c73
                                              have c73b1 : ((rd t226 (ji69)) != (rd t210 x13_4)) = true := bne_iff_ne.mpr c73
                                              obtain rfl := Option.some.inj H
                                              try go_wp2
                                              have n0_ := Aside0.mk (Kd.R_drew HO_7.out)
                                              have n1_ := Aside0.mk (Kd.R_drew HO_11.out)
                                              have n2_ := Aside0.mk (blk_drew BK204.out)
                                              have n3_ := Aside0.mk (below_drew1 HB.out)
                                              clear HO_7
                                              clear HO_11
                                              clear BK204
                                              clear HB
                                              have HO_7 := n0_
                                              have HO_11 := n1_
                                              have BK204 := n2_
                                              have HB := n3_
                                              clear n0_ n1_ n2_ n3_
                                              obtain ⟨Ao77, co77, eo77⟩ := Kd.R_slice HO_11.out
                                              (first | subst eo77 | (injection eo77 with f1_ f2_ f3_; have f4_ := f1_.symm; have f5_ := f3_.symm; clear f1_ f2_ f3_; subst f4_; subst f5_))
                                              have p230 : 0 ≤ ((ji69) : Int) := of_decide_eq_true (by first | (with_reducible assumption) | assumption)
                                              have q230 : (ji69) < (t226.length : Int) := of_decide_eq_true (by first | (with_reducible assumption) | assumption)
                                              obtain ⟨ad230, e230, hx230_0⟩ := Kd.at_int (Kd.R_reads' HO_11.out).2.2 (ji69) p230 q230
                                              cases e230
                                              replace p230 := eq_true p230
                                              replace q230 := eq_true q230
                                              have p231 : 0 ≤ (x13_4 : Int) := of_decide_eq_true (by first | (with_reducible assumption) | assumption)
                                              have q231 : x13_4 < (t210.length : Int) := of_decide_eq_true (by first | (with_reducible assumption) | assumption)
                                              obtain ⟨ad231, e231, hx231_0⟩ := Kd.at_int (Kd.R_reads' HO_7.out).2.2 x13_4 p231 q231
                                              obtain rfl : ad225 = ad231 := (by injection e231)
                                              replace p231 := eq_true p231
                                              replace q231 := eq_true q231
                                              refine start_ (n := 13) (S := fun w' => w'.cell? (ad230.add ((ji69)).toNat) = some (.int .i64 (rd t226 (ji69))) ∧ w'.cell? (ad225.add (x13_4).toNat) = some (.int .i64 (rd t210 x13_4))) (ds := []) #[false, false, false, false, false, false, false, false, false, false, false, false, false] (by kernel_rfl) rfl rfl ⟨hx230_0, hx231_0⟩ (fun hHeld => ?_); refine with_tabW mizmazelaw10_MazeBack.tab21 mizmazelaw10_MazeBack.bits21 (fun HT_ HW_ => ?_)
                                              generalize wr.drew = w76 at HO_7 HO_11 BK204 HB hx230_0 hx231_0 hHeld ⊢
                                              refine pure_ (i := 0) (N := some 126) (v := ?_) (a' := ?_) #[true, false, false, false, false, false, false, false, false, false, false, false, false] rfl rfl (any_of HT_.out (by kernel_rfl)) (fun _ _ _ h => h) (Or.inl ⟨by rfl, ?_⟩) ?_ ?_
                                              rotate_left
                                              · intro w'
                                                go_simp
                                                with_reducible rfl
                                              rotate_left
                                              · simp only [Act.put, List.setIfInBounds_toArray, List.set_cons_zero, List.set_cons_succ, i64_w, i32_w]
                                                rfl
                                              refine pure_ (i := 1) (N := some 127) (v := ?_) (a' := ?_) #[true, true, false, false, false, false, false, false, false, false, false, false, false] rfl rfl (any_of HT_.out (by kernel_rfl)) (fun _ _ _ h => h) (Or.inl ⟨by rfl, ?_⟩) ?_ ?_
                                              rotate_left
                                              · intro w'
                                                go_simp
                                                with_reducible rfl
                                              rotate_left
                                              · simp only [Act.put, List.setIfInBounds_toArray, List.set_cons_zero, List.set_cons_succ, i64_w, i32_w]
                                                rfl
                                              refine pure_ (i := 2) (N := some 128) (v := ?_) (a' := ?_) #[true, true, true, false, false, false, false, false, false, false, false, false, false] rfl rfl (any_of HT_.out (by kernel_rfl)) (fun _ _ _ h => h) (Or.inl ⟨by rfl, ?_⟩) ?_ ?_
                                              rotate_left
                                              · intro w'
                                                go_simp
                                                with_reducible rfl
                                              rotate_left
                                              · simp only [Act.put, List.setIfInBounds_toArray, List.set_cons_zero, List.set_cons_succ, i64_w, i32_w]
                                                rfl
                                              refine pure_ (i := 3) (N := some 129) (v := ?_) (a' := ?_) #[true, true, true, true, false, false, false, false, false, false, false, false, false] rfl rfl (any_of HT_.out (by kernel_rfl)) (fun _ _ _ h => h) (Or.inl ⟨by rfl, ?_⟩) ?_ ?_
                                              rotate_left
                                              · intro w'
                                                go_simp
                                                with_reducible rfl
                                              rotate_left
                                              · simp only [Act.put, List.setIfInBounds_toArray, List.set_cons_zero, List.set_cons_succ, i64_w, i32_w]
                                                rfl
                                              refine pure_ (i := 4) (N := some 130) (v := ?_) (a' := ?_) #[true, true, true, true, true, false, false, false, false, false, false, false, false] rfl rfl (any_of HT_.out (by kernel_rfl)) (fun _ _ _ h => h) (Or.inl ⟨by rfl, ?_⟩) ?_ ?_
                                              rotate_left
                                              · intro w'
                                                go_simp
                                                with_reducible rfl
                                              rotate_left
                                              · simp only [Act.put, List.setIfInBounds_toArray, List.set_cons_zero, List.set_cons_succ, i64_w, i32_w]
                                                rfl
                                              refine pure_ (i := 5) (N := some 131) (v := ?_) (a' := ?_) #[true, true, true, true, true, true, false, false, false, false, false, false, false] rfl rfl (any_of HT_.out (by kernel_rfl)) (fun _ _ _ h => h) (Or.inl ⟨by rfl, ?_⟩) ?_ ?_
                                              rotate_left
                                              · intro w'
                                                go_simp
                                                with_reducible rfl
                                              rotate_left
                                              · simp only [Act.put, List.setIfInBounds_toArray, List.set_cons_zero, List.set_cons_succ, i64_w, i32_w]
                                                rfl
                                              refine pure_ (i := 6) (N := some 132) (v := ?_) (a' := ?_) #[true, true, true, true, true, true, true, false, false, false, false, false, false] rfl rfl (any_of HT_.out (by kernel_rfl)) (fun _ _ _ h => h) (Or.inl ⟨by rfl, ?_⟩) ?_ ?_
                                              rotate_left
                                              · intro w'
                                                go_simp
                                                with_reducible rfl
                                              rotate_left
                                              · simp only [Act.put, List.setIfInBounds_toArray, List.set_cons_zero, List.set_cons_succ, i64_w, i32_w]
                                                rfl
                                              refine pure_ (i := 8) (N := some 134) (v := ?_) (a' := ?_) #[true, true, true, true, true, true, true, false, true, false, false, false, false] rfl rfl (any_of HT_.out (by kernel_rfl)) (fun _ _ _ h => h) (Or.inl ⟨by rfl, ?_⟩) ?_ ?_
                                              rotate_left
                                              · intro w'
                                                go_simp
                                                with_reducible rfl
                                              rotate_left
                                              · simp only [Act.put, List.setIfInBounds_toArray, List.set_cons_zero, List.set_cons_succ, i64_w, i32_w]
                                                rfl
                                              refine pure_ (i := 9) (N := some 135) (v := ?_) (a' := ?_) #[true, true, true, true, true, true, true, false, true, true, false, false, false] rfl rfl (any_of HT_.out (by kernel_rfl)) (fun _ _ _ h => h) (Or.inl ⟨by rfl, ?_⟩) ?_ ?_
                                              rotate_left
                                              · intro w'
                                                go_simp
                                                with_reducible rfl
                                              rotate_left
                                              · simp only [Act.put, List.setIfInBounds_toArray, List.set_cons_zero, List.set_cons_succ, i64_w, i32_w]
                                                rfl
                                              refine pure_ (i := 10) (N := some 136) (v := ?_) (a' := ?_) #[true, true, true, true, true, true, true, false, true, true, true, false, false] rfl rfl (any_of HT_.out (by kernel_rfl)) (fun _ _ _ h => h) (Or.inl ⟨by rfl, ?_⟩) ?_ ?_
                                              rotate_left
                                              · intro w'
                                                go_simp
                                                with_reducible rfl
                                              rotate_left
                                              · simp only [Act.put, List.setIfInBounds_toArray, List.set_cons_zero, List.set_cons_succ, i64_w, i32_w]
                                                rfl
                                              refine take_ (i := 7) (N := some 133) (v := ?_) (a' := ?_) #[true, true, true, true, true, true, true, true, true, true, true, false, false] rfl rfl (take_ofW HT_.out HW_.out (by kernel_rfl)) (fun _ _ _ h => h) (Or.inl ⟨by rfl, ?_⟩) hHeld ?_ ?_
                                              rotate_left
                                              · rintro w' ⟨s0, s1⟩
                                                go_simp
                                                with_reducible rfl
                                              rotate_left
                                              · simp only [Act.put, List.setIfInBounds_toArray, List.set_cons_zero, List.set_cons_succ, i64_w, i32_w]
                                                rfl
                                              refine take_ (i := 11) (N := some 137) (v := ?_) (a' := ?_) #[true, true, true, true, true, true, true, true, true, true, true, true, false] rfl rfl (take_ofW HT_.out HW_.out (by kernel_rfl)) (fun _ _ _ h => h) (Or.inl ⟨by rfl, ?_⟩) hHeld ?_ ?_
                                              rotate_left
                                              · rintro w' ⟨s0, s1⟩
                                                go_simp
                                                with_reducible rfl
                                              rotate_left
                                              · simp only [Act.put, List.setIfInBounds_toArray, List.set_cons_zero, List.set_cons_succ, i64_w, i32_w]
                                                rfl
                                              refine pure_ (i := 12) (N := some 138) (v := ?_) (a' := ?_) #[true, true, true, true, true, true, true, true, true, true, true, true, true] rfl rfl (any_of HT_.out (by kernel_rfl)) (fun _ _ _ h => h) (Or.inl ⟨by rfl, ?_⟩) ?_ ?_
                                              rotate_left
                                              · intro w'
                                                go_simp
                                                with_reducible rfl
                                              rotate_left
                                              · simp only [Act.put, List.setIfInBounds_toArray, List.set_cons_zero, List.set_cons_succ, i64_w, i32_w]
                                                rfl
                                              refine done_ (done_of HT_.out (by kernel_rfl)) ?_
                                              try go_wp2
                                              go_ret
                                              exact ⟨by first | rfl | (simp [errW_none, errW_some] <;> rfl) | (simp only [← hji57, ← hji69]; first | rfl | (simp [errW_none, errW_some] <;> rfl)) | (simp [*, errW_none, errW_some] <;> rfl), by repeat (first | (with_reducible first | exact HB.out | apply below_alloc | apply pw_below_drewN | apply below_drew1 | refine below_set ?_ GE204.out) | exact HB.out)⟩
                                          · rw [if_neg c72] at H
                                            exact absurd H (by simp)
                                        · rw [if_neg c71] at H
                                          exact absurd H (by simp)
                                      · rw [if_neg c70] at H
                                        exact absurd H (by simp)
                                    · rw [if_neg c68] at H
                                      have c68b0 : decide (x13_4 < (t210.length : Int)) = false := decide_eq_false c68
                                      clear c68
                                      replace H := Option.bind_eq_some_iff.mp H
                                      obtain ⟨t232, A780, H⟩ := H
                                      replace H : (some t232) = some r := H
                                      have A78 := Aside0.mk A780
                                      clear A780
                                      obtain rfl := Option.some.inj H
                                      go_wp2_with (first | ((with_reducible refine gate_callee (f := 14) rfl ?_); refine goesL_ (some 139) rfl rfl Try.func14 (by kernel_rfl) rfl #[] rfl (by (try simp only [List.map_toArray, List.map_cons, List.map_nil]); first | done | rfl | (simp only [List.length_drop, List.length_take]; rfl)) ?_; (with_reducible refine (mizmazelaw10_awake.calls k4  t232 _ A78.out).mono ?_); rintro e w79 ⟨rfl, hb⟩; refine ⟨_, rfl, ?_⟩; have n0_ := Aside0.mk (Kd.R_below (by (with_reducible repeat (first | apply Kd.R_alloc | apply Kd.R_drewN | apply Kd.R_drew)); exact HO_7.out) hb); have n1_ := Aside0.mk (Kd.R_below (by (with_reducible repeat (first | apply Kd.R_alloc | apply Kd.R_drewN | apply Kd.R_drew)); exact HO_11.out) hb); have n2_ := Aside0.mk (blk_below (g := gb204) (o := .cells #[.slice A0_0 l0_0.length c0_0] 38 (0, 0)) (by (with_reducible repeat (first | refine blk_drewN ?_ _ | refine blk_drew ?_ | refine blk_alloc ?_ _)); exact BK204.out) hb); have n3_ := Aside0.mk (below_step (by repeat (first | (with_reducible first | exact HB.out | apply below_alloc | apply pw_below_drewN | apply below_drew1 | refine below_set ?_ GE204.out) | exact HB.out)) hb); clear HO_7; clear HO_11; clear BK204; clear HB; have HO_7 := n0_; have HO_11 := n1_; have BK204 := n2_; have HB := n3_; clear n0_ n1_ n2_ n3_; (try clear hb); (try clear hb2); (try clear hk); (try clear hi)))
                                      go_ret
                                      exact ⟨by first | rfl | (simp [errW_none, errW_some] <;> rfl) | (simp only [← hji57]; first | rfl | (simp [errW_none, errW_some] <;> rfl)) | (simp [*, errW_none, errW_some] <;> rfl), by repeat (first | (with_reducible first | exact HB.out | apply below_alloc | apply pw_below_drewN | apply below_drew1 | refine below_set ?_ GE204.out) | exact HB.out)⟩
                        · rw [if_neg c59] at H
                          exact absurd H (by simp)
                      · rw [if_neg c58] at H
                        exact absurd H (by simp)
              · rw [if_neg c33] at H
                exact absurd H (by simp)
            · rw [if_neg c32] at H
              exact absurd H (by simp)
          · rw [if_neg c31] at H
            have c31b0 : ((t210.length : Int) == (wrap64 ((l2.length : Int) + 1))) = false := beq_eq_false_iff_ne.mpr c31
            have c31b1 : ((t210.length : Int) != (wrap64 ((l2.length : Int) + 1))) = true := bne_iff_ne.mpr c31
            obtain rfl := Option.some.inj H
            have hcz80_0 : wc.cell? ⟨gb204, 0, none⟩ = some (.slice A0_0 l0_0.length c0_0) := (blk_cell BK204.out 0).trans rfl
            have hfz80_0 := blk_frozen BK204.out 0
            go_wp2_with (first | ((with_reducible refine gate_callee (f := 22) rfl ?_); refine goesL_ (some 41) rfl rfl Try.func22 (by kernel_rfl) rfl #[.agg #[.slice A0_0 l0_0.length c0_0], .int .i64 a1, .slice A2 l2.length c2] rfl (by (try simp only [List.map_toArray, List.map_cons, List.map_nil]); first | done | rfl | (simp only [List.length_drop, List.length_take]; rfl)) ?_; (with_reducible refine (maze_Walk.calls kj3 _ _ l0_0 a1 _ _ l2 t210 t213 _ ?side1 ?side2 ?side3 ?side4 A29.out).mono ?_); (case side1 => repeat (first | exact (Kd.C_below HR0_0.out HB.out) | (with_reducible refine Kd.C_alloc ?_ _) | (with_reducible refine Kd.C_drewN ?_ _) | (with_reducible refine Kd.C_drew ?_))); (case side2 => exact HC0_0.out); (case side3 => repeat (first | exact (Kd.C_below HR2.out HB.out) | (with_reducible refine Kd.C_alloc ?_ _) | (with_reducible refine Kd.C_drewN ?_ _) | (with_reducible refine Kd.C_drew ?_))); (case side4 => exact HC2.out); rintro e w81 ⟨v211, rfl, ho0, hb⟩; refine ⟨_, rfl, ?_⟩; have n0_ := Aside0.mk (Kd.R_lower ho0 (below_size (by repeat (first | (with_reducible first | exact HB.out | apply below_alloc | apply pw_below_drewN | apply below_drew1 | refine below_set ?_ GE204.out) | exact HB.out)))); have n1_ := Aside0.mk (blk_below (g := gb204) (o := .cells #[.slice A0_0 l0_0.length c0_0] 38 (0, 0)) (by (with_reducible repeat (first | refine blk_drewN ?_ _ | refine blk_drew ?_ | refine blk_alloc ?_ _)); exact BK204.out) hb); have n2_ := Aside0.mk (below_step (by repeat (first | (with_reducible first | exact HB.out | apply below_alloc | apply pw_below_drewN | apply below_drew1 | refine below_set ?_ GE204.out) | exact HB.out)) hb); clear BK204; clear HB; have HO212 := n0_; have BK204 := n1_; have HB := n2_; clear n0_ n1_ n2_; (try clear hb); (try clear hb2); (try clear hk); (try clear hi); (try clear ho0); obtain ⟨Ao82, co82, eo82⟩ := Kd.R_slice HO212.out; subst eo82))
            go_ret
            exact ⟨by first | rfl | (simp [errW_none, errW_some] <;> rfl) | (simp [*, errW_none, errW_some] <;> rfl), by repeat (first | (with_reducible first | exact HB.out | apply below_alloc | apply pw_below_drewN | apply below_drew1 | refine below_set ?_ GE204.out) | exact HB.out)⟩
        · rw [if_neg c30] at H
          have c30b0 : (t213 == 0) = false := beq_eq_false_iff_ne.mpr c30
          have c30b1 : (t213 != 0) = true := bne_iff_ne.mpr c30
          replace H := Option.bind_eq_some_iff.mp H
          obtain ⟨t214, A830, H⟩ := H
          replace H : (some t214) = some r := H
          have A83 := Aside0.mk A830
          clear A830
          obtain rfl := Option.some.inj H
          have hcz84_0 : wc.cell? ⟨gb204, 0, none⟩ = some (.slice A0_0 l0_0.length c0_0) := (blk_cell BK204.out 0).trans rfl
          have hfz84_0 := blk_frozen BK204.out 0
          go_wp2_with (first | ((with_reducible refine gate_callee (f := 22) rfl ?_); refine goesL_ (some 41) rfl rfl Try.func22 (by kernel_rfl) rfl #[.agg #[.slice A0_0 l0_0.length c0_0], .int .i64 a1, .slice A2 l2.length c2] rfl (by (try simp only [List.map_toArray, List.map_cons, List.map_nil]); first | done | rfl | (simp only [List.length_drop, List.length_take]; rfl)) ?_; (with_reducible refine (maze_Walk.calls kj3 _ _ l0_0 a1 _ _ l2 t210 t213 _ ?side1 ?side2 ?side3 ?side4 A29.out).mono ?_); (case side1 => repeat (first | exact (Kd.C_below HR0_0.out HB.out) | (with_reducible refine Kd.C_alloc ?_ _) | (with_reducible refine Kd.C_drewN ?_ _) | (with_reducible refine Kd.C_drew ?_))); (case side2 => exact HC0_0.out); (case side3 => repeat (first | exact (Kd.C_below HR2.out HB.out) | (with_reducible refine Kd.C_alloc ?_ _) | (with_reducible refine Kd.C_drewN ?_ _) | (with_reducible refine Kd.C_drew ?_))); (case side4 => exact HC2.out); rintro e w85 ⟨v211, rfl, ho0, hb⟩; refine ⟨_, rfl, ?_⟩; have n0_ := Aside0.mk (Kd.R_lower ho0 (below_size (by repeat (first | (with_reducible first | exact HB.out | apply below_alloc | apply pw_below_drewN | apply below_drew1 | refine below_set ?_ GE204.out) | exact HB.out)))); have n1_ := Aside0.mk (blk_below (g := gb204) (o := .cells #[.slice A0_0 l0_0.length c0_0] 38 (0, 0)) (by (with_reducible repeat (first | refine blk_drewN ?_ _ | refine blk_drew ?_ | refine blk_alloc ?_ _)); exact BK204.out) hb); have n2_ := Aside0.mk (below_step (by repeat (first | (with_reducible first | exact HB.out | apply below_alloc | apply pw_below_drewN | apply below_drew1 | refine below_set ?_ GE204.out) | exact HB.out)) hb); clear BK204; clear HB; have HO212 := n0_; have BK204 := n1_; have HB := n2_; clear n0_ n1_ n2_; (try clear hb); (try clear hb2); (try clear hk); (try clear hi); (try clear ho0)) | ((with_reducible refine gate_callee (f := 14) rfl ?_); refine goesL_ (some 46) rfl rfl Try.func14 (by kernel_rfl) rfl #[] rfl (by (try simp only [List.map_toArray, List.map_cons, List.map_nil]); first | done | rfl | (simp only [List.length_drop, List.length_take]; rfl)) ?_; (with_reducible refine (mizmazelaw10_awake.calls kj3  t214 _ A83.out).mono ?_); rintro e w86 ⟨rfl, hb⟩; refine ⟨_, rfl, ?_⟩; have n0_ := Aside0.mk (Kd.R_below (by (with_reducible repeat (first | apply Kd.R_alloc | apply Kd.R_drewN | apply Kd.R_drew)); exact HO212.out) hb); have n1_ := Aside0.mk (blk_below (g := gb204) (o := .cells #[.slice A0_0 l0_0.length c0_0] 38 (0, 0)) (by (with_reducible repeat (first | refine blk_drewN ?_ _ | refine blk_drew ?_ | refine blk_alloc ?_ _)); exact BK204.out) hb); have n2_ := Aside0.mk (below_step (by repeat (first | (with_reducible first | exact HB.out | apply below_alloc | apply pw_below_drewN | apply below_drew1 | refine below_set ?_ GE204.out) | exact HB.out)) hb); clear HO212; clear BK204; clear HB; have HO212 := n0_; have BK204 := n1_; have HB := n2_; clear n0_ n1_ n2_; (try clear hb); (try clear hb2); (try clear hk); (try clear hi)))
          go_ret
          exact ⟨by first | rfl | (simp [errW_none, errW_some] <;> rfl) | (simp [*, errW_none, errW_some] <;> rfl), by repeat (first | (with_reducible first | exact HB.out | apply below_alloc | apply pw_below_drewN | apply below_drew1 | refine below_set ?_ GE204.out) | exact HB.out)⟩

end Go.Proofs.Ytgbjbgdnldklpaa.Q
end
/-! Part MAwake10 -/
section
namespace Go.Proofs.Ytgbjbgdnldklpaa.Q
open Go.RowKit Go.Proofs.YtgbjbgdnldklpaaW.PrintWords Go.Proofs.YtgbjbgdnldklpaaW.PrintLast Go.Proofs.YtgbjbgdnldklpaaW.PrintMore
set_option maxRecDepth 100000 in
theorem awake10 : Ev (fun k => mizmazelaw10_awake.f k) true := Ev.of (k := 60) (fun k => mizmazelaw10_awake.mono k) (by kernel_rfl)
theorem awake10_end : Ev (fun k => (mizmazelaw10_awake.f k).bind fun t => some t) true := Ev.bind awake10 (Ev.now _)
end Go.Proofs.Ytgbjbgdnldklpaa.Q
end
