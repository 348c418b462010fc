/- Part of the proof of ColorRoads (text 28 of 31) -/
import Derived.Test.YtjgdalhdiohclaaZColorRoadsza
import Derived.Test.YtjgdalhdiohclaaZColorRoadsh
import Derived.Test.YtjgdalhdiohclaaZColorRoadsp
import Derived.Test.YtjgdalhdiohclaaZColorRoadsy
import Derived.Test.YtjgdalhdiohclaaZColorRoadsk
import Derived.Test.YtjgdalhdiohclaaZColorRoadsm
import Derived.RangeFuncLeaves
import Derived.RangeFuncRecord
import Derived.Test.YtjgdalhdiohclaaZColorRoadsv
import Derived.Test.YtjgdalhdiohclaaZColorRoadsi
set_option linter.unusedVariables false
set_option linter.unusedSimpArgs false
set_option linter.unusedSectionVars false
set_option maxRecDepth 100000
set_option maxHeartbeats 8000000
open Go.RowKit Go.Proofs.YtjgdalhdiohclaaW.PrintWords Go.Proofs.YtjgdalhdiohclaaW.PrintLast Go.Proofs.YtjgdalhdiohclaaW.PrintMore
section
namespace Go.Proofs.Ytjgdalhdiohclaa.Q
attribute [local go_sem] Oper.semAt_some
theorem color_some.makes (A0 : Option Addr) (n c0 : Nat) (many : Int) (w : World) :
  Calls Try.prog 88 #[.slice A0 n c0, .int .i64 many] w fun e w' => ∃ Ob Mb : Nat, e = .returned (.func (.func 109) #[] #[.pointer (some ⟨Mb, 0, none⟩), .pointer (some ⟨Ob, 0, none⟩)]) ∧ w.heap.size ≤ Ob ∧ w.heap.size ≤ Mb ∧ w'.heap[Ob]? = some (.cells #[.slice A0 n c0] 87 (0, 0)) ∧ w'.heap[Mb]? = some (.cells #[.int .i64 many] 3 (0, 0)) ∧ Below w.heap.size w w' := by
 go_enter Try.func88, Try.ntmps88
 go_wp2_with (first | ((with_reducible refine gate_dst (N := 2) rfl ?_); refine box_event zz5 (N := 2) zz5 (cs := #[.slice A0 n c0]) (t := 87) zz6 ?_; intro B hBe w1 hbox hb1; have HBE := am (show w.heap.size ≤ B by omega); have HX := am hbox; have HB := am hb1; clear hbox hb1 hBe)  | ((with_reducible refine gate_dst (N := 3) rfl ?_); refine box_event zz5 (N := 3) zz5 (cs := #[.int .i64 many]) (t := 3) zz6 ?_; intro M hMe w2 hbox2 hb2; have HME := am (show w.heap.size ≤ M by have := HB.out.size; omega); have HX2 := am (blk_below HX.out hb2); have HY2 := am hbox2; have HB2 := am (below_step HB.out hb2); clear hbox2 hb2 hMe))
 go_ret
 exact ⟨B, M, rfl, HBE.out, HME.out, HX2.out, HY2.out, HB2.out⟩
def shows (Q : Nat → Prop) [DecidablePred Q] (w : World) : World := { w with heap := Array.ofFn (n := w.heap.size) fun b => if Q b.val then w.heap[b] else .cells #[] 0 (0, 0) }
theorem shows_at (Q : Nat → Prop) [DecidablePred Q] (w : World) (b : Nat) (h : Q b) : (shows Q w).heap[b]? = w.heap[b]? := by
 unfold shows
 by_cases hb : b < w.heap.size
 ·simp [hb, h]
 ·simp [hb, Array.getElem?_eq_none (Nat.le_of_not_lt hb)]
theorem shows_only (Q : Nat → Prop) [DecidablePred Q] (w : World) (a : Addr) (x : Value) (h : (shows Q w).cell? a = some x) : Q a.block := by
 by_cases hq : Q a.block
 ·exact hq
 ·exfalso
  by_cases hb : a.block < w.heap.size
  ·have e : (shows Q w).heap[a.block]? = some (.cells #[] 0 (0, 0)) := by
    unfold shows
    simp [hb, hq]
   simp only [World.cell?, e] at h
   split at h <;> simp at h
  ·have e : (shows Q w).heap[a.block]? = none := by
    unfold shows
    simp [hb]
   simp only [World.cell?, e] at h
   cases h
theorem C_rows_cells {w W : World} {A : Option Addr} {a : List (List Int)} (hk : ∀ a x, w.cell? a = some x → W.cell? a = some x) (h : Kd.C (Kd.slice 3 (Kd.int .i64)) w A a.length a) : Kd.C (Kd.slice 3 (Kd.int .i64)) W A a.length a := by
 obtain ⟨h1, h2, h3⟩ := h
 refine ⟨h1, h2, fun h0 => ?_⟩
 obtain ⟨ad, e, hc⟩ := h3 h0
 refine ⟨ad, e, fun j p hj => ?_⟩
 obtain ⟨cs, g1, ⟨A1, c1, e1, l1, C1⟩, g3⟩ := hc j p hj
 exact ⟨cs, g1, ⟨A1, c1, e1, l1, C_int_cells hk C1⟩, fun i u hu => hk _ _ (g3 i u hu)⟩
theorem cells_putLoop {W : World} {l : Nat} {r : Loop} (h : W.heap[l]? = some (.loop r)) (o : Obj) : ∀ a x, W.cell? a = some x → (W.putObj l o).cell? a = some x := by
 intro a x hx
 refine (cell_of_heap (World.putObj_heap_other fun e => ?_)).trans hx
 simp only [World.cell?] at hx
 rw [e, h] at hx
 cases hx
structure IR (w : World) (C2 C3 C4 : Nat) (own : Nat → Prop) (W : World) (u2 u3 u4 : Value) : Prop where
 below : Below w.heap.size w W
 c2 : W.heap[C2]? = some (.cells #[u2] 24 (0, 0))
 c3 : W.heap[C3]? = some (.cells #[u3] 28 (0, 0))
 c4 : W.heap[C4]? = some (.cells #[u4] 25 (0, 0))
 n2 : ¬ own C2
 n3 : ¬ own C3
 n4 : ¬ own C4
 h2 : w.heap.size ≤ C2
 h3 : w.heap.size ≤ C3
 h4 : w.heap.size ≤ C4
section
variable {w : World} {C2 C3 C4 D : Nat} {own own' : Nat → Prop} {W W' : World} {u2 u3 u4 : Value} {x : Option (List Deferred)}
theorem IR.stable (h : IR w C2 C3 C4 own W u2 u3 u4) (hk : KeptL w.heap.size own W W') (hs : ∀ b, own b → w.heap.size ≤ b) (hn : ∀ b, own' b → own b ∨ W.heap.size ≤ b) : IR w C2 C3 C4 own' W' u2 u3 u4 :=
 ⟨hk.below h.below hs, hk.cells h.c2 h.n2, hk.cells h.c3 h.n3, hk.cells h.c4 h.n4, fun ho => (hn _ ho).elim h.n2 (by have := blk_ltS h.c2; omega), fun ho => (hn _ ho).elim h.n3 (by have := blk_ltS h.c3; omega), fun ho => (hn _ ho).elim h.n4 (by have := blk_ltS h.c4; omega), h.h2, h.h3, h.h4⟩
theorem IR.next (h : IR w C2 C3 C4 own W u2 u3 u4) (hb : Below W.heap.size W W') : IR w C2 C3 C4 own W' u2 u3 u4 :=
 ⟨below_step h.below hb, blk_below h.c2 hb, blk_below h.c3 hb, blk_below h.c4 hb, h.n2, h.n3, h.n4, h.h2, h.h3, h.h4⟩
theorem IR.putD (h : IR w C2 C3 C4 own W u2 u3 u4) (hk : W.heap[D]? = some (.deferred x)) (hD : w.heap.size ≤ D) (o : Obj) : IR w C2 C3 C4 own (W.putObj D o) u2 u3 u4 := by
 have n2 : C2 ≠ D := fun e => by subst e; rw [h.c2] at hk; cases hk
 have n3 : C3 ≠ D := fun e => by subst e; rw [h.c3] at hk; cases hk
 have n4 : C4 ≠ D := fun e => by subst e; rw [h.c4] at hk; cases hk
 exact ⟨⟨h.below.os, h.below.tape, h.below.output, by simpa using h.below.size, fun b hb => (World.putObj_heap_other (by omega)).trans (h.below.block b hb)⟩, (World.putObj_heap_other n2).trans h.c2, (World.putObj_heap_other n3).trans h.c3, (World.putObj_heap_other n4).trans h.c4, h.n2, h.n3, h.n4, h.h2, h.h3, h.h4⟩
theorem IR.put (h : IR w C2 C3 C4 own W u2 u3 u4) (e1 : C2 ≠ C3) (e2 : C2 ≠ C4) (e3 : C3 ≠ C4) (v2 v3 v4 : Value) : IR w C2 C3 C4 own (((W.setCell ⟨C2, 0, none⟩ v2).setCell ⟨C3, 0, none⟩ v3).setCell ⟨C4, 0, none⟩ v4) v2 v3 v4 := by
 have a2 := blk_put (cs := #[u2]) h.c2 0 v2 rfl
 have a3 : (W.setCell ⟨C2, 0, none⟩ v2).heap[C3]? = some (.cells #[u3] 28 (0, 0)) := (Below.heap_setCell W ⟨C2, 0, none⟩ v2 C3 (Ne.symm e1)).trans h.c3
 have a4 : (W.setCell ⟨C2, 0, none⟩ v2).heap[C4]? = some (.cells #[u4] 25 (0, 0)) := (Below.heap_setCell W ⟨C2, 0, none⟩ v2 C4 (Ne.symm e2)).trans h.c4
 have b3 := blk_put (cs := #[u3]) a3 0 v3 rfl
 have b2 := (Below.heap_setCell (W.setCell ⟨C2, 0, none⟩ v2) ⟨C3, 0, none⟩ v3 C2 e1).trans a2
 have b4 := (Below.heap_setCell (W.setCell ⟨C2, 0, none⟩ v2) ⟨C3, 0, none⟩ v3 C4 (Ne.symm e3)).trans a4
 have d4 := blk_put (cs := #[u4]) b4 0 v4 rfl
 have d2 := (Below.heap_setCell ((W.setCell ⟨C2, 0, none⟩ v2).setCell ⟨C3, 0, none⟩ v3) ⟨C4, 0, none⟩ v4 C2 e2).trans b2
 have d3 := (Below.heap_setCell ((W.setCell ⟨C2, 0, none⟩ v2).setCell ⟨C3, 0, none⟩ v3) ⟨C4, 0, none⟩ v4 C3 e3).trans b3
 exact ⟨((h.below.setCell (p := ⟨C2, 0, none⟩) h.h2 _).setCell (p := ⟨C3, 0, none⟩) h.h3 _).setCell (p := ⟨C4, 0, none⟩) h.h4 _, d2, d3, d4, h.n2, h.n3, h.n4, h.h2, h.h3, h.h4⟩
theorem IR.o3 (h : IR w C2 C3 C4 own W u2 u3 u4) (e1 : C2 ≠ C3) (v2 : Value) : (W.setCell ⟨C2, 0, none⟩ v2).heap[C3]? = some (.cells #[u3] 28 (0, 0)) := (Below.heap_setCell W ⟨C2, 0, none⟩ v2 C3 (Ne.symm e1)).trans h.c3
theorem IR.o4 (h : IR w C2 C3 C4 own W u2 u3 u4) (e2 : C2 ≠ C4) (e3 : C3 ≠ C4) (v2 v3 : Value) : ((W.setCell ⟨C2, 0, none⟩ v2).setCell ⟨C3, 0, none⟩ v3).heap[C4]? = some (.cells #[u4] 25 (0, 0)) :=
 (Below.heap_setCell (W.setCell ⟨C2, 0, none⟩ v2) ⟨C3, 0, none⟩ v3 C4 (Ne.symm e3)).trans ((Below.heap_setCell W ⟨C2, 0, none⟩ v2 C4 (Ne.symm e2)).trans h.c4)
theorem IR.start {w1 : World} (h : Below w.heap.size w w1) : IR w w1.heap.size (w1.heap.size + 1) (w1.heap.size + 2) (fun _ => False) (((w1.alloc (.cells #[.slice none 0 0] 24)).alloc (.cells #[.slice none 0 0] 28)).alloc (.cells #[.int .i64 0] 25)) (.slice none 0 0) (.slice none 0 0) (.int .i64 0) := by
 have hs := h.size
 have g2 := World.alloc_heap_new w1 (.cells #[.slice none 0 0] 24)
 have g3 := World.alloc_heap_new (w1.alloc (.cells #[.slice none 0 0] 24)) (.cells #[.slice none 0 0] 28)
 have g4 := World.alloc_heap_new ((w1.alloc (.cells #[.slice none 0 0] 24)).alloc (.cells #[.slice none 0 0] 28)) (.cells #[.int .i64 0] 25)
 simp only [World.size_alloc] at g3 g4
 exact ⟨((h.alloc hs _).alloc (by simp; omega) _).alloc (by simp; omega) _, blk_alloc (blk_alloc g2 _) _, blk_alloc g3 _, g4, id, id, id, hs, by omega, by omega⟩
theorem R_put3 {base e : Nat} {ok : Nat → Prop} {v v2 v3 v4 : Value} {l : List Int} (h : Kd.R (Kd.int .i64) e W base ok v l) (hi : IR w C2 C3 C4 own W u2 u3 u4) (hn : ∀ b, ok b → b ≠ C2 ∧ b ≠ C3 ∧ b ≠ C4) : Kd.R (Kd.int .i64) e (((W.setCell ⟨C2, 0, none⟩ v2).setCell ⟨C3, 0, none⟩ v3).setCell ⟨C4, 0, none⟩ v4) base ok v l := by
 refine Kd.R_step h fun b hb hlt => ?_
 obtain ⟨n2, n3, n4⟩ := hn b hb
 rw [Below.heap_setCell _ ⟨C4, 0, none⟩ v4 b n4, Below.heap_setCell _ ⟨C3, 0, none⟩ v3 b n3, Below.heap_setCell _ ⟨C2, 0, none⟩ v2 b n2]
theorem S_put3 {base e : Nat} {ok : Nat → Prop} {v v2 v3 v4 : Value} {l : List (List Int)} (h : Kd.S (Kd.slice 3 (Kd.int .i64)) e W base ok v l) (hi : IR w C2 C3 C4 own W u2 u3 u4) (hn : ∀ b, ok b → b ≠ C2 ∧ b ≠ C3 ∧ b ≠ C4) : Kd.S (Kd.slice 3 (Kd.int .i64)) e (((W.setCell ⟨C2, 0, none⟩ v2).setCell ⟨C3, 0, none⟩ v3).setCell ⟨C4, 0, none⟩ v4) base ok v l := by
 refine Kd.S_step h fun b hb hlt => ?_
 obtain ⟨n2, n3, n4⟩ := hn b hb
 rw [Below.heap_setCell _ ⟨C4, 0, none⟩ v4 b n4, Below.heap_setCell _ ⟨C3, 0, none⟩ v3 b n3, Below.heap_setCell _ ⟨C2, 0, none⟩ v2 b n2]
theorem S_stableL {base b0 e : Nat} {p : Nat → Prop} {v : Value} {l : List (List Int)} (h : Kd.S (Kd.slice 3 (Kd.int .i64)) e W base (fun b => ¬ own b ∧ p b) v l) (hk : KeptL b0 own W W') (hn : ∀ b, own' b → own b ∨ W.heap.size ≤ b) : Kd.S (Kd.slice 3 (Kd.int .i64)) e W' base (fun b => ¬ own' b ∧ p b) v l := by
 refine Kd.S_mono (Kd.S_step (Kd.S_bound h) fun b hb hlt => ?_) fun b hb => ⟨fun ho => (hn b ho).elim hb.1.1 (by have := hb.2.2.1; omega), hb.1.2⟩
 obtain ⟨⟨hb1, _⟩, _, _, q, _, cells, hc⟩ := hb
 rw [hk.cells hc hb1, hc]
theorem S_putD {base e : Nat} {q p : Nat → Prop} {v : Value} {l : List (List Int)} (h : Kd.S (Kd.slice 3 (Kd.int .i64)) e W base (fun b => q b ∧ p b) v l) (hk : W.heap[D]? = some (.deferred x)) (o : Obj) : Kd.S (Kd.slice 3 (Kd.int .i64)) e (W.putObj D o) base p v l := by
 refine Kd.S_mono (Kd.S_step (Kd.S_bound h) fun b hb hlt => ?_) fun b hb => hb.1.2
 obtain ⟨_, _, _, q, _, cells, hc⟩ := hb
 exact World.putObj_heap_other fun e => by subst e; rw [hc] at hk; cases hk
end
theorem res_cells3 {fn : Func} (hf : fn.results = #[.cell 2 24, .cell 3 28, .cell 4 25]) {tmps : Array Value} {C2 C3 C4 : Nat} (h2 : tmps.getD 2 undef = .pointer (some ⟨C2, 0, none⟩)) (h3 : tmps.getD 3 undef = .pointer (some ⟨C3, 0, none⟩)) (h4 : tmps.getD 4 undef = .pointer (some ⟨C4, 0, none⟩)) {W : World} {v2 : Value} {A : Option Addr} {n c : Nat} {r : Int}
  (c2 : W.heap[C2]? = some (.cells #[v2] 24 (0, 0))) (c3 : W.cell? ⟨C3, 0, none⟩ = some (.slice A n c)) (c4 : W.cell? ⟨C4, 0, none⟩ = some (.int .i64 r)) : (results fn tmps).run Try.prog W = .ok (.tuple #[.agg #[v2], .slice A n c, .int .i64 r]) W := by
 have h2' : tmps[2]?.getD undef = .pointer (some ⟨C2, 0, none⟩) := by simpa using h2
 have h3' : tmps[3]?.getD undef = .pointer (some ⟨C3, 0, none⟩) := by simpa using h3
 have h4' : tmps[4]?.getD undef = .pointer (some ⟨C4, 0, none⟩) := by simpa using h4
 have hl := run_loadVar_row (P := Try.prog) W C2 24 24 #[v2] (0, 0) _ c2 Try.underlying24 rfl (by kernel_rfl)
 simp only [results, hf]
 simp [h2', h3', h4', asAddr, hl]
 simp [go_sem, c3, c4]
def roadS (k : Nat) (R : Option (List (List Int) × List Int × Int)) : List (List (List Int)) → Option (List (List Int) × List Int × Int)
 | [] => R
 | b :: r => (reset_Reset.f k b).bind fun q => if q.2 = 0 then (color_copied.f k b).bind fun c => some (c, q.1, 0) else roadS k R r
def roadR (k : Nat) (os : Orders) : Option (List (List Int) × List Int × Int) := (color_count.f k os).bind fun c => if c.2 = true then (if 1000000 < c.1 then some ([], [], 3) else (color_every.f os).bind fun L => roadS k (some ([], [], 3)) L) else some ([], [], 3)
def color_Road.f (k : Nat) (a0 : List (List Int)) : Option (List (List Int) × List Int × Int) := (net_Period.f k a0).bind fun p => if p.2 = 0 then (if 1 < p.1 then some ([], [], 4) else (color_all.f k a0).bind fun os => (color_some.f k os 300).bind fun L => roadS k (roadR k os) L) else some ([], [], p.2)
theorem roadS.mono (k : Nat) {R R' : Option (List (List Int) × List Int × Int)} (h : LeO R R') : ∀ L, LeO (roadS k R L) (roadS (k + 1) R' L)
 | [] => h
 | b :: r => by
  unfold roadS
  exact LeO.bind (reset_Reset.mono _ _) fun q => LeO.ite (LeO.bind (color_copied.mono _ _) fun c => LeO.refl _) (roadS.mono k h r)
theorem roadR.mono (k : Nat) (os : Orders) : LeO (roadR k os) (roadR (k + 1) os) := by
 unfold roadR
 exact LeO.bind (color_count.mono _ _) fun c => LeO.ite (LeO.ite (LeO.refl _) (LeO.bind (LeO.refl _) fun L => roadS.mono k (LeO.refl _) L)) (LeO.refl _)
theorem color_Road.mono : ∀ a0 k, LeO (color_Road.f k a0) (color_Road.f (k + 1) a0) := by
 intro a0 k
 unfold color_Road.f
 refine LeO.bind (net_Period.mono _ _) fun p => LeO.ite (LeO.ite (LeO.refl _) ?_) (LeO.refl _)
 exact LeO.bind (color_all.mono _ _) fun os => LeO.bind (color_some.mono _ _ _) fun L => roadS.mono k (roadR.mono k os) L
structure XA (K : Nat → Prop) (v0 : World) (own : Nat → Prop) (W : World) : Prop where
 keep : ∀ b, K b → b < W.heap.size ∧ W.heap[b]? = v0.heap[b]?
structure XB (D : Nat) (own : Nat → Prop) (W : World) : Prop where
 at_ : W.heap[D]? = some (.deferred (some []))
 no : ¬ own D
section
variable {K : Nat → Prop} {v0 W W' : World} {own own' : Nat → Prop} {D l : Nat}
theorem XA.next (h : XA K v0 own W) (hb : Below W.heap.size W W') : XA K v0 own W' := ⟨fun b hk => ⟨Nat.lt_of_lt_of_le (h.keep b hk).1 hb.size, (hb.block b (h.keep b hk).1).trans (h.keep b hk).2⟩⟩
theorem XA.stable (h : XA K v0 own W) (hr : Roed K W W') (hs : W.heap.size ≤ W'.heap.size) : XA K v0 own' W' := ⟨fun b hk => ⟨Nat.lt_of_lt_of_le (h.keep b hk).1 hs, (hr b hk (h.keep b hk).1).trans (h.keep b hk).2⟩⟩
theorem XA.putL (h : XA K v0 own W) {r : Loop} (hl : W.heap[l]? = some (.loop r)) (hn : ∀ b, K b → b < l) (o : Obj) : XA K v0 own (W.putObj l o) := ⟨fun b hk => ⟨by simpa using (h.keep b hk).1, (World.putObj_heap_other (by have := hn b hk; omega)).trans (h.keep b hk).2⟩⟩
theorem XB.next (h : XB D own W) (hb : Below W.heap.size W W') : XB D own W' := ⟨(hb.block D (blk_ltS h.at_)).trans h.at_, h.no⟩
theorem XB.stable (h : XB D own W) {base : Nat} (hk : KeptL base own W W') (hn : ∀ b, own' b → own b ∨ W.heap.size ≤ b) : XB D own' W' := ⟨(hk.block D (blk_ltS h.at_) h.no (Or.inr fun r e => by rw [h.at_] at e; cases e)).trans h.at_, fun ho => (hn D ho).elim h.no (by have := blk_ltS h.at_; omega)⟩
theorem XB.putL (h : XB D own W) {r : Loop} (hl : W.heap[l]? = some (.loop r)) (o : Obj) : XB D own (W.putObj l o) := ⟨(World.putObj_heap_other fun e => by have ha := h.at_; rw [e, hl] at ha; cases ha).trans h.at_, h.no⟩
theorem XB.set (h : XB D own W) {g : Nat} {cs : Array Value} {t : TypeId} {fr : Nat × Nat} (hg : W.heap[g]? = some (.cells cs t fr)) (v : Value) : XB D own (W.setCell ⟨g, 0, none⟩ v) := ⟨D_put h.at_ hg v, h.no⟩
end
theorem color_Road.calls (k : Nat) (A0_0 : Option Addr) (c0_0 : Nat) (l0_0 : List (List Int)) (r1 : List (List Int)) (r2 : List Int) (r3 : Int) (w : World) (hr0_0 : Kd.C (Kd.slice 3 (Kd.int .i64)) w A0_0 l0_0.length l0_0) (hc0_0 : l0_0.length ≤ c0_0) (h : color_Road.f k l0_0 = some (r1, r2, r3)) :
  Calls Try.prog 49 #[.agg #[.slice A0_0 l0_0.length c0_0]] w fun e w' => ∃ v0_ v1_ : Value, e = .returned (.tuple #[.agg #[v0_], v1_, .int .i64 r3]) ∧ Kd.S (Kd.slice 3 (Kd.int .i64)) 28 w' w.heap.size (fun k_ => some k_ ≠ (v1_ : Value).ownBlock) v0_ r1 ∧ Kd.R (Kd.int .i64) 3 w' w.heap.size (fun _ => True) v1_ r2 ∧ Below w.heap.size w w' := by
 have HR := am hr0_0
 have HC := am hc0_0
 have HB0 := Below.refl w.heap.size w
 clear hr0_0 hc0_0
 obtain ⟨⟨d, e⟩, he, h⟩ := Option.bind_eq_some_iff.1 h
 have HE := am he
 have H := am h
 clear he h
 refine callsIn_wide.1 (callsIn_of_wp_marks (n := 0) Try.func49 rfl trivial (wpIn_wide.2 ?_) rfl)
 simp only [Try.ntmps49, List.size_toArray, List.length_cons, List.length_nil, Nat.reduceAdd, Nat.reduceSub, Array.replicate_succ, Array.replicate_zero, List.push_toArray, List.append_toArray, List.nil_append, List.cons_append]
 by_cases de : e = 0
 rotate_left
 ·have h1 := H.out
  simp only [if_neg de, Option.some.injEq, Prod.mk.injEq] at h1
  obtain ⟨rfl, rfl, rfl⟩ := h1
  have d' : (e == 0) = false := by simp [de]
  clear H
  go_wp2_with (first | ((with_reducible refine gate_dst (N := 1) rfl ?_); refine box_event zz5 (N := 1) zz5 (cs := #[.slice A0_0 l0_0.length c0_0]) (t := 24) zz6 ?_; intro B hBe w1 hbox hb1; have HBE := am (show w.heap.size ≤ B by omega); have HB1 := am (below_step HB0 hb1); have HI1 := am (IR.start HB1.out); have HX := am (show (((w1.alloc (.cells #[.slice none 0 0] 24)).alloc (.cells #[.slice none 0 0] 28)).alloc (.cells #[.int .i64 0] 25)).heap[B]? = some (.cells #[.slice A0_0 l0_0.length c0_0] 24 (0, 0)) from blk_alloc (blk_alloc (blk_alloc hbox _) _) _); have hcb : (((w1.alloc (.cells #[.slice none 0 0] 24)).alloc (.cells #[.slice none 0 0] 28)).alloc (.cells #[.int .i64 0] 25)).cell? ⟨B, 0, none⟩ = some (.slice A0_0 l0_0.length c0_0) := (blk_cell HX.out 0).trans rfl; clear hbox hb1 hBe)  | (go_at_call 25; refine (net_Period.calls _ _ _ _ _ _ _ (Kd.C_below HR.out HI1.out.below) HC.out HE.out).mono ?_; rintro e2 w2 ⟨rfl, hb2⟩; have HI2 := am (HI1.out.next hb2); have hx2 := blk_below HX.out hb2; have HX2 := am hx2; have hcb2 : w2.cell? ⟨B, 0, none⟩ = some (.slice A0_0 l0_0.length c0_0) := (blk_cell hx2 0).trans rfl; have hc2 := (blk_cell HI2.out.c2 0).trans (rfl : _ = some (Value.slice none 0 0)); have hf2 := blk_frozen HI2.out.c2 0; have hc3 := (blk_cell HI2.out.c3 0).trans (rfl : _ = some (Value.slice none 0 0)); have hf3 := blk_frozen HI2.out.c3 0; have hc4 := (blk_cell HI2.out.c4 0).trans (rfl : _ = some (Value.int .i64 0)); have hf4 := blk_frozen HI2.out.c4 0; clear hb2 hx2))
  have HI4 := am (HI2.out.put (by omega) (by omega) (by omega) (.slice none 0 0) (.slice none 0 0) (.int .i64 e))
  refine ⟨_, res_cells3 rfl rfl rfl rfl HI4.out.c2 ((blk_cell HI4.out.c3 0).trans rfl) ((blk_cell HI4.out.c4 0).trans rfl), _, _, rfl, Kd.S_nil _ _ _ _ _, Kd.R_nil _ _ _ _ _, HI4.out.below⟩
 subst de
 have d' : ((0 : Int) == 0) = true := rfl
 have H1 := H.out
 simp only [if_true] at H1
 by_cases dd : 1 < d
 ·rw [if_pos dd] at H1
  simp only [Option.some.injEq, Prod.mk.injEq] at H1
  obtain ⟨rfl, rfl, rfl⟩ := H1
  have d1 : decide (1 < d) = true := decide_eq_true dd
  clear H dd
  go_wp2_with (first | ((with_reducible refine gate_dst (N := 1) rfl ?_); refine box_event zz5 (N := 1) zz5 (cs := #[.slice A0_0 l0_0.length c0_0]) (t := 24) zz6 ?_; intro B hBe w1 hbox hb1; have HBE := am (show w.heap.size ≤ B by omega); have HB1 := am (below_step HB0 hb1); have HI1 := am (IR.start HB1.out); have HX := am (show (((w1.alloc (.cells #[.slice none 0 0] 24)).alloc (.cells #[.slice none 0 0] 28)).alloc (.cells #[.int .i64 0] 25)).heap[B]? = some (.cells #[.slice A0_0 l0_0.length c0_0] 24 (0, 0)) from blk_alloc (blk_alloc (blk_alloc hbox _) _) _); have hcb : (((w1.alloc (.cells #[.slice none 0 0] 24)).alloc (.cells #[.slice none 0 0] 28)).alloc (.cells #[.int .i64 0] 25)).cell? ⟨B, 0, none⟩ = some (.slice A0_0 l0_0.length c0_0) := (blk_cell HX.out 0).trans rfl; clear hbox hb1 hBe)  | (go_at_call 25; refine (net_Period.calls _ _ _ _ _ _ _ (Kd.C_below HR.out HI1.out.below) HC.out HE.out).mono ?_; rintro e2 w2 ⟨rfl, hb2⟩; have HI2 := am (HI1.out.next hb2); have hx2 := blk_below HX.out hb2; have HX2 := am hx2; have hcb2 : w2.cell? ⟨B, 0, none⟩ = some (.slice A0_0 l0_0.length c0_0) := (blk_cell hx2 0).trans rfl; have hc2 := (blk_cell HI2.out.c2 0).trans (rfl : _ = some (Value.slice none 0 0)); have hf2 := blk_frozen HI2.out.c2 0; have hc3 := (blk_cell HI2.out.c3 0).trans (rfl : _ = some (Value.slice none 0 0)); have hf3 := blk_frozen HI2.out.c3 0; have hc4 := (blk_cell HI2.out.c4 0).trans (rfl : _ = some (Value.int .i64 0)); have hf4 := blk_frozen HI2.out.c4 0; clear hb2 hx2))
  have HI4 := am (HI2.out.put (by omega) (by omega) (by omega) (.slice none 0 0) (.slice none 0 0) (.int .i64 4))
  refine ⟨_, res_cells3 rfl rfl rfl rfl HI4.out.c2 ((blk_cell HI4.out.c3 0).trans rfl) ((blk_cell HI4.out.c4 0).trans rfl), _, _, rfl, Kd.S_nil _ _ _ _ _, Kd.R_nil _ _ _ _ _, HI4.out.below⟩
 ·rw [if_neg dd] at H1
  have d1 : decide (1 < d) = false := decide_eq_false dd
  obtain ⟨os, ho, H2⟩ := Option.bind_eq_some_iff.1 H1
  obtain ⟨L, hL, hF⟩ := Option.bind_eq_some_iff.1 H2
  have HO := am ho
  have HL := am hL
  have HF := am hF
  clear H H1 H2 ho hL hF dd
  go_wp2_with (first | ((with_reducible refine gate_dst (N := 1) rfl ?_); refine box_event zz5 (N := 1) zz5 (cs := #[.slice A0_0 l0_0.length c0_0]) (t := 24) zz6 ?_; intro B hBe w1 hbox hb1; have HBE := am (show w.heap.size ≤ B by omega); have HB1 := am (below_step HB0 hb1); have HI1 := am (IR.start HB1.out); have HX := am (show (((w1.alloc (.cells #[.slice none 0 0] 24)).alloc (.cells #[.slice none 0 0] 28)).alloc (.cells #[.int .i64 0] 25)).heap[B]? = some (.cells #[.slice A0_0 l0_0.length c0_0] 24 (0, 0)) from blk_alloc (blk_alloc (blk_alloc hbox _) _) _); have hcb : (((w1.alloc (.cells #[.slice none 0 0] 24)).alloc (.cells #[.slice none 0 0] 28)).alloc (.cells #[.int .i64 0] 25)).cell? ⟨B, 0, none⟩ = some (.slice A0_0 l0_0.length c0_0) := (blk_cell HX.out 0).trans rfl; clear hbox hb1 hBe)  | (go_at_call 25; refine (net_Period.calls _ _ _ _ _ _ _ (Kd.C_below HR.out HI1.out.below) HC.out HE.out).mono ?_; rintro e2 w2 ⟨rfl, hb2⟩; have HI2 := am (HI1.out.next hb2); have hx2 := blk_below HX.out hb2; have HX2 := am hx2; have hcb2 : w2.cell? ⟨B, 0, none⟩ = some (.slice A0_0 l0_0.length c0_0) := (blk_cell hx2 0).trans rfl; have hc2 := (blk_cell HI2.out.c2 0).trans (rfl : _ = some (Value.slice none 0 0)); have hf2 := blk_frozen HI2.out.c2 0; have hc3 := (blk_cell HI2.out.c3 0).trans (rfl : _ = some (Value.slice none 0 0)); have hf3 := blk_frozen HI2.out.c3 0; have hc4 := (blk_cell HI2.out.c4 0).trans (rfl : _ = some (Value.int .i64 0)); have hf4 := blk_frozen HI2.out.c4 0; clear hb2 hx2)  | (go_at_call 86; refine (color_all.calls _ _ _ _ _ _ (Kd.C_below HR.out HI2.out.below) HC.out HO.out).mono ?_; rintro e3 w3 ⟨v0, rfl, hR3, hb3⟩; obtain ⟨Ao, co, rfl⟩ := Kd.R_slice hR3; have HI3 := am (HI2.out.next hb3); have HS3 := am hb3.size; have HR3 := am hR3; clear hR3 hb3)  | (go_at_call 88; refine (color_some.makes _ _ _ _ _).mono ?_; rintro e4 w4 ⟨Ob, Mb, rfl, hO, hM, xO, xM, hb4⟩; have HI4 := am (HI3.out.next hb4); have HR4 := am (Kd.R_below HR3.out hb4); have HS34 := am hb4.size; have HO4 := am hO; have HM4 := am hM; have XO := am xO; have XM := am xM; clear hO hM xO xM hb4))
  have HS2 : Aside0 (w1.heap.size + 2 < w2.heap.size) := ⟨blk_ltS HI2.out.c4⟩
  have HN23 : Aside0 (w1.heap.size ≠ w1.heap.size + 1) := ⟨by omega⟩
  have HN24 : Aside0 (w1.heap.size ≠ w1.heap.size + 2) := ⟨by omega⟩
  have HN34 : Aside0 (w1.heap.size + 1 ≠ w1.heap.size + 2) := ⟨by omega⟩
  have HL2 : Aside0 (w1.heap.size < w2.heap.size) := ⟨by have := HS2.out; omega⟩
  have HL3 : Aside0 (w1.heap.size + 1 < w2.heap.size) := ⟨by have := HS2.out; omega⟩
  have HO5 : Aside0 (w2.heap.size ≤ Ob) := ⟨Nat.le_trans HS3.out HO4.out⟩
  have HM5 : Aside0 (w2.heap.size ≤ Mb) := ⟨Nat.le_trans HS3.out HM4.out⟩
  have HLW2 : Aside0 (w.heap.size ≤ w2.heap.size) := ⟨HI2.out.below.size⟩
  have HS4 : Aside0 (w2.heap.size ≤ w4.heap.size) := ⟨Nat.le_trans HS3.out HS34.out⟩
  clear HI1 HI2 HI3 HR3 HX HX2 HB1 hcb hcb2 hc2 hf2 hc3 hf3 hc4 hf4 HO4 HM4 HS3 HS34 HBE
  generalize w1.heap.size + 2 = C4 at HI4 HS2 HN24 HN34 ⊢
  generalize w1.heap.size + 1 = C3 at HI4 HN23 HN34 HL3 ⊢
  generalize w1.heap.size = C2 at HI4 HN23 HN24 HL2 ⊢
  generalize w2.heap.size = lo at HS2 HL2 HL3 HO5 HM5 HLW2 HS4 HR4
  have HRC : Aside0 (os.length ≤ co ∧ Kd.C (Kd.slice 28 (Kd.slice 3 (Kd.int .i64))) (shows (fun b => lo ≤ b ∧ b < w4.heap.size) w4) Ao os.length os) := by
   obtain ⟨_, h1, h2⟩ := Kd.R_reads' (Kd.R_step (w1 := shows (fun b => lo ≤ b ∧ b < w4.heap.size) w4) (Kd.R_bound HR4.out) (fun b hb hlt => shows_at (fun b => lo ≤ b ∧ b < w4.heap.size) w4 b ⟨hb.2.1, hb.2.2.1⟩))
   exact ⟨⟨h1, h2⟩⟩
  have seq := color_some.seq k Ao co os 300 L Ob Mb w.heap.size (fun b => lo ≤ b ∧ b < w4.heap.size) (shows (fun b => lo ≤ b ∧ b < w4.heap.size) w4) ⟨HO5.out, blk_ltS XO.out⟩ ⟨HM5.out, blk_ltS XM.out⟩ (shows_only _ _) HRC.out.2 HRC.out.1 HL.out
  refine wp_rangeFunc_iterR (ro := fun b => lo ≤ b ∧ b < w4.heap.size) (base := w.heap.size) (own0 := fun b => lo ≤ b ∧ b < w4.heap.size) rfl (enters_ Try.func109 (by kernel_rfl) rfl) seq (fun b hb => hb.2) HI4.out.below.size (fun b hb => ⟨hb.2, Nat.le_trans HLW2.out hb.1⟩) (fun W hW => ⟨Nat.le_trans HI4.out.below.size hW.size, fun b hq => ⟨Nat.lt_of_lt_of_le hq.2 hW.size, (hW.block b hq.2).trans (shows_at (fun b => lo ≤ b ∧ b < w4.heap.size) w4 b hq).symm⟩, blk_below XO.out hW, blk_below XM.out hW⟩) (fun own x W vs he => by obtain ⟨_, A, c, rfl, _⟩ := he; rfl)
   (fun own pre W => IR w C2 C3 C4 own W (.slice none 0 0) (.slice none 0 0) (.int .i64 0) ∧ XA (fun b => lo ≤ b ∧ b < w4.heap.size) w4 own W ∧ ∃ rest, L = pre ++ rest ∧ roadS k (roadR k os) rest = some (r1, r2, r3))
   (fun c own pre W => c = .ret ∧ ∃ v2 A n cp, IR w C2 C3 C4 own W v2 (.slice A n cp) (.int .i64 r3) ∧ Kd.S (Kd.slice 3 (Kd.int .i64)) 28 W w.heap.size (fun b => ¬ own b ∧ some b ≠ (Value.slice A n cp).ownBlock) v2 r1 ∧ Kd.R (Kd.int .i64) 3 W w.heap.size (fun b => ¬ own b) (.slice A n cp) r2)
   ?stI ?stX ?start ?round ?done ?stop
  case stI =>
   rintro own own' s A B ⟨hi, hxk, hr⟩ hk hro hs hn
   exact ⟨hi.stable hk hs hn, hxk.stable hro hk.size, hr⟩
  case stX =>
   rintro c own own' s A B ⟨rfl, v2, A1, n1, c1, hi, hS, hr⟩ hk hro hs hn
   exact ⟨rfl, v2, A1, n1, c1, hi.stable hk hs hn, S_stableL hS hk hn, R_stableL hr hk hn⟩
  case start => exact ⟨⟨HI4.out.below, HI4.out.c2, HI4.out.c3, HI4.out.c4, fun h => absurd h.1 (by have := HL2.out; omega), fun h => absurd h.1 (by have := HL3.out; omega), fun h => absurd h.1 (by have := HS2.out; omega), HI4.out.h2, HI4.out.h3, HI4.out.h4⟩, ⟨fun b hb => ⟨hb.2, rfl⟩⟩, L, rfl, HF.out⟩
  case stop =>
   rintro D c own pre W ⟨rfl, v2, A1, n1, c1, hi, hS, hR⟩ hbs hK hD
   have HI := am hi
   have HK := am hK
   have HRV := am hR
   have HSV := am hS
   have HD := am (show w.heap.size ≤ D from Nat.le_trans HI4.out.below.size hD)
   clear hi hK hR hS seq
   go_wp2_with fail
   have HI5 := HI.out.putD HK.out HD.out (.deferred none)
   refine ⟨by simp, .inl ⟨_, _, rfl, run_takeDeferred HK.out, ?_⟩⟩
   exact ⟨_, res_cells3 rfl rfl rfl rfl HI5.c2 ((blk_cell HI5.c3 0).trans rfl) ((blk_cell HI5.c4 0).trans rfl), _, _, rfl, S_putD HSV.out HK.out _, R_putD HRV.out HK.out _, HI5.below⟩
  case round =>
   rintro l D own pre x vs W ⟨hi, hxk, rest, hL, hF⟩ ⟨rest2, hL2⟩ ⟨hob, Ax, cx, rfl, hcx, hCx⟩ ⟨r, hr⟩ ⟨dd, hd⟩ hl hD hnl hnD hbs
   obtain rfl : rest = x :: rest2 := List.append_cancel_left (hL.symm.trans hL2)
   obtain ⟨⟨q1, q2⟩, hq, hF2⟩ := Option.bind_eq_some_iff.1 hF
   have HQ := am hq
   have HF2 := am hF2
   have HP : Aside0 (L = pre ++ [x] ++ rest2) := ⟨by rw [hL2]; simp⟩
   have HCX := am hcx
   have HBS := am hbs
   have HLW := am (show w.heap.size ≤ l from Nat.le_trans HI4.out.below.size hl)
   have hlW := blk_ltS hr
   have n2l : C2 ≠ l := fun e => by subst e; rw [hi.c2] at hr; cases hr
   have n3l : C3 ≠ l := fun e => by subst e; rw [hi.c3] at hr; cases hr
   have n4l : C4 ≠ l := fun e => by subst e; rw [hi.c4] at hr; cases hr
   have n2D : C2 ≠ D := fun e => by subst e; rw [hi.c2] at hd; cases hd
   have n3D : C3 ≠ D := fun e => by subst e; rw [hi.c3] at hd; cases hd
   have n4D : C4 ≠ D := fun e => by subst e; rw [hi.c4] at hd; cases hd
   have K2 : Aside0 (¬ keepR w.heap.size own l D C2) := ⟨fun h => by rcases h with (h | h) | h | h; exact absurd hi.h2 (by omega); exact hi.n2 h; exact n2l h; exact n2D h⟩
   have K3 : Aside0 (¬ keepR w.heap.size own l D C3) := ⟨fun h => by rcases h with (h | h) | h | h; exact absurd hi.h3 (by omega); exact hi.n3 h; exact n3l h; exact n3D h⟩
   have K4 : Aside0 (¬ keepR w.heap.size own l D C4) := ⟨fun h => by rcases h with (h | h) | h | h; exact absurd hi.h4 (by omega); exact hi.n4 h; exact n4l h; exact n4D h⟩
   have HB1 : Aside0 (Below W.heap.size W (W.alloc (.cells #[.slice Ax x.length cx] 24))) := ⟨ba (Below.refl _ _) _⟩
   have HX1 := am (World.alloc_heap_new W (.cells #[.slice Ax x.length cx] 24))
   have HI1 := am (hi.next HB1.out)
   have HK1 := am (hxk.next HB1.out)
   have HLK := am (show ∀ b, (lo ≤ b ∧ b < w4.heap.size) → b < l from fun b hb => Nat.lt_of_lt_of_le hb.2 hl)
   have HC1 := am (Kd.C_below hCx HB1.out)
   have HOW : Aside0 (∀ b, own b → b < W.heap.size) := ⟨hob⟩
   have HNL : Aside0 (W.heap.size ≠ l) := ⟨by omega⟩
   clear hi hxk hbs hq hF2 hF hL hL2 hd hr n2l n3l n4l n2D n3D n4D hCx hcx hob hlW seq
   rw [zip1]
   simp only [List.setIfInBounds_toArray, List.set_cons_succ, List.set_cons_zero]
   gi_wp2
   refine ⟨RoundKept.of_below HB1.out, ?_⟩
   rintro W2 r0 hr1 r1' rfl
   have HK2 := am (KeptL.putObj (own := own) (.loop r1') hr1 HLW.out)
   have HI2 := am (HI1.out.stable HK2.out HBS.out fun b hb => Or.inl hb)
   have HKK2 := am (HK1.out.putL hr1 HLK.out (.loop r1'))
   have HC2 := am (C_rows_cells (cells_putLoop hr1 (.loop r1')) HC1.out)
   have HX2 : Aside0 (((W.alloc (.cells #[.slice Ax x.length cx] 24)).putObj l (.loop r1')).heap[W.heap.size]? = some (.cells #[.slice Ax x.length cx] 24 (0, 0))) := ⟨(World.putObj_heap_other HNL.out).trans HX1.out⟩
   have HOW2 : Aside0 (∀ b, own b → b < ((W.alloc (.cells #[.slice Ax x.length cx] 24)).putObj l (.loop r1')).heap.size) := ⟨fun b hb => by have := HOW.out b hb; simp; omega⟩
   clear HK2 HI1 HK1 HC1 HX1 hr1 HOW HB1
   generalize (W.alloc (.cells #[.slice Ax x.length cx] 24)).putObj l (.loop r1') = W2 at HI2 HKK2 HC2 HX2 HOW2 ⊢
   generalize W.heap.size = X at HX2 HNL ⊢
   have hcx2 : W2.cell? ⟨X, 0, none⟩ = some (.slice Ax x.length cx) := (blk_cell HX2.out 0).trans rfl
   by_cases dq : q2 = 0
   ·subst dq
    obtain ⟨cp, hcp, hF3⟩ := Option.bind_eq_some_iff.1 (show ((color_copied.f k x).bind fun c => some (c, q1, (0 : Int))) = some (r1, r2, r3) from by have h1 := HF2.out; simp only [if_true] at h1; exact h1)
    simp only [Option.some.injEq, Prod.mk.injEq] at hF3
    obtain ⟨rfl, rfl, rfl⟩ := hF3
    have HCP := am hcp
    have b1 : ((0 : Int) == 0) = true := rfl
    clear HF2 hcp
    gi_wp2_with (first  | (refine ⟨trivial, rfl, ?_⟩; refine (CallsIn.inRound l (callsIn_wide.2 (reset_Reset.calls _ _ _ _ _ _ _ HC2.out HCX.out HQ.out))).mono ?_; rintro e3 W3 ⟨v1, rfl, hv1, hb3⟩; obtain ⟨A1, c1, rfl⟩ := Kd.R_slice hv1; have HB3 := am hb3; have HI3 := am (HI2.out.next hb3); have HV3 := am hv1; have HC3 := am (Kd.C_below HC2.out hb3); have HX3 := am (blk_below HX2.out hb3); have hcx3 : W3.cell? ⟨X, 0, none⟩ = some (.slice Ax x.length cx) := (blk_cell HX3.out 0).trans rfl; clear hv1 hb3)  | (refine ⟨trivial, rfl, ?_⟩; refine (CallsIn.inRound l (callsIn_wide.2 (color_copied.calls _ _ _ _ _ _ HC3.out HCX.out HCP.out))).mono ?_; rintro e4 W4 ⟨v0, rfl, hv0, hb4⟩; obtain ⟨A0, c0, rfl⟩ := Kd.S_slice hv0; have HB4 := am (below_step HB3.out hb4); have HI4 := am (HI3.out.next hb4); have HV4 := am (Kd.R_below HV3.out hb4); have HW4 := am hv0; have hc2 := (blk_cell HI4.out.c2 0).trans (rfl : _ = some (Value.slice none 0 0)); have hf2 := blk_frozen HI4.out.c2 0; have ho3 := IR.o3 HI4.out HN23.out (.slice A0 cp.length c0); have hc3 := (blk_cell ho3 0).trans (rfl : _ = some (Value.slice none 0 0)); have hf3 := blk_frozen ho3 0; have ho4 := IR.o4 HI4.out HN24.out HN34.out (.slice A0 cp.length c0) (.slice A1 q1.length c1); have hc4 := (blk_cell ho4 0).trans (rfl : _ = some (Value.int .i64 0)); have hf4 := blk_frozen ho4 0; clear hv0 hb4 ho3 ho4))
    have HI5 := HI4.out.put HN23.out HN24.out HN34.out (.slice A0 cp.length c0) (.slice A1 q1.length c1) (.int .i64 0)
    have hk2 := blk_ltS HI2.out.c2
    have hk3 := blk_ltS HI2.out.c3
    have hk4 := blk_ltS HI2.out.c4
    refine ⟨(((RoundKept.of_below HB4.out).trans (RoundKept.set _ K2.out)).trans (RoundKept.set _ K3.out)).trans (RoundKept.set _ K4.out), rfl, _, _, _, _, HI5, ?_, ?_⟩
    ·have h3 := HB3.out.size
     refine Kd.S_mono (Kd.S_lower (S_put3 (Kd.S_bound HW4.out) HI4.out fun b hb => ?_) (Nat.le_trans HI2.out.below.size h3)) fun b hb => ⟨fun ho => ?_, fun he => ?_⟩
     ·have := hb.2.1
      exact ⟨by omega, by omega, by omega⟩
     ·have h1 := HOW2.out b ho
      have h2 := hb.2.1
      omega
     ·have h1 := ((Kd.R_bound HV3.out).1 b he.symm).2.2.1
      have h2 := hb.2.1
      omega
    ·refine Kd.R_mono (Kd.R_lower (R_put3 (Kd.R_bound HV4.out) HI4.out fun b hb => ?_) HI2.out.below.size) fun b hb ho => ?_
     ·have := hb.2.1
      exact ⟨by omega, by omega, by omega⟩
     ·have h1 := HOW2.out b ho
      have h2 := hb.2.1
      omega
   ·have hh := HF2.out
    simp only [if_neg dq] at hh
    have HF3 := am hh
    have b1 : (q2 == 0) = false := by simp [dq]
    clear HF2 hh dq
    gi_wp2_with (refine ⟨trivial, rfl, ?_⟩; refine (CallsIn.inRound l (callsIn_wide.2 (reset_Reset.calls _ _ _ _ _ _ _ HC2.out HCX.out HQ.out))).mono ?_; rintro e3 W3 ⟨v1, rfl, hv1, hb3⟩; obtain ⟨A1, c1, rfl⟩ := Kd.R_slice hv1; have HB3 := am hb3; have HI3 := am (HI2.out.next hb3); have HKK3 := am (HKK2.out.next hb3); clear hv1 hb3)
    exact ⟨RoundKept.of_below HB3.out, HI3.out, HKK3.out, rest2, HP.out, HF3.out⟩
  case done =>
   rintro D1 own1 W ⟨hi, hxk, rest, hL, hF⟩ hbs1 hK1 hD1
   obtain rfl : rest = [] := List.append_cancel_left (hL.symm.trans (List.append_nil L).symm)
   have hF : roadR k os = some (r1, r2, r3) := hF
   unfold roadR at hF
   obtain ⟨⟨n5, ok5⟩, hcnt, hF⟩ := Option.bind_eq_some_iff.1 hF
   have HCN := am hcnt
   have HF5 := am hF
   have HI := am hi
   have HXA := am hxk
   have HK1 := am hK1
   have HD1 := am (show w.heap.size ≤ D1 from Nat.le_trans HI4.out.below.size hD1)
   have HD4 := am (show w4.heap.size ≤ D1 from hD1)
   have HRW := am (Kd.R_step (w1 := W) (Kd.R_bound HR4.out) (fun b hb hlt => (hxk.keep b ⟨hb.2.1, hb.2.2.1⟩).2))
   have HRD : Aside0 (os.length ≤ co ∧ Kd.C (Kd.slice 28 (Kd.slice 3 (Kd.int .i64))) W Ao os.length os) := by
    obtain ⟨_, h1, h2⟩ := Kd.R_reads' HRW.out
    exact ⟨⟨h1, h2⟩⟩
   clear hi hxk hK1 hD1 hL hF hcnt seq HF HI4 HRC hbs1
   by_cases dok : ok5 = true
   rotate_left
   ·have h1 := HF5.out
    simp only [if_neg dok, Option.some.injEq, Prod.mk.injEq] at h1
    obtain ⟨rfl, rfl, rfl⟩ := h1
    obtain rfl : ok5 = false := by simpa using dok
    clear dok HF5
    go_wp2_with (go_at_call 85; refine (color_count.calls _ _ _ _ _ _ _ HRD.out.2 HRD.out.1 HCN.out).mono ?_; rintro e5 w5 ⟨rfl, hd5⟩; have hb5 := hd5.below; have HI5 := am (HI.out.next hb5); have hc2 := (blk_cell HI5.out.c2 0).trans (rfl : _ = some (Value.slice none 0 0)); have hf2 := blk_frozen HI5.out.c2 0; have ho3 := IR.o3 HI5.out HN23.out (.slice none 0 0); have hc3 := (blk_cell ho3 0).trans (rfl : _ = some (Value.slice none 0 0)); have hf3 := blk_frozen ho3 0; have ho4 := IR.o4 HI5.out HN24.out HN34.out (.slice none 0 0) (.slice none 0 0); have hc4 := (blk_cell ho4 0).trans (rfl : _ = some (Value.int .i64 0)); have hf4 := blk_frozen ho4 0; clear ho3 ho4; have HK5 := am ((hb5.block D1 (blk_ltS HK1.out)).trans HK1.out); clear hb5 hd5)
    have HI6 := HI5.out.put HN23.out HN24.out HN34.out (.slice none 0 0) (.slice none 0 0) (.int .i64 3)
    have hk6 := D_put (D_put (D_put HK5.out HI5.out.c2 (.slice none 0 0)) (IR.o3 HI5.out HN23.out (.slice none 0 0)) (.slice none 0 0)) (IR.o4 HI5.out HN24.out HN34.out (.slice none 0 0) (.slice none 0 0)) (.int .i64 3)
    have HI7 := HI6.putD hk6 HD1.out (.deferred none)
    refine ⟨by simp, .inl ⟨_, _, rfl, run_takeDeferred hk6, ?_⟩⟩
    exact ⟨_, res_cells3 rfl rfl rfl rfl HI7.c2 ((blk_cell HI7.c3 0).trans rfl) ((blk_cell HI7.c4 0).trans rfl), _, _, rfl, Kd.S_nil _ _ _ _ _, Kd.R_nil _ _ _ _ _, HI7.below⟩
   subst dok
   have H6 := HF5.out
   simp only [if_true] at H6
   by_cases dn : 1000000 < n5
   ·rw [if_pos dn] at H6
    simp only [Option.some.injEq, Prod.mk.injEq] at H6
    obtain ⟨rfl, rfl, rfl⟩ := H6
    have dn1 : decide (1000000 < n5) = true := decide_eq_true dn
    clear dn HF5
    go_wp2_with (go_at_call 85; refine (color_count.calls _ _ _ _ _ _ _ HRD.out.2 HRD.out.1 HCN.out).mono ?_; rintro e5 w5 ⟨rfl, hd5⟩; have hb5 := hd5.below; have HI5 := am (HI.out.next hb5); have hc2 := (blk_cell HI5.out.c2 0).trans (rfl : _ = some (Value.slice none 0 0)); have hf2 := blk_frozen HI5.out.c2 0; have ho3 := IR.o3 HI5.out HN23.out (.slice none 0 0); have hc3 := (blk_cell ho3 0).trans (rfl : _ = some (Value.slice none 0 0)); have hf3 := blk_frozen ho3 0; have ho4 := IR.o4 HI5.out HN24.out HN34.out (.slice none 0 0) (.slice none 0 0); have hc4 := (blk_cell ho4 0).trans (rfl : _ = some (Value.int .i64 0)); have hf4 := blk_frozen ho4 0; clear ho3 ho4; have HK5 := am ((hb5.block D1 (blk_ltS HK1.out)).trans HK1.out); clear hb5 hd5)
    have HI6 := HI5.out.put HN23.out HN24.out HN34.out (.slice none 0 0) (.slice none 0 0) (.int .i64 3)
    have hk6 := D_put (D_put (D_put HK5.out HI5.out.c2 (.slice none 0 0)) (IR.o3 HI5.out HN23.out (.slice none 0 0)) (.slice none 0 0)) (IR.o4 HI5.out HN24.out HN34.out (.slice none 0 0) (.slice none 0 0)) (.int .i64 3)
    have HI7 := HI6.putD hk6 HD1.out (.deferred none)
    refine ⟨by simp, .inl ⟨_, _, rfl, run_takeDeferred hk6, ?_⟩⟩
    exact ⟨_, res_cells3 rfl rfl rfl rfl HI7.c2 ((blk_cell HI7.c3 0).trans rfl) ((blk_cell HI7.c4 0).trans rfl), _, _, rfl, Kd.S_nil _ _ _ _ _, Kd.R_nil _ _ _ _ _, HI7.below⟩
   rw [if_neg dn] at H6
   have dn1 : decide (1000000 < n5) = false := decide_eq_false dn
   obtain ⟨L2, hL2, hF6⟩ := Option.bind_eq_some_iff.1 H6
   have HL2' := am hL2
   have HF6 := am hF6
   clear dn H6 hL2 hF6 HF5
   go_wp2_with (first | (go_at_call 85; refine (color_count.calls _ _ _ _ _ _ _ HRD.out.2 HRD.out.1 HCN.out).mono ?_; rintro e5 w5 ⟨rfl, hd5⟩; have hb5 := hd5.below; have HI5 := am (HI.out.next hb5); have HXA5 := am (HXA.out.next hb5); have HK5 := am ((hb5.block D1 (blk_ltS HK1.out)).trans HK1.out); clear hb5 hd5)  | (go_at_call 90; refine (color_every.makes _ _ _ _).mono ?_; rintro e6 w6 ⟨Oc, rfl, hO, xO, hb6⟩; have HI6 := am (HI5.out.next hb6); have HXA6 := am (HXA5.out.next hb6); have HK6 := am ((hb6.block D1 (blk_ltS HK5.out)).trans HK5.out); have HDO := am (show D1 < Oc from Nat.lt_of_lt_of_le (blk_ltS HK5.out) hO); have XO6 := am xO; clear hO xO hb6))
   have HDL : Aside0 (D1 < w6.heap.size) := ⟨blk_ltS HK6.out⟩
   have HLO : Aside0 (Oc < w6.heap.size) := ⟨blk_ltS XO6.out⟩
   have HRC : Aside0 (os.length ≤ co ∧ Kd.C (Kd.slice 28 (Kd.slice 3 (Kd.int .i64))) (shows (fun b => (lo ≤ b ∧ b < w4.heap.size) ∨ b = Oc) w6) Ao os.length os) := by
    obtain ⟨_, h1, h2⟩ := Kd.R_reads' (Kd.R_step (w1 := shows (fun b => (lo ≤ b ∧ b < w4.heap.size) ∨ b = Oc) w6) (Kd.R_bound HR4.out) (fun b hb hlt => (shows_at (fun b => (lo ≤ b ∧ b < w4.heap.size) ∨ b = Oc) w6 b (Or.inl ⟨hb.2.1, hb.2.2.1⟩)).trans (HXA6.out.keep b ⟨hb.2.1, hb.2.2.1⟩).2))
    exact ⟨⟨h1, h2⟩⟩
   have seq2 := color_every.seq Ao co os L2 Oc w.heap.size (fun b => (lo ≤ b ∧ b < w4.heap.size) ∨ b = Oc) (shows (fun b => (lo ≤ b ∧ b < w4.heap.size) ∨ b = Oc) w6) (Or.inr rfl) (shows_only _ _) HRC.out.2 HRC.out.1 HL2'.out
   have hown2 : ∀ b, ((lo ≤ b ∧ b < w4.heap.size) ∨ b = Oc) → b < w6.heap.size ∧ w.heap.size ≤ b := by
    rintro b (hb | rfl)
    ·exact ⟨(HXA6.out.keep b hb).1, Nat.le_trans HLW2.out hb.1⟩
    ·exact ⟨HLO.out, by have h1 := HDO.out; have h2 := HD1.out; omega⟩
   refine wp_rangeFunc_iter (base := w.heap.size) (own0 := fun b => (lo ≤ b ∧ b < w4.heap.size) ∨ b = Oc) rfl (enters_ Try.func110 (by kernel_rfl) rfl) seq2 HI6.out.below.size hown2 (fun W hW => ⟨fun b hq => ⟨Nat.lt_of_lt_of_le (hown2 b hq).1 hW.size, (hW.block b (hown2 b hq).1).trans (shows_at (fun b => (lo ≤ b ∧ b < w4.heap.size) ∨ b = Oc) w6 b hq).symm⟩, blk_below XO6.out hW⟩) (fun own x W vs he => by obtain ⟨_, A, c, rfl, _⟩ := he; rfl)
    (fun own pre W => IR w C2 C3 C4 own W (.slice none 0 0) (.slice none 0 0) (.int .i64 0) ∧ XB D1 own W ∧ ∃ rest, L2 = pre ++ rest ∧ roadS k (some ([], [], 3)) rest = some (r1, r2, r3))
    (fun c own pre W => c = .ret ∧ XB D1 own W ∧ ∃ v2 A n cp, IR w C2 C3 C4 own W v2 (.slice A n cp) (.int .i64 r3) ∧ Kd.S (Kd.slice 3 (Kd.int .i64)) 28 W w.heap.size (fun b => ¬ own b ∧ some b ≠ (Value.slice A n cp).ownBlock) v2 r1 ∧ Kd.R (Kd.int .i64) 3 W w.heap.size (fun b => ¬ own b) (.slice A n cp) r2)
    ?stI2 ?stX2 ?start2 ?round ?done2 ?stop2
   case stI2 =>
    rintro own own' s A B ⟨hi, hxk, hr⟩ hk hs hn
    exact ⟨hi.stable hk hs hn, hxk.stable hk hn, hr⟩
   case stX2 =>
    rintro c own own' s A B ⟨rfl, hxk, v2, A1, n1, c1, hi, hS, hr⟩ hk hs hn
    exact ⟨rfl, hxk.stable hk hn, v2, A1, n1, c1, hi.stable hk hs hn, S_stableL hS hk hn, R_stableL hr hk hn⟩
   case start2 =>
    have h2 := HL2.out
    have h3 := HL3.out
    have h4 := HS2.out
    have hlt : ∀ X, X < lo → ¬ ((lo ≤ X ∧ X < w4.heap.size) ∨ X = Oc) := by
     rintro X hX (h | rfl)
     ·omega
     ·have g1 := HDO.out; have g2 := HD4.out; have g3 := HS4.out; omega
    refine ⟨⟨HI6.out.below, HI6.out.c2, HI6.out.c3, HI6.out.c4, hlt _ h2, hlt _ h3, hlt _ h4, HI6.out.h2, HI6.out.h3, HI6.out.h4⟩, ⟨HK6.out, ?_⟩, L2, rfl, HF6.out⟩
    rintro (h | rfl)
    ·have g2 := HD4.out; omega
    ·have g1 := HDO.out; omega
   case done2 =>
    rintro D own W ⟨hi, hxk, rest, hL, hF⟩ hbs hK hD
    obtain rfl : rest = [] := List.append_cancel_left (hL.symm.trans (List.append_nil L2).symm)
    have hF : some (([] : List (List Int)), ([] : List Int), (3 : Int)) = some (r1, r2, r3) := hF
    simp only [Option.some.injEq, Prod.mk.injEq] at hF
    obtain ⟨rfl, rfl, rfl⟩ := hF
    have HI7 := am hi
    have HXB := am hxk
    have HK := am hK
    have HD := am (show w.heap.size ≤ D from Nat.le_trans HI6.out.below.size hD)
    have HDD := am (show D1 < D from Nat.lt_of_lt_of_le HDL.out hD)
    have hc2 := (blk_cell HI7.out.c2 0).trans (rfl : _ = some (Value.slice none 0 0))
    have hf2 := blk_frozen HI7.out.c2 0
    have ho3 := IR.o3 HI7.out HN23.out (.slice none 0 0)
    have hc3 := (blk_cell ho3 0).trans (rfl : _ = some (Value.slice none 0 0))
    have hf3 := blk_frozen ho3 0
    have ho4 := IR.o4 HI7.out HN24.out HN34.out (.slice none 0 0) (.slice none 0 0)
    have hc4 := (blk_cell ho4 0).trans (rfl : _ = some (Value.int .i64 0))
    have hf4 := blk_frozen ho4 0
    clear hi hxk hK hD hL hbs seq2 ho3 ho4
    go_wp2_with fail
    have HI8 := HI7.out.put HN23.out HN24.out HN34.out (.slice none 0 0) (.slice none 0 0) (.int .i64 3)
    have hk8 := D_put (D_put (D_put HK.out HI7.out.c2 (.slice none 0 0)) (IR.o3 HI7.out HN23.out (.slice none 0 0)) (.slice none 0 0)) (IR.o4 HI7.out HN24.out HN34.out (.slice none 0 0) (.slice none 0 0)) (.int .i64 3)
    have hk9 := D_put (D_put (D_put HXB.out.at_ HI7.out.c2 (.slice none 0 0)) (IR.o3 HI7.out HN23.out (.slice none 0 0)) (.slice none 0 0)) (IR.o4 HI7.out HN24.out HN34.out (.slice none 0 0) (.slice none 0 0)) (.int .i64 3)
    have HI9 := HI8.putD hk8 HD.out (.deferred none)
    have hk10 := (World.putObj_heap_other (w := (((W.setCell ⟨C2, 0, none⟩ (.slice none 0 0)).setCell ⟨C3, 0, none⟩ (.slice none 0 0)).setCell ⟨C4, 0, none⟩ (.int .i64 3))) (r := D) (k := D1) (o := .deferred none) (by have := HDD.out; omega)).trans hk9
    have HI10 := HI9.putD hk10 HD1.out (.deferred none)
    refine ⟨by simp, .inl ⟨_, _, rfl, run_takeDeferred hk8, ?_⟩⟩
    refine ⟨by simp, .inl ⟨_, _, rfl, run_takeDeferred hk10, ?_⟩⟩
    exact ⟨_, res_cells3 rfl rfl rfl rfl HI10.c2 ((blk_cell HI10.c3 0).trans rfl) ((blk_cell HI10.c4 0).trans rfl), _, _, rfl, Kd.S_nil _ _ _ _ _, Kd.R_nil _ _ _ _ _, HI10.below⟩
   case stop2 =>
    rintro D c own pre W ⟨rfl, hxk, v2, A1, n1, c1, hi, hS, hR⟩ hbs hK hD
    have HI := am hi
    have HXB := am hxk
    have HK := am hK
    have HRV := am hR
    have HSV := am hS
    have HD := am (show w.heap.size ≤ D from Nat.le_trans HI6.out.below.size hD)
    have HDD := am (show D1 < D from Nat.lt_of_lt_of_le HDL.out hD)
    clear hi hxk hK hR hS seq2
    go_wp2_with fail
    have HI7 := HI.out.putD HK.out HD.out (.deferred none)
    have hk1 : (W.putObj D (.deferred none)).heap[D1]? = some (.deferred (some [])) := (World.putObj_heap_other (by have := HDD.out; omega)).trans HXB.out.at_
    have HI8 := HI7.putD hk1 HD1.out (.deferred none)
    refine ⟨by simp, .inl ⟨_, _, rfl, run_takeDeferred HK.out, ?_⟩⟩
    refine ⟨by simp, .inl ⟨_, _, rfl, run_takeDeferred hk1, ?_⟩⟩
    exact ⟨_, res_cells3 rfl rfl rfl rfl HI8.c2 ((blk_cell HI8.c3 0).trans rfl) ((blk_cell HI8.c4 0).trans rfl), _, _, rfl, S_putD (Kd.S_mono (S_putD HSV.out HK.out _) fun b hb => ⟨trivial, hb⟩) hk1 _, R_putD (R_putD HRV.out HK.out _) hk1 _, HI8.below⟩
   case round =>
    rintro l D own pre x vs W ⟨hi, hxk, rest, hL, hF⟩ ⟨rest2, hL2⟩ ⟨hob, Ax, cx, rfl, hcx, hCx⟩ ⟨r, hr⟩ ⟨dd, hd⟩ hl hD hnl hnD hbs
    obtain rfl : rest = x :: rest2 := List.append_cancel_left (hL.symm.trans hL2)
    obtain ⟨⟨q1, q2⟩, hq, hF2⟩ := Option.bind_eq_some_iff.1 hF
    have HQ := am hq
    have HF2 := am hF2
    have HP : Aside0 (L2 = pre ++ [x] ++ rest2) := ⟨by rw [hL2]; simp⟩
    have HCX := am hcx
    have HBS := am hbs
    have HLW := am (show w.heap.size ≤ l from Nat.le_trans HI6.out.below.size hl)
    have hlW := blk_ltS hr
    have n2l : C2 ≠ l := fun e => by subst e; rw [hi.c2] at hr; cases hr
    have n3l : C3 ≠ l := fun e => by subst e; rw [hi.c3] at hr; cases hr
    have n4l : C4 ≠ l := fun e => by subst e; rw [hi.c4] at hr; cases hr
    have n2D : C2 ≠ D := fun e => by subst e; rw [hi.c2] at hd; cases hd
    have n3D : C3 ≠ D := fun e => by subst e; rw [hi.c3] at hd; cases hd
    have n4D : C4 ≠ D := fun e => by subst e; rw [hi.c4] at hd; cases hd
    have K2 : Aside0 (¬ keepR w.heap.size own l D C2) := ⟨fun h => by rcases h with (h | h) | h | h; exact absurd hi.h2 (by omega); exact hi.n2 h; exact n2l h; exact n2D h⟩
    have K3 : Aside0 (¬ keepR w.heap.size own l D C3) := ⟨fun h => by rcases h with (h | h) | h | h; exact absurd hi.h3 (by omega); exact hi.n3 h; exact n3l h; exact n3D h⟩
    have K4 : Aside0 (¬ keepR w.heap.size own l D C4) := ⟨fun h => by rcases h with (h | h) | h | h; exact absurd hi.h4 (by omega); exact hi.n4 h; exact n4l h; exact n4D h⟩
    have HB1 : Aside0 (Below W.heap.size W (W.alloc (.cells #[.slice Ax x.length cx] 24))) := ⟨ba (Below.refl _ _) _⟩
    have HX1 := am (World.alloc_heap_new W (.cells #[.slice Ax x.length cx] 24))
    have HI1 := am (hi.next HB1.out)
    have HK1 := am (hxk.next HB1.out)
    have HC1 := am (Kd.C_below hCx HB1.out)
    have HOW : Aside0 (∀ b, own b → b < W.heap.size) := ⟨hob⟩
    have HNL : Aside0 (W.heap.size ≠ l) := ⟨by omega⟩
    clear hi hxk hbs hq hF2 hF hL hL2 hd hr n2l n3l n4l n2D n3D n4D hCx hcx hob hlW seq2
    rw [zip1]
    simp only [List.setIfInBounds_toArray, List.set_cons_succ, List.set_cons_zero]
    gi_wp2
    refine ⟨RoundKept.of_below HB1.out, ?_⟩
    rintro W2 r0 hr1 r1' rfl
    have HK2 := am (KeptL.putObj (own := own) (.loop r1') hr1 HLW.out)
    have HI2 := am (HI1.out.stable HK2.out HBS.out fun b hb => Or.inl hb)
    have HKK2 := am (HK1.out.putL hr1 (.loop r1'))
    have HC2 := am (C_rows_cells (cells_putLoop hr1 (.loop r1')) HC1.out)
    have HX2 : Aside0 (((W.alloc (.cells #[.slice Ax x.length cx] 24)).putObj l (.loop r1')).heap[W.heap.size]? = some (.cells #[.slice Ax x.length cx] 24 (0, 0))) := ⟨(World.putObj_heap_other HNL.out).trans HX1.out⟩
    have HOW2 : Aside0 (∀ b, own b → b < ((W.alloc (.cells #[.slice Ax x.length cx] 24)).putObj l (.loop r1')).heap.size) := ⟨fun b hb => by have := HOW.out b hb; simp; omega⟩
    clear HK2 HI1 HK1 HC1 HX1 hr1 HOW HB1
    generalize (W.alloc (.cells #[.slice Ax x.length cx] 24)).putObj l (.loop r1') = W2 at HI2 HKK2 HC2 HX2 HOW2 ⊢
    generalize W.heap.size = X at HX2 HNL ⊢
    have hcx2 : W2.cell? ⟨X, 0, none⟩ = some (.slice Ax x.length cx) := (blk_cell HX2.out 0).trans rfl
    by_cases dq : q2 = 0
    ·subst dq
     obtain ⟨cp, hcp, hF3⟩ := Option.bind_eq_some_iff.1 (show ((color_copied.f k x).bind fun c => some (c, q1, (0 : Int))) = some (r1, r2, r3) from by have h1 := HF2.out; simp only [if_true] at h1; exact h1)
     simp only [Option.some.injEq, Prod.mk.injEq] at hF3
     obtain ⟨rfl, rfl, rfl⟩ := hF3
     have HCP := am hcp
     have b1 : ((0 : Int) == 0) = true := rfl
     clear HF2 hcp
     gi_wp2_with (first  | (refine ⟨trivial, rfl, ?_⟩; refine (CallsIn.inRound l (callsIn_wide.2 (reset_Reset.calls _ _ _ _ _ _ _ HC2.out HCX.out HQ.out))).mono ?_; rintro e3 W3 ⟨v1, rfl, hv1, hb3⟩; obtain ⟨A1, c1, rfl⟩ := Kd.R_slice hv1; have HB3 := am hb3; have HI3 := am (HI2.out.next hb3); have HV3 := am hv1; have HC3 := am (Kd.C_below HC2.out hb3); have HX3 := am (blk_below HX2.out hb3); have hcx3 : W3.cell? ⟨X, 0, none⟩ = some (.slice Ax x.length cx) := (blk_cell HX3.out 0).trans rfl; clear hv1 hb3)  | (refine ⟨trivial, rfl, ?_⟩; refine (CallsIn.inRound l (callsIn_wide.2 (color_copied.calls _ _ _ _ _ _ HC3.out HCX.out HCP.out))).mono ?_; rintro e4 W4 ⟨v0, rfl, hv0, hb4⟩; obtain ⟨A0, c0, rfl⟩ := Kd.S_slice hv0; have HB4 := am (below_step HB3.out hb4); have HI4 := am (HI3.out.next hb4); have HKK4 := am (HKK2.out.next HB4.out); have HV4 := am (Kd.R_below HV3.out hb4); have HW4 := am hv0; have hc2 := (blk_cell HI4.out.c2 0).trans (rfl : _ = some (Value.slice none 0 0)); have hf2 := blk_frozen HI4.out.c2 0; have ho3 := IR.o3 HI4.out HN23.out (.slice A0 cp.length c0); have hc3 := (blk_cell ho3 0).trans (rfl : _ = some (Value.slice none 0 0)); have hf3 := blk_frozen ho3 0; have ho4 := IR.o4 HI4.out HN24.out HN34.out (.slice A0 cp.length c0) (.slice A1 q1.length c1); have hc4 := (blk_cell ho4 0).trans (rfl : _ = some (Value.int .i64 0)); have hf4 := blk_frozen ho4 0; clear hv0 hb4 ho3 ho4))
     have HI5 := HI4.out.put HN23.out HN24.out HN34.out (.slice A0 cp.length c0) (.slice A1 q1.length c1) (.int .i64 0)
     have hk2 := blk_ltS HI2.out.c2
     have hk3 := blk_ltS HI2.out.c3
     have hk4 := blk_ltS HI2.out.c4
     have HK5 := ((HKK4.out.set HI4.out.c2 (.slice A0 cp.length c0)).set (IR.o3 HI4.out HN23.out (.slice A0 cp.length c0)) (.slice A1 q1.length c1)).set (IR.o4 HI4.out HN24.out HN34.out (.slice A0 cp.length c0) (.slice A1 q1.length c1)) (.int .i64 0)
     refine ⟨(((RoundKept.of_below HB4.out).trans (RoundKept.set _ K2.out)).trans (RoundKept.set _ K3.out)).trans (RoundKept.set _ K4.out), rfl, HK5, _, _, _, _, HI5, ?_, ?_⟩
     ·have h3 := HB3.out.size
      refine Kd.S_mono (Kd.S_lower (S_put3 (Kd.S_bound HW4.out) HI4.out fun b hb => ?_) (Nat.le_trans HI2.out.below.size h3)) fun b hb => ⟨fun ho => ?_, fun he => ?_⟩
      ·have := hb.2.1
       exact ⟨by omega, by omega, by omega⟩
      ·have h1 := HOW2.out b ho
       have h2 := hb.2.1
       omega
      ·have h1 := ((Kd.R_bound HV3.out).1 b he.symm).2.2.1
       have h2 := hb.2.1
       omega
     ·refine Kd.R_mono (Kd.R_lower (R_put3 (Kd.R_bound HV4.out) HI4.out fun b hb => ?_) HI2.out.below.size) fun b hb ho => ?_
      ·have := hb.2.1
       exact ⟨by omega, by omega, by omega⟩
      ·have h1 := HOW2.out b ho
       have h2 := hb.2.1
       omega
    ·have hh := HF2.out
     simp only [if_neg dq] at hh
     have HF3 := am hh
     have b1 : (q2 == 0) = false := by simp [dq]
     clear HF2 hh dq
     gi_wp2_with (refine ⟨trivial, rfl, ?_⟩; refine (CallsIn.inRound l (callsIn_wide.2 (reset_Reset.calls _ _ _ _ _ _ _ HC2.out HCX.out HQ.out))).mono ?_; rintro e3 W3 ⟨v1, rfl, hv1, hb3⟩; obtain ⟨A1, c1, rfl⟩ := Kd.R_slice hv1; have HB3 := am hb3; have HI3 := am (HI2.out.next hb3); have HKK3 := am (HKK2.out.next hb3); clear hv1 hb3)
     exact ⟨RoundKept.of_below HB3.out, HI3.out, HKK3.out, rest2, HP.out, HF3.out⟩
end Go.Proofs.Ytjgdalhdiohclaa.Q
end
section
namespace Go.Proofs.Ytjgdalhdiohclaa.Q
attribute [local go_sem] max2_int min2_int max_two min_two max_three min_three max_four min_four
def mizmazelaw05_awake.f (k : Nat)  : Option (Bool) := (some (([(([1, 0] : List Int)), (([0, 1] : List Int))] : List (List Int)) : List (List Int))).bind fun y441 => ((color_Colorings.f k y441).bind fun bt445 => ((color_Colored.f k y441 (([(([0, 1] : List Int)), (([1, 0] : List Int))] : List (List Int)))).bind fun bt456 => ((color_Same.f k y441 bt456.1).bind fun bt461 => ((color_Road.f k y441).bind fun bt463 => ((color_Road.f k (([(([1, 1] : List Int)), (([2, 2] : List Int)), (([0, 0] : List Int))] : List (List Int)))).bind fun bt483 => (if bt445.2 = 0 then (if bt445.1 = 4 then (if bt456.2 = 0 then ((mizmazeref01_Sames.f k bt456.1 (([(([1, 0] : List Int)), (([1, 0] : List Int))] : List (List Int)))).bind fun t500 => (if t500 = true then (if bt461.2 = 0 then (if bt461.1 = true then (if bt463.2.2 = 0 then ((mizmazeref01_Valid.f k bt463.1).bind fun t501 => (if t501 = true then ((mizmazeref03_Resets.f k bt463.1 bt463.2.1).bind fun t502 => (if t502 = true then (some (bt483.2.2 == 4)) else (none))) else (none))) else (none)) else (none)) else (none)) else (none))) else (none)) else (none)) else (none)))))))
theorem mizmazelaw05_awake.mono : ∀ k, LeO (mizmazelaw05_awake.f k ) (mizmazelaw05_awake.f (k + 1) ) := by
 intro  k
 unfold mizmazelaw05_awake.f
 with_reducible repeat' first | exact color_Colored.mono _ _ _ | exact color_Colorings.mono _ _ | exact color_Road.mono _ _ | exact color_Same.mono _ _ _ | exact mizmazeref01_Sames.mono _ _ _ | exact mizmazeref01_Valid.mono _ _ | exact mizmazeref03_Resets.mono _ _ _ | exact LeO.refl _ | exact LeO.none _ | refine LeO.ite ?_ ?_ | refine LeO.bind ?_ (fun _ => ?_)
theorem mizmazelaw05_awake.calls (k : Nat)  (r : Bool) (w : World) (h : mizmazelaw05_awake.f k  = some r) :
    Calls Try.prog 45 #[] w fun e w' => e = .returned (.bool r) ∧ Below w.heap.size w w' := by
 have hu24 := Try.underlying24
 have HB := am (Below.refl w.heap.size w)
 have H : ((some (([(([1, 0] : List Int)), (([0, 1] : List Int))] : List (List Int)) : List (List Int))).bind fun y441 => ((color_Colorings.f k y441).bind fun bt445 => ((color_Colored.f k y441 (([(([0, 1] : List Int)), (([1, 0] : List Int))] : List (List Int)))).bind fun bt456 => ((color_Same.f k y441 bt456.1).bind fun bt461 => ((color_Road.f k y441).bind fun bt463 => ((color_Road.f k (([(([1, 1] : List Int)), (([2, 2] : List Int)), (([0, 0] : List Int))] : List (List Int)))).bind fun bt483 => (if bt445.2 = 0 then (if bt445.1 = 4 then (if bt456.2 = 0 then ((mizmazeref01_Sames.f k bt456.1 (([(([1, 0] : List Int)), (([1, 0] : List Int))] : List (List Int)))).bind fun t500 => (if t500 = true then (if bt461.2 = 0 then (if bt461.1 = true then (if bt463.2.2 = 0 then ((mizmazeref01_Valid.f k bt463.1).bind fun t501 => (if t501 = true then ((mizmazeref03_Resets.f k bt463.1 bt463.2.1).bind fun t502 => (if t502 = true then (some (bt483.2.2 == 4)) else (none))) else (none))) else (none)) else (none)) else (none)) else (none))) else (none)) else (none)) else (none)))))))) = some r := h
 clear h
 obtain ⟨y435, hy435⟩ : ∃ y_ : List Int, y_ = (([1, 0] : List Int)) := ⟨_, rfl⟩
 replace H : ((some (([y435, (([0, 1] : List Int))] : List (List Int)) : List (List Int))).bind fun y441 => ((color_Colorings.f k y441).bind fun bt445 => ((color_Colored.f k y441 (([(([0, 1] : List Int)), (([1, 0] : List Int))] : List (List Int)))).bind fun bt456 => ((color_Same.f k y441 bt456.1).bind fun bt461 => ((color_Road.f k y441).bind fun bt463 => ((color_Road.f k (([(([1, 1] : List Int)), (([2, 2] : List Int)), (([0, 0] : List Int))] : List (List Int)))).bind fun bt483 => (if bt445.2 = 0 then (if bt445.1 = 4 then (if bt456.2 = 0 then ((mizmazeref01_Sames.f k bt456.1 (([(([1, 0] : List Int)), (([1, 0] : List Int))] : List (List Int)))).bind fun t500 => (if t500 = true then (if bt461.2 = 0 then (if bt461.1 = true then (if bt463.2.2 = 0 then ((mizmazeref01_Valid.f k bt463.1).bind fun t501 => (if t501 = true then ((mizmazeref03_Resets.f k bt463.1 bt463.2.1).bind fun t502 => (if t502 = true then (some (bt483.2.2 == 4)) else (none))) else (none))) else (none)) else (none)) else (none)) else (none))) else (none)) else (none)) else (none)))))))) = some r := by first | (rw [hy435]; with_reducible exact H) | (have H2_ := (Option.bind_some _ _).symm.trans H; rw [hy435]; with_reducible exact H2_) | (have H2_ := (Option.bind_some _ _).symm.trans H; with_reducible exact H2_) | with_reducible exact H | (rw [hy435]; exact H) | exact H
 have Ny435 := am hy435
 clear hy435
 obtain ⟨y438, hy438⟩ : ∃ y_ : List Int, y_ = (([0, 1] : List Int)) := ⟨_, rfl⟩
 replace H : ((some (([y435, y438] : List (List Int)) : List (List Int))).bind fun y441 => ((color_Colorings.f k y441).bind fun bt445 => ((color_Colored.f k y441 (([(([0, 1] : List Int)), (([1, 0] : List Int))] : List (List Int)))).bind fun bt456 => ((color_Same.f k y441 bt456.1).bind fun bt461 => ((color_Road.f k y441).bind fun bt463 => ((color_Road.f k (([(([1, 1] : List Int)), (([2, 2] : List Int)), (([0, 0] : List Int))] : List (List Int)))).bind fun bt483 => (if bt445.2 = 0 then (if bt445.1 = 4 then (if bt456.2 = 0 then ((mizmazeref01_Sames.f k bt456.1 (([(([1, 0] : List Int)), (([1, 0] : List Int))] : List (List Int)))).bind fun t500 => (if t500 = true then (if bt461.2 = 0 then (if bt461.1 = true then (if bt463.2.2 = 0 then ((mizmazeref01_Valid.f k bt463.1).bind fun t501 => (if t501 = true then ((mizmazeref03_Resets.f k bt463.1 bt463.2.1).bind fun t502 => (if t502 = true then (some (bt483.2.2 == 4)) else (none))) else (none))) else (none)) else (none)) else (none)) else (none))) else (none)) else (none)) else (none)))))))) = some r := by first | (rw [hy438]; with_reducible exact H) | (have H2_ := (Option.bind_some _ _).symm.trans H; rw [hy438]; with_reducible exact H2_) | (have H2_ := (Option.bind_some _ _).symm.trans H; with_reducible exact H2_) | with_reducible exact H | (rw [hy438]; exact H) | exact H
 have Ny438 := am hy438
 clear hy438
 obtain ⟨y441, hy441⟩ : ∃ y_ : List (List Int), y_ = (([y435, y438] : List (List Int))) := ⟨_, rfl⟩
 replace H : ((color_Colorings.f k y441).bind fun bt445 => ((color_Colored.f k y441 (([(([0, 1] : List Int)), (([1, 0] : List Int))] : List (List Int)))).bind fun bt456 => ((color_Same.f k y441 bt456.1).bind fun bt461 => ((color_Road.f k y441).bind fun bt463 => ((color_Road.f k (([(([1, 1] : List Int)), (([2, 2] : List Int)), (([0, 0] : List Int))] : List (List Int)))).bind fun bt483 => (if bt445.2 = 0 then (if bt445.1 = 4 then (if bt456.2 = 0 then ((mizmazeref01_Sames.f k bt456.1 (([(([1, 0] : List Int)), (([1, 0] : List Int))] : List (List Int)))).bind fun t500 => (if t500 = true then (if bt461.2 = 0 then (if bt461.1 = true then (if bt463.2.2 = 0 then ((mizmazeref01_Valid.f k bt463.1).bind fun t501 => (if t501 = true then ((mizmazeref03_Resets.f k bt463.1 bt463.2.1).bind fun t502 => (if t502 = true then (some (bt483.2.2 == 4)) else (none))) else (none))) else (none)) else (none)) else (none)) else (none))) else (none)) else (none)) else (none))))))) = some r := by first | (rw [hy441]; with_reducible exact H) | (have H2_ := (Option.bind_some _ _).symm.trans H; rw [hy441]; with_reducible exact H2_) | (have H2_ := (Option.bind_some _ _).symm.trans H; with_reducible exact H2_) | with_reducible exact H | (rw [hy441]; exact H) | exact H
 have Ny441 := am hy441
 clear hy441
 replace H := Option.bind_eq_some_iff.mp H
 obtain ⟨⟨t445, t446⟩, A10, H⟩ := H
 replace H : ((color_Colored.f k y441 (([(([0, 1] : List Int)), (([1, 0] : List Int))] : List (List Int)))).bind fun bt456 => ((color_Same.f k y441 bt456.1).bind fun bt461 => ((color_Road.f k y441).bind fun bt463 => ((color_Road.f k (([(([1, 1] : List Int)), (([2, 2] : List Int)), (([0, 0] : List Int))] : List (List Int)))).bind fun bt483 => (if t446 = 0 then (if t445 = 4 then (if bt456.2 = 0 then ((mizmazeref01_Sames.f k bt456.1 (([(([1, 0] : List Int)), (([1, 0] : List Int))] : List (List Int)))).bind fun t500 => (if t500 = true then (if bt461.2 = 0 then (if bt461.1 = true then (if bt463.2.2 = 0 then ((mizmazeref01_Valid.f k bt463.1).bind fun t501 => (if t501 = true then ((mizmazeref03_Resets.f k bt463.1 bt463.2.1).bind fun t502 => (if t502 = true then (some (bt483.2.2 == 4)) else (none))) else (none))) else (none)) else (none)) else (none)) else (none))) else (none)) else (none)) else (none)))))) = some r := H
 have A1 := am A10
 clear A10
 obtain ⟨y447, hy447⟩ : ∃ y_ : List Int, y_ = (([0, 1] : List Int)) := ⟨_, rfl⟩
 replace H : ((color_Colored.f k y441 (([y447, (([1, 0] : List Int))] : List (List Int)))).bind fun bt456 => ((color_Same.f k y441 bt456.1).bind fun bt461 => ((color_Road.f k y441).bind fun bt463 => ((color_Road.f k (([(([1, 1] : List Int)), (([2, 2] : List Int)), (([0, 0] : List Int))] : List (List Int)))).bind fun bt483 => (if t446 = 0 then (if t445 = 4 then (if bt456.2 = 0 then ((mizmazeref01_Sames.f k bt456.1 (([(([1, 0] : List Int)), (([1, 0] : List Int))] : List (List Int)))).bind fun t500 => (if t500 = true then (if bt461.2 = 0 then (if bt461.1 = true then (if bt463.2.2 = 0 then ((mizmazeref01_Valid.f k bt463.1).bind fun t501 => (if t501 = true then ((mizmazeref03_Resets.f k bt463.1 bt463.2.1).bind fun t502 => (if t502 = true then (some (bt483.2.2 == 4)) else (none))) else (none))) else (none)) else (none)) else (none)) else (none))) else (none)) else (none)) else (none)))))) = some r := by first | (rw [hy447]; with_reducible exact H) | (have H2_ := (Option.bind_some _ _).symm.trans H; rw [hy447]; with_reducible exact H2_) | (have H2_ := (Option.bind_some _ _).symm.trans H; with_reducible exact H2_) | with_reducible exact H | (rw [hy447]; exact H) | exact H
 have Ny447 := am hy447
 clear hy447
 obtain ⟨y450, hy450⟩ : ∃ y_ : List Int, y_ = (([1, 0] : List Int)) := ⟨_, rfl⟩
 replace H : ((color_Colored.f k y441 (([y447, y450] : List (List Int)))).bind fun bt456 => ((color_Same.f k y441 bt456.1).bind fun bt461 => ((color_Road.f k y441).bind fun bt463 => ((color_Road.f k (([(([1, 1] : List Int)), (([2, 2] : List Int)), (([0, 0] : List Int))] : List (List Int)))).bind fun bt483 => (if t446 = 0 then (if t445 = 4 then (if bt456.2 = 0 then ((mizmazeref01_Sames.f k bt456.1 (([(([1, 0] : List Int)), (([1, 0] : List Int))] : List (List Int)))).bind fun t500 => (if t500 = true then (if bt461.2 = 0 then (if bt461.1 = true then (if bt463.2.2 = 0 then ((mizmazeref01_Valid.f k bt463.1).bind fun t501 => (if t501 = true then ((mizmazeref03_Resets.f k bt463.1 bt463.2.1).bind fun t502 => (if t502 = true then (some (bt483.2.2 == 4)) else (none))) else (none))) else (none)) else (none)) else (none)) else (none))) else (none)) else (none)) else (none)))))) = some r := by first | (rw [hy450]; with_reducible exact H) | (have H2_ := (Option.bind_some _ _).symm.trans H; rw [hy450]; with_reducible exact H2_) | (have H2_ := (Option.bind_some _ _).symm.trans H; with_reducible exact H2_) | with_reducible exact H | (rw [hy450]; exact H) | exact H
 have Ny450 := am hy450
 clear hy450
 obtain ⟨y453, hy453⟩ : ∃ y_ : List (List Int), y_ = (([y447, y450] : List (List Int))) := ⟨_, rfl⟩
 replace H : ((color_Colored.f k y441 y453).bind fun bt456 => ((color_Same.f k y441 bt456.1).bind fun bt461 => ((color_Road.f k y441).bind fun bt463 => ((color_Road.f k (([(([1, 1] : List Int)), (([2, 2] : List Int)), (([0, 0] : List Int))] : List (List Int)))).bind fun bt483 => (if t446 = 0 then (if t445 = 4 then (if bt456.2 = 0 then ((mizmazeref01_Sames.f k bt456.1 (([(([1, 0] : List Int)), (([1, 0] : List Int))] : List (List Int)))).bind fun t500 => (if t500 = true then (if bt461.2 = 0 then (if bt461.1 = true then (if bt463.2.2 = 0 then ((mizmazeref01_Valid.f k bt463.1).bind fun t501 => (if t501 = true then ((mizmazeref03_Resets.f k bt463.1 bt463.2.1).bind fun t502 => (if t502 = true then (some (bt483.2.2 == 4)) else (none))) else (none))) else (none)) else (none)) else (none)) else (none))) else (none)) else (none)) else (none)))))) = some r := by first | (rw [hy453]; with_reducible exact H) | (have H2_ := (Option.bind_some _ _).symm.trans H; rw [hy453]; with_reducible exact H2_) | (have H2_ := (Option.bind_some _ _).symm.trans H; with_reducible exact H2_) | with_reducible exact H | (rw [hy453]; exact H) | exact H
 have Ny453 := am hy453
 clear hy453
 replace H := Option.bind_eq_some_iff.mp H
 obtain ⟨⟨t456, t459⟩, A20, H⟩ := H
 replace H : ((color_Same.f k y441 t456).bind fun bt461 => ((color_Road.f k y441).bind fun bt463 => ((color_Road.f k (([(([1, 1] : List Int)), (([2, 2] : List Int)), (([0, 0] : List Int))] : List (List Int)))).bind fun bt483 => (if t446 = 0 then (if t445 = 4 then (if t459 = 0 then ((mizmazeref01_Sames.f k t456 (([(([1, 0] : List Int)), (([1, 0] : List Int))] : List (List Int)))).bind fun t500 => (if t500 = true then (if bt461.2 = 0 then (if bt461.1 = true then (if bt463.2.2 = 0 then ((mizmazeref01_Valid.f k bt463.1).bind fun t501 => (if t501 = true then ((mizmazeref03_Resets.f k bt463.1 bt463.2.1).bind fun t502 => (if t502 = true then (some (bt483.2.2 == 4)) else (none))) else (none))) else (none)) else (none)) else (none)) else (none))) else (none)) else (none)) else (none))))) = some r := H
 have A2 := am A20
 clear A20
 replace H := Option.bind_eq_some_iff.mp H
 obtain ⟨⟨t461, t462⟩, A30, H⟩ := H
 replace H : ((color_Road.f k y441).bind fun bt463 => ((color_Road.f k (([(([1, 1] : List Int)), (([2, 2] : List Int)), (([0, 0] : List Int))] : List (List Int)))).bind fun bt483 => (if t446 = 0 then (if t445 = 4 then (if t459 = 0 then ((mizmazeref01_Sames.f k t456 (([(([1, 0] : List Int)), (([1, 0] : List Int))] : List (List Int)))).bind fun t500 => (if t500 = true then (if t462 = 0 then (if t461 = true then (if bt463.2.2 = 0 then ((mizmazeref01_Valid.f k bt463.1).bind fun t501 => (if t501 = true then ((mizmazeref03_Resets.f k bt463.1 bt463.2.1).bind fun t502 => (if t502 = true then (some (bt483.2.2 == 4)) else (none))) else (none))) else (none)) else (none)) else (none)) else (none))) else (none)) else (none)) else (none)))) = some r := H
 have A3 := am A30
 clear A30
 replace H := Option.bind_eq_some_iff.mp H
 obtain ⟨⟨t463, t466, t469⟩, A40, H⟩ := H
 replace H : ((color_Road.f k (([(([1, 1] : List Int)), (([2, 2] : List Int)), (([0, 0] : List Int))] : List (List Int)))).bind fun bt483 => (if t446 = 0 then (if t445 = 4 then (if t459 = 0 then ((mizmazeref01_Sames.f k t456 (([(([1, 0] : List Int)), (([1, 0] : List Int))] : List (List Int)))).bind fun t500 => (if t500 = true then (if t462 = 0 then (if t461 = true then (if t469 = 0 then ((mizmazeref01_Valid.f k t463).bind fun t501 => (if t501 = true then ((mizmazeref03_Resets.f k t463 t466).bind fun t502 => (if t502 = true then (some (bt483.2.2 == 4)) else (none))) else (none))) else (none)) else (none)) else (none)) else (none))) else (none)) else (none)) else (none))) = some r := H
 have A4 := am A40
 clear A40
 obtain ⟨y471, hy471⟩ : ∃ y_ : List Int, y_ = (([1, 1] : List Int)) := ⟨_, rfl⟩
 replace H : ((color_Road.f k (([y471, (([2, 2] : List Int)), (([0, 0] : List Int))] : List (List Int)))).bind fun bt483 => (if t446 = 0 then (if t445 = 4 then (if t459 = 0 then ((mizmazeref01_Sames.f k t456 (([(([1, 0] : List Int)), (([1, 0] : List Int))] : List (List Int)))).bind fun t500 => (if t500 = true then (if t462 = 0 then (if t461 = true then (if t469 = 0 then ((mizmazeref01_Valid.f k t463).bind fun t501 => (if t501 = true then ((mizmazeref03_Resets.f k t463 t466).bind fun t502 => (if t502 = true then (some (bt483.2.2 == 4)) else (none))) else (none))) else (none)) else (none)) else (none)) else (none))) else (none)) else (none)) else (none))) = some r := by first | (rw [hy471]; with_reducible exact H) | (have H2_ := (Option.bind_some _ _).symm.trans H; rw [hy471]; with_reducible exact H2_) | (have H2_ := (Option.bind_some _ _).symm.trans H; with_reducible exact H2_) | with_reducible exact H | (rw [hy471]; exact H) | exact H
 have Ny471 := am hy471
 clear hy471
 obtain ⟨y474, hy474⟩ : ∃ y_ : List Int, y_ = (([2, 2] : List Int)) := ⟨_, rfl⟩
 replace H : ((color_Road.f k (([y471, y474, (([0, 0] : List Int))] : List (List Int)))).bind fun bt483 => (if t446 = 0 then (if t445 = 4 then (if t459 = 0 then ((mizmazeref01_Sames.f k t456 (([(([1, 0] : List Int)), (([1, 0] : List Int))] : List (List Int)))).bind fun t500 => (if t500 = true then (if t462 = 0 then (if t461 = true then (if t469 = 0 then ((mizmazeref01_Valid.f k t463).bind fun t501 => (if t501 = true then ((mizmazeref03_Resets.f k t463 t466).bind fun t502 => (if t502 = true then (some (bt483.2.2 == 4)) else (none))) else (none))) else (none)) else (none)) else (none)) else (none))) else (none)) else (none)) else (none))) = some r := by first | (rw [hy474]; with_reducible exact H) | (have H2_ := (Option.bind_some _ _).symm.trans H; rw [hy474]; with_reducible exact H2_) | (have H2_ := (Option.bind_some _ _).symm.trans H; with_reducible exact H2_) | with_reducible exact H | (rw [hy474]; exact H) | exact H
 have Ny474 := am hy474
 clear hy474
 obtain ⟨y477, hy477⟩ : ∃ y_ : List Int, y_ = (([0, 0] : List Int)) := ⟨_, rfl⟩
 replace H : ((color_Road.f k (([y471, y474, y477] : List (List Int)))).bind fun bt483 => (if t446 = 0 then (if t445 = 4 then (if t459 = 0 then ((mizmazeref01_Sames.f k t456 (([(([1, 0] : List Int)), (([1, 0] : List Int))] : List (List Int)))).bind fun t500 => (if t500 = true then (if t462 = 0 then (if t461 = true then (if t469 = 0 then ((mizmazeref01_Valid.f k t463).bind fun t501 => (if t501 = true then ((mizmazeref03_Resets.f k t463 t466).bind fun t502 => (if t502 = true then (some (bt483.2.2 == 4)) else (none))) else (none))) else (none)) else (none)) else (none)) else (none))) else (none)) else (none)) else (none))) = some r := by first | (rw [hy477]; with_reducible exact H) | (have H2_ := (Option.bind_some _ _).symm.trans H; rw [hy477]; with_reducible exact H2_) | (have H2_ := (Option.bind_some _ _).symm.trans H; with_reducible exact H2_) | with_reducible exact H | (rw [hy477]; exact H) | exact H
 have Ny477 := am hy477
 clear hy477
 obtain ⟨y480, hy480⟩ : ∃ y_ : List (List Int), y_ = (([y471, y474, y477] : List (List Int))) := ⟨_, rfl⟩
 replace H : ((color_Road.f k y480).bind fun bt483 => (if t446 = 0 then (if t445 = 4 then (if t459 = 0 then ((mizmazeref01_Sames.f k t456 (([(([1, 0] : List Int)), (([1, 0] : List Int))] : List (List Int)))).bind fun t500 => (if t500 = true then (if t462 = 0 then (if t461 = true then (if t469 = 0 then ((mizmazeref01_Valid.f k t463).bind fun t501 => (if t501 = true then ((mizmazeref03_Resets.f k t463 t466).bind fun t502 => (if t502 = true then (some (bt483.2.2 == 4)) else (none))) else (none))) else (none)) else (none)) else (none)) else (none))) else (none)) else (none)) else (none))) = some r := by first | (rw [hy480]; with_reducible exact H) | (have H2_ := (Option.bind_some _ _).symm.trans H; rw [hy480]; with_reducible exact H2_) | (have H2_ := (Option.bind_some _ _).symm.trans H; with_reducible exact H2_) | with_reducible exact H | (rw [hy480]; exact H) | exact H
 have Ny480 := am hy480
 clear hy480
 replace H := Option.bind_eq_some_iff.mp H
 obtain ⟨⟨t483, t486, t489⟩, A50, H⟩ := H
 replace H : (if t446 = 0 then (if t445 = 4 then (if t459 = 0 then ((mizmazeref01_Sames.f k t456 (([(([1, 0] : List Int)), (([1, 0] : List Int))] : List (List Int)))).bind fun t500 => (if t500 = true then (if t462 = 0 then (if t461 = true then (if t469 = 0 then ((mizmazeref01_Valid.f k t463).bind fun t501 => (if t501 = true then ((mizmazeref03_Resets.f k t463 t466).bind fun t502 => (if t502 = true then (some (t489 == 4)) else (none))) else (none))) else (none)) else (none)) else (none)) else (none))) else (none)) else (none)) else (none)) = some r := H
 have A5 := am A50
 clear A50
 by_cases c6 : t446 = 0
 rotate_left
 ·rw [if_neg c6] at H
  exact absurd H (by simp)
 rw [if_pos c6] at H
 have c6b0 : (t446 == 0) = true := beq_iff_eq.mpr c6
 have c6b1 : (t446 != 0) = false := bne_eq_false_iff_eq.mpr c6
 clear c6
 by_cases c7 : t445 = 4
 rotate_left
 ·rw [if_neg c7] at H
  exact absurd H (by simp)
 rw [if_pos c7] at H
 have c7b0 : (t445 == 4) = true := beq_iff_eq.mpr c7
 have c7b1 : (t445 != 4) = false := bne_eq_false_iff_eq.mpr c7
 clear c7
 by_cases c8 : t459 = 0
 rotate_left
 ·rw [if_neg c8] at H
  exact absurd H (by simp)
 rw [if_pos c8] at H
 have c8b0 : (t459 == 0) = true := beq_iff_eq.mpr c8
 have c8b1 : (t459 != 0) = false := bne_eq_false_iff_eq.mpr c8
 clear c8
 obtain ⟨y491, hy491⟩ : ∃ y_ : List Int, y_ = (([1, 0] : List Int)) := ⟨_, rfl⟩
 replace H : ((mizmazeref01_Sames.f k t456 (([y491, (([1, 0] : List Int))] : List (List Int)))).bind fun t500 => (if t500 = true then (if t462 = 0 then (if t461 = true then (if t469 = 0 then ((mizmazeref01_Valid.f k t463).bind fun t501 => (if t501 = true then ((mizmazeref03_Resets.f k t463 t466).bind fun t502 => (if t502 = true then (some (t489 == 4)) else (none))) else (none))) else (none)) else (none)) else (none)) else (none))) = some r := by first | (rw [hy491]; with_reducible exact H) | (have H2_ := (Option.bind_some _ _).symm.trans H; rw [hy491]; with_reducible exact H2_) | (have H2_ := (Option.bind_some _ _).symm.trans H; with_reducible exact H2_) | with_reducible exact H | (rw [hy491]; exact H) | exact H
 have Ny491 := am hy491
 clear hy491
 obtain ⟨y494, hy494⟩ : ∃ y_ : List Int, y_ = (([1, 0] : List Int)) := ⟨_, rfl⟩
 replace H : ((mizmazeref01_Sames.f k t456 (([y491, y494] : List (List Int)))).bind fun t500 => (if t500 = true then (if t462 = 0 then (if t461 = true then (if t469 = 0 then ((mizmazeref01_Valid.f k t463).bind fun t501 => (if t501 = true then ((mizmazeref03_Resets.f k t463 t466).bind fun t502 => (if t502 = true then (some (t489 == 4)) else (none))) else (none))) else (none)) else (none)) else (none)) else (none))) = some r := by first | (rw [hy494]; with_reducible exact H) | (have H2_ := (Option.bind_some _ _).symm.trans H; rw [hy494]; with_reducible exact H2_) | (have H2_ := (Option.bind_some _ _).symm.trans H; with_reducible exact H2_) | with_reducible exact H | (rw [hy494]; exact H) | exact H
 have Ny494 := am hy494
 clear hy494
 obtain ⟨y497, hy497⟩ : ∃ y_ : List (List Int), y_ = (([y491, y494] : List (List Int))) := ⟨_, rfl⟩
 replace H : ((mizmazeref01_Sames.f k t456 y497).bind fun t500 => (if t500 = true then (if t462 = 0 then (if t461 = true then (if t469 = 0 then ((mizmazeref01_Valid.f k t463).bind fun t501 => (if t501 = true then ((mizmazeref03_Resets.f k t463 t466).bind fun t502 => (if t502 = true then (some (t489 == 4)) else (none))) else (none))) else (none)) else (none)) else (none)) else (none))) = some r := by first | (rw [hy497]; with_reducible exact H) | (have H2_ := (Option.bind_some _ _).symm.trans H; rw [hy497]; with_reducible exact H2_) | (have H2_ := (Option.bind_some _ _).symm.trans H; with_reducible exact H2_) | with_reducible exact H | (rw [hy497]; exact H) | exact H
 have Ny497 := am hy497
 clear hy497
 replace H := Option.bind_eq_some_iff.mp H
 obtain ⟨t500, A90, H⟩ := H
 replace H : (if t500 = true then (if t462 = 0 then (if t461 = true then (if t469 = 0 then ((mizmazeref01_Valid.f k t463).bind fun t501 => (if t501 = true then ((mizmazeref03_Resets.f k t463 t466).bind fun t502 => (if t502 = true then (some (t489 == 4)) else (none))) else (none))) else (none)) else (none)) else (none)) else (none)) = some r := H
 have A9 := am A90
 clear A90
 by_cases c10 : t500 = true
 rotate_left
 ·replace c10 := Bool.eq_false_iff.mpr c10
  subst c10
  have H1 : (none) = some r := by rw [if_neg (show ¬ (false = true) by decide)] at H; exact H
  clear H
  have H := H1
  clear H1
  exact absurd H (by simp)
 subst c10
 have H1 : (if t462 = 0 then (if t461 = true then (if t469 = 0 then ((mizmazeref01_Valid.f k t463).bind fun t501 => (if t501 = true then ((mizmazeref03_Resets.f k t463 t466).bind fun t502 => (if t502 = true then (some (t489 == 4)) else (none))) else (none))) else (none)) else (none)) else (none)) = some r := by rw [if_pos rfl] at H; exact H
 clear H
 have H := H1
 clear H1
 by_cases c11 : t462 = 0
 rotate_left
 ·rw [if_neg c11] at H
  exact absurd H (by simp)
 rw [if_pos c11] at H
 have c11b0 : (t462 == 0) = true := beq_iff_eq.mpr c11
 have c11b1 : (t462 != 0) = false := bne_eq_false_iff_eq.mpr c11
 clear c11
 by_cases c12 : t461 = true
 rotate_left
 ·replace c12 := Bool.eq_false_iff.mpr c12
  subst c12
  have H1 : (none) = some r := by rw [if_neg (show ¬ (false = true) by decide)] at H; exact H
  clear H
  have H := H1
  clear H1
  exact absurd H (by simp)
 subst c12
 have H1 : (if t469 = 0 then ((mizmazeref01_Valid.f k t463).bind fun t501 => (if t501 = true then ((mizmazeref03_Resets.f k t463 t466).bind fun t502 => (if t502 = true then (some (t489 == 4)) else (none))) else (none))) else (none)) = some r := by rw [if_pos rfl] at H; exact H
 clear H
 have H := H1
 clear H1
 by_cases c13 : t469 = 0
 rotate_left
 ·rw [if_neg c13] at H
  exact absurd H (by simp)
 rw [if_pos c13] at H
 have c13b0 : (t469 == 0) = true := beq_iff_eq.mpr c13
 have c13b1 : (t469 != 0) = false := bne_eq_false_iff_eq.mpr c13
 clear c13
 replace H := Option.bind_eq_some_iff.mp H
 obtain ⟨t501, A140, H⟩ := H
 replace H : (if t501 = true then ((mizmazeref03_Resets.f k t463 t466).bind fun t502 => (if t502 = true then (some (t489 == 4)) else (none))) else (none)) = some r := H
 have A14 := am A140
 clear A140
 by_cases c15 : t501 = true
 rotate_left
 ·replace c15 := Bool.eq_false_iff.mpr c15
  subst c15
  have H1 : (none) = some r := by rw [if_neg (show ¬ (false = true) by decide)] at H; exact H
  clear H
  have H := H1
  clear H1
  exact absurd H (by simp)
 subst c15
 have H1 : ((mizmazeref03_Resets.f k t463 t466).bind fun t502 => (if t502 = true then (some (t489 == 4)) else (none))) = some r := by rw [if_pos rfl] at H; exact H
 clear H
 have H := H1
 clear H1
 replace H := Option.bind_eq_some_iff.mp H
 obtain ⟨t502, A160, H⟩ := H
 replace H : (if t502 = true then (some (t489 == 4)) else (none)) = some r := H
 have A16 := am A160
 clear A160
 by_cases c17 : t502 = true
 rotate_left
 ·replace c17 := Bool.eq_false_iff.mpr c17
  subst c17
  have H1 : (none) = some r := by rw [if_neg (show ¬ (false = true) by decide)] at H; exact H
  clear H
  have H := H1
  clear H1
  exact absurd H (by simp)
 subst c17
 have H1 : (some (t489 == 4)) = some r := by rw [if_pos rfl] at H; exact H
 clear H
 have H := H1
 clear H1
 obtain rfl := Option.some.inj H
 go_enter Try.func45, Try.ntmps45
 go_wp2_with (first | ((with_reducible refine gate_dst (N := 14) rfl ?_); (try (refine gate_guard (by rfl) ?_; dsimp only)); refine Kd.R_lit (Kd.int .i64) _ 3 zz5 (N := 14) zz5 (xs := ([1, 0] : List Int)) (inner := [.int .i64 1, .int .i64 0]) (ok := fun _ => True) (okp := fun _ => True) zz6 ?hp (fun _ hk => hk) trivial (Below.refl _ _) (Nat.le_refl _) (by simp) ?_; (case hp => exact (Reps.one (show Kd.M (Kd.int .i64) _ _ _ 1 [.int .i64 1] from rfl) (Reps.one (show Kd.M (Kd.int .i64) _ _ _ 0 [.int .i64 0] from rfl) (Reps.none _ _)))); intro v436 w18 ho19 hb hg_ hnew_; clear hg_ hnew_; (first | rw [← Ny435.out] at ho19 | (simp only [Int.reduceToNat] at ho19; rw [← Ny435.out] at ho19)); have HO437 := am (Kd.R_lower ho19 (below_size (bw HB.out))); replace HB := am (below_step (bw HB.out) hb); clear hb ho19) | ((with_reducible refine gate_dst (N := 15) rfl ?_); (try (refine gate_guard (by rfl) ?_; dsimp only)); refine Kd.R_lit (Kd.int .i64) _ 3 zz5 (N := 15) zz5 (xs := ([0, 1] : List Int)) (inner := [.int .i64 0, .int .i64 1]) (ok := fun _ => True) (okp := fun _ => True) zz6 ?hp (fun _ hk => hk) trivial (Below.refl _ _) (Nat.le_refl _) (by simp) ?_; (case hp => exact (Reps.one (show Kd.M (Kd.int .i64) _ _ _ 0 [.int .i64 0] from rfl) (Reps.one (show Kd.M (Kd.int .i64) _ _ _ 1 [.int .i64 1] from rfl) (Reps.none _ _)))); intro v439 w20 ho21 hb hg_ hnew_; clear hg_ hnew_; (first | rw [← Ny438.out] at ho21 | (simp only [Int.reduceToNat] at ho21; rw [← Ny438.out] at ho21)); have HO440 := am (Kd.R_lower (Kd.R_new' ho21 (Kd.R_lt (kR HO437.out))) (below_size (bw HB.out))); replace HO437 := am (Kd.R_elder' (kR HO437.out) (Kd.R_base ho21) hb); replace HB := am (below_step (bw HB.out) hb); clear hb ho21; obtain ⟨Ao22, co22, eo22⟩ := Kd.R_slice HO437.out; subst eo22; obtain ⟨Ao23, co23, eo23⟩ := Kd.R_slice HO440.out; subst eo23) | ((with_reducible refine gate_dst (N := 16) rfl ?_); (try (refine gate_guard (by rfl) ?_; dsimp only)); refine Kd.N_lit (Kd.slice 3 (Kd.int .i64)) _ 28 zz5 (N' := 16) zz5 (xs := ([y435, y438] : List (List Int))) (inner := [.slice Ao22 y435.length co22, .slice Ao23 y438.length co23]) (ok := (fun _ => True)) (okp := (fun _ => True)) zz6 ?hp (fun _ hk => hk) ((show ∀ k_, w20.heap.size ≤ k_ → (fun _ => True) k_ from fun k_ hk => trivial) _ (Nat.le_refl _)) (Below.refl _ _) (Nat.le_refl _) (by simp) ?_; (case hp => exact (Reps.one (show Kd.FK (Kd.slice 3 (Kd.int .i64)) _ _ y435 [.slice Ao22 y435.length co22] from (Kd.FK_slice_mk (Kd.R_reads' (Kd.R_mono (ok' := (fun _ => True)) (HO437.out) (fun k_ hk => trivial))).2.1 (Kd.R_F (Kd.R_mono (ok' := (fun _ => True)) (HO437.out) (fun k_ hk => trivial))))) (Reps.one (show Kd.FK (Kd.slice 3 (Kd.int .i64)) _ _ y438 [.slice Ao23 y438.length co23] from (Kd.FK_slice_mk (Kd.R_reads' (Kd.R_mono (ok' := (fun _ => True)) (HO440.out) (fun k_ hk => trivial))).2.1 (Kd.R_F (Kd.R_mono (ok' := (fun _ => True)) (HO440.out) (fun k_ hk => trivial))))) (Reps.none _ _)))); intro v442 w24 ho25 hb hg_ hnew_; clear hg_ hnew_; (first | rw [← Ny441.out] at ho25 | (simp only [Int.reduceToNat] at ho25; rw [← Ny441.out] at ho25)); have n0_ := am (Kd.N_lower ho25 (below_size (bw HB.out))); have n1_ := am (below_step (bw HB.out) hb); clear HB; clear HO437; clear HO440; have HO443 := n0_; have HB := n1_; clear n0_ n1_; clear hb ho25; obtain ⟨Ao26, co26, eo26⟩ := Kd.N_slice HO443.out; subst eo26) | ((with_reducible refine gate_dst (N := 1) rfl ?_); (try (refine gate_guard (by rfl) ?_; dsimp only)); refine box_event zz5 (N := 1) zz5 (cs := #[.slice none 0 0]) (t := 24) zz6 ?_; intro gb444 hg w27 hbox hb; replace HO443 := am (Kd.N_below (Kd.N_elderB (kN HO443.out) gb444 (Nat.le_of_eq hg.symm)) hb); have BK444 := am (hbox); have GW444 := am ((by rw [hg]; exact (below_size (bw HB.out)) : w.heap.size ≤ gb444)); have GE444 := am ((by rw [hg]; exact (below_size (bw HB.out)) : w.heap.size ≤ gb444)); replace HB := am (below_step (bw HB.out) hb); clear hb hbox hg; have hcz28_0 : w27.cell? ⟨gb444, 0, none⟩ = some (.slice none 0 0) := (blk_cell BK444.out 0).trans rfl; have hfz28_0 := blk_frozen BK444.out 0) | ((with_reducible refine gate_callee (f := 47) rfl ?_); refine goesL_ (some 20) rfl rfl Try.func47 (by kernel_rfl) rfl #[.agg #[.slice Ao26 y441.length co26]] rfl zz1 ?_; (with_reducible refine (color_Colorings.calls k _ _ y441 t445 t446 _ ?side1 ?side2 A1.out).mono ?_); (case side1 => refine (Kd.N_reads' (e := 28) (base := w.heap.size) (ok := fun k_ => (True ∧ k_ ≠ gb444)) (n := y441.length) (c := co26) ?_).2.2; exact (kN (Kd.N_mono (Kd.N_far (p := ⟨gb444, 0, none⟩) (Kd.N_mono HO443.out (fun k_ hk => (⟨hk, hk.2⟩ : _ ∧ k_ ≠ gb444))) (fun _ hk => hk.2) (.slice Ao26 y441.length co26)) (fun _ h_ => h_.1)))); (case side2 => exact (Kd.N_reads' HO443.out).2.1); rintro e w29 ⟨rfl, hb⟩; refine ⟨_, rfl, ?_⟩; replace HO443 := am (Kd.N_below (kN (Kd.N_mono (Kd.N_far (p := ⟨gb444, 0, none⟩) (Kd.N_mono HO443.out (fun k_ hk => (⟨hk, hk.2⟩ : _ ∧ k_ ≠ gb444))) (fun _ hk => hk.2) (.slice Ao26 y441.length co26)) (fun _ h_ => h_.1))) hb); replace BK444 := am (blk_below (g := gb444) (o := .cells #[.slice Ao26 y441.length co26] 24 (0, 0)) (by (with_reducible repeat (first | refine blk_drewN ?_ _ | refine blk_drew ?_ | refine blk_alloc ?_ _)); refine blk_put (cs := #[.slice none 0 0]) ?_ 0 _ rfl; (with_reducible repeat (first | refine blk_drewN ?_ _ | refine blk_drew ?_ | refine blk_alloc ?_ _)); exact BK444.out) hb); replace HB := am (below_step (bs HB.out) hb); (try clear hb); (try clear hb2); (try clear hk); (try clear hi); have hcz30_0 : w29.cell? ⟨gb444, 0, none⟩ = some (.slice Ao26 y441.length co26) := (blk_cell BK444.out 0).trans rfl; have hfz30_0 := blk_frozen BK444.out 0) | ((with_reducible refine gate_dst (N := 25) rfl ?_); (try (refine gate_guard (by rfl) ?_; dsimp only)); refine Kd.R_lit (Kd.int .i64) _ 3 zz5 (N := 25) zz5 (xs := ([0, 1] : List Int)) (inner := [.int .i64 0, .int .i64 1]) (ok := fun _ => True) (okp := fun _ => True) zz6 ?hp (fun _ hk => hk) trivial (Below.refl _ _) (Nat.le_refl _) (by simp) ?_; (case hp => exact (Reps.one (show Kd.M (Kd.int .i64) _ _ _ 0 [.int .i64 0] from rfl) (Reps.one (show Kd.M (Kd.int .i64) _ _ _ 1 [.int .i64 1] from rfl) (Reps.none _ _)))); intro v448 w31 ho32 hb hg_ hnew_; clear hg_ hnew_; (first | rw [← Ny447.out] at ho32 | (simp only [Int.reduceToNat] at ho32; rw [← Ny447.out] at ho32)); replace HO443 := am (Kd.N_elder' (kN HO443.out) (Kd.R_base ho32) hb); have HO449 := am (Kd.R_lower ho32 (below_size (bs HB.out))); replace BK444 := am (blk_below (g := gb444) (o := .cells #[.slice Ao26 y441.length co26] 24 (0, 0)) (kb BK444.out) hb); replace HB := am (below_step (bs HB.out) hb); clear hb ho32) | ((with_reducible refine gate_dst (N := 26) rfl ?_); (try (refine gate_guard (by rfl) ?_; dsimp only)); refine Kd.R_lit (Kd.int .i64) _ 3 zz5 (N := 26) zz5 (xs := ([1, 0] : List Int)) (inner := [.int .i64 1, .int .i64 0]) (ok := fun _ => True) (okp := fun _ => True) zz6 ?hp (fun _ hk => hk) trivial (Below.refl _ _) (Nat.le_refl _) (by simp) ?_; (case hp => exact (Reps.one (show Kd.M (Kd.int .i64) _ _ _ 1 [.int .i64 1] from rfl) (Reps.one (show Kd.M (Kd.int .i64) _ _ _ 0 [.int .i64 0] from rfl) (Reps.none _ _)))); intro v451 w33 ho34 hb hg_ hnew_; clear hg_ hnew_; (first | rw [← Ny450.out] at ho34 | (simp only [Int.reduceToNat] at ho34; rw [← Ny450.out] at ho34)); replace HO443 := am (Kd.N_elder' (kN HO443.out) (Kd.R_base ho34) hb); have HO452 := am (Kd.R_lower (Kd.R_new' ho34 (Kd.R_lt (kR HO449.out))) (below_size (bs HB.out))); replace HO449 := am (Kd.R_elder' (kR HO449.out) (Kd.R_base ho34) hb); replace BK444 := am (blk_below (g := gb444) (o := .cells #[.slice Ao26 y441.length co26] 24 (0, 0)) (kb BK444.out) hb); replace HB := am (below_step (bs HB.out) hb); clear hb ho34; obtain ⟨Ao35, co35, eo35⟩ := Kd.R_slice HO449.out; subst eo35; obtain ⟨Ao36, co36, eo36⟩ := Kd.R_slice HO452.out; subst eo36) | ((with_reducible refine gate_dst (N := 27) rfl ?_); (try (refine gate_guard (by rfl) ?_; dsimp only)); refine Kd.N_lit (Kd.slice 3 (Kd.int .i64)) _ 28 zz5 (N' := 27) zz5 (xs := ([y447, y450] : List (List Int))) (inner := [.slice Ao35 y447.length co35, .slice Ao36 y450.length co36]) (ok := (fun k_ => some k_ ≠ (.slice Ao26 y441.length co26 : Value).ownBlock ∧ k_ ≠ gb444)) (okp := (fun k_ => some k_ ≠ (.slice Ao26 y441.length co26 : Value).ownBlock ∧ k_ ≠ gb444)) zz6 ?hp (fun _ hk => hk) ((show ∀ k_, w33.heap.size ≤ k_ → (fun k_ => some k_ ≠ (.slice Ao26 y441.length co26 : Value).ownBlock ∧ k_ ≠ gb444) k_ from fun k_ hk => ⟨Kd.fresh' (Kd.N_lt (kN HO443.out)) k_ hk, Kd.freshB (g := gb444) (o := .cells #[.slice Ao26 y441.length co26] 24 (0, 0)) (kb BK444.out) k_ hk⟩) _ (Nat.le_refl _)) (Below.refl _ _) (Nat.le_refl _) (by simp) ?_; (case hp => exact (Reps.one (show Kd.FK (Kd.slice 3 (Kd.int .i64)) _ _ y447 [.slice Ao35 y447.length co35] from (Kd.FK_slice_mk (Kd.R_reads' (Kd.R_mono (ok' := (fun k_ => some k_ ≠ (.slice Ao26 y441.length co26 : Value).ownBlock ∧ k_ ≠ gb444)) (Kd.R_types (Kd.R_apart' (HO449.out) (Kd.N_typed HO443.out) (by decide)) BK444.out (by decide)) (fun k_ hk => ⟨hk.1.2, hk.2⟩))).2.1 (Kd.R_F (Kd.R_mono (ok' := (fun k_ => some k_ ≠ (.slice Ao26 y441.length co26 : Value).ownBlock ∧ k_ ≠ gb444)) (Kd.R_types (Kd.R_apart' (HO449.out) (Kd.N_typed HO443.out) (by decide)) BK444.out (by decide)) (fun k_ hk => ⟨hk.1.2, hk.2⟩))))) (Reps.one (show Kd.FK (Kd.slice 3 (Kd.int .i64)) _ _ y450 [.slice Ao36 y450.length co36] from (Kd.FK_slice_mk (Kd.R_reads' (Kd.R_mono (ok' := (fun k_ => some k_ ≠ (.slice Ao26 y441.length co26 : Value).ownBlock ∧ k_ ≠ gb444)) (Kd.R_types (Kd.R_apart' (HO452.out) (Kd.N_typed HO443.out) (by decide)) BK444.out (by decide)) (fun k_ hk => ⟨hk.1.2, hk.2⟩))).2.1 (Kd.R_F (Kd.R_mono (ok' := (fun k_ => some k_ ≠ (.slice Ao26 y441.length co26 : Value).ownBlock ∧ k_ ≠ gb444)) (Kd.R_types (Kd.R_apart' (HO452.out) (Kd.N_typed HO443.out) (by decide)) BK444.out (by decide)) (fun k_ hk => ⟨hk.1.2, hk.2⟩))))) (Reps.none _ _)))); intro v454 w37 ho38 hb hg_ hnew_; clear hg_ hnew_; (first | rw [← Ny453.out] at ho38 | (simp only [Int.reduceToNat] at ho38; rw [← Ny453.out] at ho38)); have n0_ := am (Kd.N_elder' (kN HO443.out) (by first | exact Kd.N_base ho38 | exact Kd.S_base ho38 | exact Kd.R_base ho38) hb); have n1_ := am (Kd.N_lower ho38 (below_size (bs HB.out))); have n2_ := am (blk_below (g := gb444) (o := .cells #[.slice Ao26 y441.length co26] 24 (0, 0)) (kb BK444.out) hb); have n3_ := am (below_step (bs HB.out) hb); clear HO443; clear BK444; clear HB; clear HO449; clear HO452; have HO443 := n0_; have HO455 := n1_; have BK444 := n2_; have HB := n3_; clear n0_ n1_ n2_ n3_; clear hb ho38; obtain ⟨Ao39, co39, eo39⟩ := Kd.N_slice HO455.out; subst eo39) | ((with_reducible refine gate_callee (f := 41) rfl ?_); refine goesL_ (some 28) rfl rfl Try.func41 (by kernel_rfl) rfl #[.agg #[.slice Ao26 y441.length co26], .slice Ao39 y453.length co39] rfl zz1 ?_; (with_reducible refine (color_Colored.calls k _ _ y441 _ _ y453 t456 t459 _ ?side1 ?side2 ?side3 ?side4 A2.out).mono ?_); (case side1 => repeat (first | exact (Kd.N_reads' HO443.out).2.2 | (with_reducible refine Kd.C_alloc ?_ _) | (with_reducible refine Kd.C_drewN ?_ _) | (with_reducible refine Kd.C_drew ?_))); (case side2 => exact (Kd.N_reads' HO443.out).2.1); (case side3 => repeat (first | exact (Kd.N_reads' HO455.out).2.2 | (with_reducible refine Kd.C_alloc ?_ _) | (with_reducible refine Kd.C_drewN ?_ _) | (with_reducible refine Kd.C_drew ?_))); (case side4 => exact (Kd.N_reads' HO455.out).2.1); rintro e w40 ⟨v457, rfl, ho0, hb⟩; refine ⟨_, rfl, ?_⟩; have HO458 := am (Kd.N_lower (Kd.N_mono (ok' := fun k_ => some k_ ≠ (.slice Ao26 y441.length co26 : Value).ownBlock ∧ some k_ ≠ (.slice Ao39 y453.length co39 : Value).ownBlock ∧ k_ ≠ gb444) (Kd.S_N (Kd.S_bound ho0)) (fun k_ hk_ => ⟨(Kd.fresh' (Kd.N_lt (kN HO443.out)) k_ hk_.2.1), (Kd.fresh' (Kd.N_lt (kN HO455.out)) k_ hk_.2.1), (Kd.freshB (g := gb444) (o := .cells #[.slice Ao26 y441.length co26] 24 (0, 0)) (kb BK444.out) k_ hk_.2.1)⟩)) (below_size (bs HB.out))); replace HO443 := am (Kd.N_elder' (kN HO443.out) (by first | exact Kd.N_base ho0 | exact Kd.S_base ho0 | exact Kd.R_base ho0) hb); replace HO455 := am (Kd.N_elder' (kN HO455.out) (by first | exact Kd.N_base ho0 | exact Kd.S_base ho0 | exact Kd.R_base ho0) hb); replace BK444 := am (blk_below (g := gb444) (o := .cells #[.slice Ao26 y441.length co26] 24 (0, 0)) (kb BK444.out) hb); replace HB := am (below_step (bs HB.out) hb); (try clear hb); (try clear hb2); (try clear hk); (try clear hi); (try clear ho0)) | ((with_reducible refine gate_dst (N := 4) rfl ?_); (try (refine gate_guard (by rfl) ?_; dsimp only)); refine box_event zz5 (N := 4) zz5 (cs := #[.slice none 0 0]) (t := 24) zz6 ?_; intro gb460 hg w41 hbox hb; replace HO443 := am (Kd.N_below (Kd.N_elderB (kN HO443.out) gb460 (Nat.le_of_eq hg.symm)) hb); replace HO455 := am (Kd.N_below (Kd.N_elderB (kN HO455.out) gb460 (Nat.le_of_eq hg.symm)) hb); replace HO458 := am (Kd.N_below (Kd.N_elderB (kN HO458.out) gb460 (Nat.le_of_eq hg.symm)) hb); have BK460 := am (hbox); have GW460 := am ((by rw [hg]; exact (below_size (bs HB.out)) : w.heap.size ≤ gb460)); have GE460 := am ((by rw [hg]; exact (below_size (bs HB.out)) : w.heap.size ≤ gb460)); replace HB := am (below_step (bs HB.out) hb); have NB444_460 := am ((by rw [hg]; exact Nat.ne_of_lt (blk_lt (g := gb444) (o := .cells #[.slice Ao26 y441.length co26] 24 (0, 0)) (kb BK444.out)) : gb444 ≠ gb460)); have NB460_444 := am ((by rw [hg]; exact Nat.ne_of_gt (blk_lt (g := gb444) (o := .cells #[.slice Ao26 y441.length co26] 24 (0, 0)) (kb BK444.out)) : gb460 ≠ gb444)); replace BK444 := am (blk_below (g := gb444) (o := .cells #[.slice Ao26 y441.length co26] 24 (0, 0)) (kb BK444.out) hb); clear hb hbox hg; obtain ⟨Ao42, co42, eo42⟩ := Kd.N_slice HO458.out; subst eo42; have hnb43 := NB460_444.out; have hnc43 := NB444_460.out; have hcz44_0 : w41.cell? ⟨gb460, 0, none⟩ = some (.slice none 0 0) := (blk_cell BK460.out 0).trans rfl; have hfz44_0 := blk_frozen BK460.out 0; have hcz45_0 : w41.cell? ⟨gb444, 0, none⟩ = some (.slice Ao26 y441.length co26) := (blk_cell BK444.out 0).trans rfl; have hfz45_0 := blk_frozen BK444.out 0) | ((with_reducible refine gate_callee (f := 42) rfl ?_); refine goesL_ (some 34) rfl rfl Try.func42 (by kernel_rfl) rfl #[.agg #[.slice Ao26 y441.length co26], .agg #[.slice Ao42 t456.length co42]] rfl zz1 ?_; (with_reducible refine (color_Same.calls k _ _ y441 _ _ t456 true t462 _ ?side1 ?side2 ?side3 ?side4 A3.out).mono ?_); (case side1 => exact (Kd.N_reads' (e := 28) (base := w.heap.size) (n := y441.length) (c := co26) (kN (Kd.N_mono (Kd.N_far (p := ⟨gb460, 0, none⟩) (Kd.N_mono HO443.out (fun k_ hk => (⟨hk, hk.2⟩ : _ ∧ k_ ≠ gb460))) (fun _ hk => hk.2) (.slice Ao42 t456.length co42)) (fun _ h_ => h_.1)))).2.2); (case side2 => exact (Kd.N_reads' HO443.out).2.1); (case side3 => refine (Kd.N_reads' (e := 28) (base := w.heap.size) (ok := fun k_ => ((some k_ ≠ (.slice Ao26 y441.length co26 : Value).ownBlock ∧ (some k_ ≠ (.slice Ao39 y453.length co39 : Value).ownBlock ∧ k_ ≠ gb444)) ∧ k_ ≠ gb460)) (n := t456.length) (c := co42) ?_).2.2; exact (kN (Kd.N_mono (Kd.N_far (p := ⟨gb460, 0, none⟩) (Kd.N_mono HO458.out (fun k_ hk => (⟨hk, hk.2⟩ : _ ∧ k_ ≠ gb460))) (fun _ hk => hk.2) (.slice Ao42 t456.length co42)) (fun _ h_ => h_.1)))); (case side4 => exact (Kd.N_reads' HO458.out).2.1); rintro e w46 ⟨rfl, hb⟩; refine ⟨_, rfl, ?_⟩; replace HO443 := am (Kd.N_below (kN (Kd.N_mono (Kd.N_far (p := ⟨gb460, 0, none⟩) (Kd.N_mono HO443.out (fun k_ hk => (⟨hk, hk.2⟩ : _ ∧ k_ ≠ gb460))) (fun _ hk => hk.2) (.slice Ao42 t456.length co42)) (fun _ h_ => h_.1))) hb); replace HO455 := am (Kd.N_below (kN (Kd.N_mono (Kd.N_far (p := ⟨gb460, 0, none⟩) (Kd.N_mono HO455.out (fun k_ hk => (⟨hk, hk.2⟩ : _ ∧ k_ ≠ gb460))) (fun _ hk => hk.2) (.slice Ao42 t456.length co42)) (fun _ h_ => h_.1))) hb); replace HO458 := am (Kd.N_below (kN (Kd.N_mono (Kd.N_far (p := ⟨gb460, 0, none⟩) (Kd.N_mono HO458.out (fun k_ hk => (⟨hk, hk.2⟩ : _ ∧ k_ ≠ gb460))) (fun _ hk => hk.2) (.slice Ao42 t456.length co42)) (fun _ h_ => h_.1))) hb); replace BK444 := am (blk_below (g := gb444) (o := .cells #[.slice Ao26 y441.length co26] 24 (0, 0)) (by (with_reducible repeat (first | refine blk_drewN ?_ _ | refine blk_drew ?_ | refine blk_alloc ?_ _)); refine blk_far ?_ NB444_460.out _; (with_reducible repeat (first | refine blk_drewN ?_ _ | refine blk_drew ?_ | refine blk_alloc ?_ _)); exact BK444.out) hb); replace BK460 := am (blk_below (g := gb460) (o := .cells #[.slice Ao42 t456.length co42] 24 (0, 0)) (by (with_reducible repeat (first | refine blk_drewN ?_ _ | refine blk_drew ?_ | refine blk_alloc ?_ _)); refine blk_put (cs := #[.slice none 0 0]) ?_ 0 _ rfl; (with_reducible repeat (first | refine blk_drewN ?_ _ | refine blk_drew ?_ | refine blk_alloc ?_ _)); exact BK460.out) hb); replace HB := am (below_step (bs HB.out) hb); (try clear hb); (try clear hb2); (try clear hk); (try clear hi); have hcz47_0 : w46.cell? ⟨gb444, 0, none⟩ = some (.slice Ao26 y441.length co26) := (blk_cell BK444.out 0).trans rfl; have hfz47_0 := blk_frozen BK444.out 0) | ((with_reducible refine gate_callee (f := 49) rfl ?_); refine goesL_ (some 39) rfl rfl Try.func49 (by kernel_rfl) rfl #[.agg #[.slice Ao26 y441.length co26]] rfl zz1 ?_; (with_reducible refine (color_Road.calls k _ _ y441 t463 t466 t469 _ ?side1 ?side2 A4.out).mono ?_); (case side1 => repeat (first | exact (Kd.N_reads' HO443.out).2.2 | (with_reducible refine Kd.C_alloc ?_ _) | (with_reducible refine Kd.C_drewN ?_ _) | (with_reducible refine Kd.C_drew ?_))); (case side2 => exact (Kd.N_reads' HO443.out).2.1); rintro e w48 ⟨v464, v467, rfl, ho0, ho1, hb⟩; refine ⟨_, rfl, ?_⟩; have HO465 := am (Kd.N_lower (Kd.N_mono (ok' := fun k_ => some k_ ≠ (v467 : Value).ownBlock ∧ some k_ ≠ (.slice Ao26 y441.length co26 : Value).ownBlock ∧ some k_ ≠ (.slice Ao39 y453.length co39 : Value).ownBlock ∧ some k_ ≠ (.slice Ao42 t456.length co42 : Value).ownBlock ∧ k_ ≠ gb444 ∧ k_ ≠ gb460) (Kd.S_N (Kd.S_bound ho0)) (fun k_ hk_ => ⟨hk_.1, (Kd.fresh' (Kd.N_lt (kN HO443.out)) k_ hk_.2.1), (Kd.fresh' (Kd.N_lt (kN HO455.out)) k_ hk_.2.1), (Kd.fresh' (Kd.N_lt (kN HO458.out)) k_ hk_.2.1), (Kd.freshB (g := gb444) (o := .cells #[.slice Ao26 y441.length co26] 24 (0, 0)) (kb BK444.out) k_ hk_.2.1), (Kd.freshB (g := gb460) (o := .cells #[.slice Ao42 t456.length co42] 24 (0, 0)) (kb BK460.out) k_ hk_.2.1)⟩)) (below_size (bs HB.out))); replace HO443 := am (Kd.N_mono (Kd.N_told (Kd.N_told (Kd.N_old (kN HO443.out) hb) (by first | exact Kd.N_base ho0 | exact Kd.S_base ho0 | exact Kd.R_base ho0)) (Kd.R_base ho1)) (fun _ h_ => h_.1)); replace HO455 := am (Kd.N_mono (Kd.N_told (Kd.N_told (Kd.N_old (kN HO455.out) hb) (by first | exact Kd.N_base ho0 | exact Kd.S_base ho0 | exact Kd.R_base ho0)) (Kd.R_base ho1)) (fun _ h_ => h_.1)); replace HO458 := am (Kd.N_mono (Kd.N_told (Kd.N_told (Kd.N_old (kN HO458.out) hb) (by first | exact Kd.N_base ho0 | exact Kd.S_base ho0 | exact Kd.R_base ho0)) (Kd.R_base ho1)) (fun _ h_ => h_.1)); have HO468 := am (Kd.R_lower ho1 (below_size (bs HB.out))); replace BK444 := am (blk_below (g := gb444) (o := .cells #[.slice Ao26 y441.length co26] 24 (0, 0)) (kb BK444.out) hb); replace BK460 := am (blk_below (g := gb460) (o := .cells #[.slice Ao42 t456.length co42] 24 (0, 0)) (kb BK460.out) hb); replace HB := am (below_step (bs HB.out) hb); (try clear hb); (try clear hb2); (try clear hk); (try clear hi); (try clear ho0); (try clear ho1)) | ((with_reducible refine gate_dst (N := 8) rfl ?_); (try (refine gate_guard (by rfl) ?_; dsimp only)); refine box_event zz5 (N := 8) zz5 (cs := #[.slice none 0 0]) (t := 24) zz6 ?_; intro gb470 hg w49 hbox hb; replace HO443 := am (Kd.N_below (Kd.N_elderB (kN HO443.out) gb470 (Nat.le_of_eq hg.symm)) hb); replace HO455 := am (Kd.N_below (Kd.N_elderB (kN HO455.out) gb470 (Nat.le_of_eq hg.symm)) hb); replace HO458 := am (Kd.N_below (Kd.N_elderB (kN HO458.out) gb470 (Nat.le_of_eq hg.symm)) hb); replace HO465 := am (Kd.N_below (Kd.N_elderB (kN HO465.out) gb470 (Nat.le_of_eq hg.symm)) hb); replace HO468 := am (Kd.R_below (kR HO468.out) hb); have BK470 := am (hbox); have GW470 := am ((by rw [hg]; exact (below_size (bs HB.out)) : w.heap.size ≤ gb470)); have GE470 := am ((by rw [hg]; exact (below_size (bs HB.out)) : w.heap.size ≤ gb470)); replace HB := am (below_step (bs HB.out) hb); have NB444_470 := am ((by rw [hg]; exact Nat.ne_of_lt (blk_lt (g := gb444) (o := .cells #[.slice Ao26 y441.length co26] 24 (0, 0)) (kb BK444.out)) : gb444 ≠ gb470)); have NB470_444 := am ((by rw [hg]; exact Nat.ne_of_gt (blk_lt (g := gb444) (o := .cells #[.slice Ao26 y441.length co26] 24 (0, 0)) (kb BK444.out)) : gb470 ≠ gb444)); replace BK444 := am (blk_below (g := gb444) (o := .cells #[.slice Ao26 y441.length co26] 24 (0, 0)) (kb BK444.out) hb); have NB460_470 := am ((by rw [hg]; exact Nat.ne_of_lt (blk_lt (g := gb460) (o := .cells #[.slice Ao42 t456.length co42] 24 (0, 0)) (kb BK460.out)) : gb460 ≠ gb470)); have NB470_460 := am ((by rw [hg]; exact Nat.ne_of_gt (blk_lt (g := gb460) (o := .cells #[.slice Ao42 t456.length co42] 24 (0, 0)) (kb BK460.out)) : gb470 ≠ gb460)); replace BK460 := am (blk_below (g := gb460) (o := .cells #[.slice Ao42 t456.length co42] 24 (0, 0)) (kb BK460.out) hb); clear hb hbox hg; obtain ⟨Ao50, co50, eo50⟩ := Kd.N_slice HO465.out; subst eo50; have hnb51 := NB470_444.out; have hnc51 := NB444_470.out; have hnb52 := NB470_460.out; have hnc52 := NB460_470.out; have hcz53_0 : w49.cell? ⟨gb470, 0, none⟩ = some (.slice none 0 0) := (blk_cell BK470.out 0).trans rfl; have hfz53_0 := blk_frozen BK470.out 0) | ((with_reducible refine gate_dst (N := 44) rfl ?_); (try (refine gate_guard (by rfl) ?_; dsimp only)); refine Kd.R_lit (Kd.int .i64) _ 3 zz5 (N := 44) zz5 (xs := ([1, 1] : List Int)) (inner := [.int .i64 1, .int .i64 1]) (ok := fun _ => True) (okp := fun _ => True) zz6 ?hp (fun _ hk => hk) trivial (Below.refl _ _) (Nat.le_refl _) (by simp) ?_; (case hp => exact (Reps.one (show Kd.M (Kd.int .i64) _ _ _ 1 [.int .i64 1] from rfl) (Reps.one (show Kd.M (Kd.int .i64) _ _ _ 1 [.int .i64 1] from rfl) (Reps.none _ _)))); intro v472 w54 ho55 hb hg_ hnew_; clear hg_ hnew_; (first | rw [← Ny471.out] at ho55 | (simp only [Int.reduceToNat] at ho55; rw [← Ny471.out] at ho55)); replace HO443 := am (Kd.N_elder' (kN (Kd.N_mono (Kd.N_far (p := ⟨gb470, 0, none⟩) (Kd.N_mono HO443.out (fun k_ hk => (⟨hk, hk.2⟩ : _ ∧ k_ ≠ gb470))) (fun _ hk => hk.2) (.slice Ao50 t463.length co50)) (fun _ h_ => h_.1))) (Kd.R_base ho55) hb); replace HO455 := am (Kd.N_elder' (kN (Kd.N_mono (Kd.N_far (p := ⟨gb470, 0, none⟩) (Kd.N_mono HO455.out (fun k_ hk => (⟨hk, hk.2⟩ : _ ∧ k_ ≠ gb470))) (fun _ hk => hk.2) (.slice Ao50 t463.length co50)) (fun _ h_ => h_.1))) (Kd.R_base ho55) hb); replace HO458 := am (Kd.N_elder' (kN (Kd.N_mono (Kd.N_far (p := ⟨gb470, 0, none⟩) (Kd.N_mono HO458.out (fun k_ hk => (⟨hk, hk.2⟩ : _ ∧ k_ ≠ gb470))) (fun _ hk => hk.2) (.slice Ao50 t463.length co50)) (fun _ h_ => h_.1))) (Kd.R_base ho55) hb); replace HO465 := am (Kd.N_elder' (kN (Kd.N_mono (Kd.N_far (p := ⟨gb470, 0, none⟩) (Kd.N_mono HO465.out (fun k_ hk => (⟨hk, hk.2⟩ : _ ∧ k_ ≠ gb470))) (fun _ hk => hk.2) (.slice Ao50 t463.length co50)) (fun _ h_ => h_.1))) (Kd.R_base ho55) hb); have HO473 := am (Kd.R_lower (Kd.R_new' ho55 (Kd.R_lt (kR (Kd.R_mono (Kd.R_far (p := ⟨gb470, 0, none⟩) (Kd.R_types HO468.out BK470.out (by decide)) (fun _ hk => hk.2) (.slice Ao50 t463.length co50)) (fun _ h_ => h_.1))))) (below_size (bs HB.out))); replace HO468 := am (Kd.R_elder' (kR (Kd.R_mono (Kd.R_far (p := ⟨gb470, 0, none⟩) (Kd.R_types HO468.out BK470.out (by decide)) (fun _ hk => hk.2) (.slice Ao50 t463.length co50)) (fun _ h_ => h_.1))) (Kd.R_base ho55) hb); replace BK444 := am (blk_below (g := gb444) (o := .cells #[.slice Ao26 y441.length co26] 24 (0, 0)) (by (with_reducible repeat (first | refine blk_drewN ?_ _ | refine blk_drew ?_ | refine blk_alloc ?_ _)); refine blk_far ?_ NB444_470.out _; (with_reducible repeat (first | refine blk_drewN ?_ _ | refine blk_drew ?_ | refine blk_alloc ?_ _)); exact BK444.out) hb); replace BK460 := am (blk_below (g := gb460) (o := .cells #[.slice Ao42 t456.length co42] 24 (0, 0)) (by (with_reducible repeat (first | refine blk_drewN ?_ _ | refine blk_drew ?_ | refine blk_alloc ?_ _)); refine blk_far ?_ NB460_470.out _; (with_reducible repeat (first | refine blk_drewN ?_ _ | refine blk_drew ?_ | refine blk_alloc ?_ _)); exact BK460.out) hb); replace BK470 := am (blk_below (g := gb470) (o := .cells #[.slice Ao50 t463.length co50] 24 (0, 0)) (by (with_reducible repeat (first | refine blk_drewN ?_ _ | refine blk_drew ?_ | refine blk_alloc ?_ _)); refine blk_put (cs := #[.slice none 0 0]) ?_ 0 _ rfl; (with_reducible repeat (first | refine blk_drewN ?_ _ | refine blk_drew ?_ | refine blk_alloc ?_ _)); exact BK470.out) hb); replace HB := am (below_step (bs HB.out) hb); clear hb ho55) | ((with_reducible refine gate_dst (N := 45) rfl ?_); (try (refine gate_guard (by rfl) ?_; dsimp only)); refine Kd.R_lit (Kd.int .i64) _ 3 zz5 (N := 45) zz5 (xs := ([2, 2] : List Int)) (inner := [.int .i64 2, .int .i64 2]) (ok := fun _ => True) (okp := fun _ => True) zz6 ?hp (fun _ hk => hk) trivial (Below.refl _ _) (Nat.le_refl _) (by simp) ?_; (case hp => exact (Reps.one (show Kd.M (Kd.int .i64) _ _ _ 2 [.int .i64 2] from rfl) (Reps.one (show Kd.M (Kd.int .i64) _ _ _ 2 [.int .i64 2] from rfl) (Reps.none _ _)))); intro v475 w56 ho57 hb hg_ hnew_; clear hg_ hnew_; (first | rw [← Ny474.out] at ho57 | (simp only [Int.reduceToNat] at ho57; rw [← Ny474.out] at ho57)); replace HO443 := am (Kd.N_elder' (kN HO443.out) (Kd.R_base ho57) hb); replace HO455 := am (Kd.N_elder' (kN HO455.out) (Kd.R_base ho57) hb); replace HO458 := am (Kd.N_elder' (kN HO458.out) (Kd.R_base ho57) hb); replace HO465 := am (Kd.N_elder' (kN HO465.out) (Kd.R_base ho57) hb); have HO476 := am (Kd.R_lower (Kd.R_new' (Kd.R_new' ho57 (Kd.R_lt (kR HO468.out))) (Kd.R_lt (kR HO473.out))) (below_size (bs HB.out))); replace HO468 := am (Kd.R_elder' (kR HO468.out) (Kd.R_base ho57) hb); replace HO473 := am (Kd.R_elder' (kR HO473.out) (Kd.R_base ho57) hb); replace BK444 := am (blk_below (g := gb444) (o := .cells #[.slice Ao26 y441.length co26] 24 (0, 0)) (kb BK444.out) hb); replace BK460 := am (blk_below (g := gb460) (o := .cells #[.slice Ao42 t456.length co42] 24 (0, 0)) (kb BK460.out) hb); replace BK470 := am (blk_below (g := gb470) (o := .cells #[.slice Ao50 t463.length co50] 24 (0, 0)) (kb BK470.out) hb); replace HB := am (below_step (bs HB.out) hb); clear hb ho57) | ((with_reducible refine gate_dst (N := 46) rfl ?_); (try (refine gate_guard (by rfl) ?_; dsimp only)); refine Kd.R_lit (Kd.int .i64) _ 3 zz5 (N := 46) zz5 (xs := ([0, 0] : List Int)) (inner := [.int .i64 0, .int .i64 0]) (ok := fun _ => True) (okp := fun _ => True) zz6 ?hp (fun _ hk => hk) trivial (Below.refl _ _) (Nat.le_refl _) (by simp) ?_; (case hp => exact (Reps.one (show Kd.M (Kd.int .i64) _ _ _ 0 [.int .i64 0] from rfl) (Reps.one (show Kd.M (Kd.int .i64) _ _ _ 0 [.int .i64 0] from rfl) (Reps.none _ _)))); intro v478 w58 ho59 hb hg_ hnew_; clear hg_ hnew_; (first | rw [← Ny477.out] at ho59 | (simp only [Int.reduceToNat] at ho59; rw [← Ny477.out] at ho59)); replace HO443 := am (Kd.N_elder' (kN HO443.out) (Kd.R_base ho59) hb); replace HO455 := am (Kd.N_elder' (kN HO455.out) (Kd.R_base ho59) hb); replace HO458 := am (Kd.N_elder' (kN HO458.out) (Kd.R_base ho59) hb); replace HO465 := am (Kd.N_elder' (kN HO465.out) (Kd.R_base ho59) hb); have HO479 := am (Kd.R_lower (Kd.R_new' (Kd.R_new' (Kd.R_new' ho59 (Kd.R_lt (kR HO468.out))) (Kd.R_lt (kR HO473.out))) (Kd.R_lt (kR HO476.out))) (below_size (bs HB.out))); replace HO468 := am (Kd.R_elder' (kR HO468.out) (Kd.R_base ho59) hb); replace HO473 := am (Kd.R_elder' (kR HO473.out) (Kd.R_base ho59) hb); replace HO476 := am (Kd.R_elder' (kR HO476.out) (Kd.R_base ho59) hb); replace BK444 := am (blk_below (g := gb444) (o := .cells #[.slice Ao26 y441.length co26] 24 (0, 0)) (kb BK444.out) hb); replace BK460 := am (blk_below (g := gb460) (o := .cells #[.slice Ao42 t456.length co42] 24 (0, 0)) (kb BK460.out) hb); replace BK470 := am (blk_below (g := gb470) (o := .cells #[.slice Ao50 t463.length co50] 24 (0, 0)) (kb BK470.out) hb); replace HB := am (below_step (bs HB.out) hb); clear hb ho59; obtain ⟨Ao60, co60, eo60⟩ := Kd.R_slice HO473.out; subst eo60; obtain ⟨Ao61, co61, eo61⟩ := Kd.R_slice HO476.out; subst eo61; obtain ⟨Ao62, co62, eo62⟩ := Kd.R_slice HO479.out; subst eo62) | ((with_reducible refine gate_dst (N := 47) rfl ?_); (try (refine gate_guard (by rfl) ?_; dsimp only)); refine Kd.N_lit (Kd.slice 3 (Kd.int .i64)) _ 28 zz5 (N' := 47) zz5 (xs := ([y471, y474, y477] : List (List Int))) (inner := [.slice Ao60 y471.length co60, .slice Ao61 y474.length co61, .slice Ao62 y477.length co62]) (ok := (fun k_ => some k_ ≠ (.slice Ao26 y441.length co26 : Value).ownBlock ∧ some k_ ≠ (.slice Ao39 y453.length co39 : Value).ownBlock ∧ some k_ ≠ (.slice Ao42 t456.length co42 : Value).ownBlock ∧ some k_ ≠ (.slice Ao50 t463.length co50 : Value).ownBlock ∧ some k_ ≠ (v467 : Value).ownBlock ∧ k_ ≠ gb444 ∧ k_ ≠ gb460 ∧ k_ ≠ gb470)) (okp := (fun k_ => some k_ ≠ (.slice Ao26 y441.length co26 : Value).ownBlock ∧ some k_ ≠ (.slice Ao39 y453.length co39 : Value).ownBlock ∧ some k_ ≠ (.slice Ao42 t456.length co42 : Value).ownBlock ∧ some k_ ≠ (.slice Ao50 t463.length co50 : Value).ownBlock ∧ some k_ ≠ (v467 : Value).ownBlock ∧ k_ ≠ gb444 ∧ k_ ≠ gb460 ∧ k_ ≠ gb470)) zz6 ?hp (fun _ hk => hk) ((show ∀ k_, w58.heap.size ≤ k_ → (fun k_ => some k_ ≠ (.slice Ao26 y441.length co26 : Value).ownBlock ∧ some k_ ≠ (.slice Ao39 y453.length co39 : Value).ownBlock ∧ some k_ ≠ (.slice Ao42 t456.length co42 : Value).ownBlock ∧ some k_ ≠ (.slice Ao50 t463.length co50 : Value).ownBlock ∧ some k_ ≠ (v467 : Value).ownBlock ∧ k_ ≠ gb444 ∧ k_ ≠ gb460 ∧ k_ ≠ gb470) k_ from fun k_ hk => ⟨Kd.fresh' (Kd.N_lt (kN HO443.out)) k_ hk, Kd.fresh' (Kd.N_lt (kN HO455.out)) k_ hk, Kd.fresh' (Kd.N_lt (kN HO458.out)) k_ hk, Kd.fresh' (Kd.N_lt (kN HO465.out)) k_ hk, Kd.fresh' (Kd.R_lt (kR HO468.out)) k_ hk, Kd.freshB (g := gb444) (o := .cells #[.slice Ao26 y441.length co26] 24 (0, 0)) (kb BK444.out) k_ hk, Kd.freshB (g := gb460) (o := .cells #[.slice Ao42 t456.length co42] 24 (0, 0)) (kb BK460.out) k_ hk, Kd.freshB (g := gb470) (o := .cells #[.slice Ao50 t463.length co50] 24 (0, 0)) (kb BK470.out) k_ hk⟩) _ (Nat.le_refl _)) (Below.refl _ _) (Nat.le_refl _) (by simp) ?_; (case hp => exact (Reps.one (show Kd.FK (Kd.slice 3 (Kd.int .i64)) _ _ y471 [.slice Ao60 y471.length co60] from (Kd.FK_slice_mk (Kd.R_reads' (Kd.R_mono (ok' := (fun k_ => some k_ ≠ (.slice Ao26 y441.length co26 : Value).ownBlock ∧ some k_ ≠ (.slice Ao39 y453.length co39 : Value).ownBlock ∧ some k_ ≠ (.slice Ao42 t456.length co42 : Value).ownBlock ∧ some k_ ≠ (.slice Ao50 t463.length co50 : Value).ownBlock ∧ some k_ ≠ (v467 : Value).ownBlock ∧ k_ ≠ gb444 ∧ k_ ≠ gb460 ∧ k_ ≠ gb470)) (Kd.R_types (Kd.R_types (Kd.R_types (Kd.R_apart' (Kd.R_apart' (Kd.R_apart' (Kd.R_apart' (HO473.out) (Kd.N_typed HO443.out) (by decide)) (Kd.N_typed HO455.out) (by decide)) (Kd.N_typed HO458.out) (by decide)) (Kd.N_typed HO465.out) (by decide)) BK444.out (by decide)) BK460.out (by decide)) BK470.out (by decide)) (fun k_ hk => ⟨hk.1.1.1.1.1.1.2, ⟨hk.1.1.1.1.1.2, ⟨hk.1.1.1.1.2, ⟨hk.1.1.1.2, ⟨hk.1.1.1.1.1.1.1.1.1.2, ⟨hk.1.1.2, ⟨hk.1.2, hk.2⟩⟩⟩⟩⟩⟩⟩))).2.1 (Kd.R_F (Kd.R_mono (ok' := (fun k_ => some k_ ≠ (.slice Ao26 y441.length co26 : Value).ownBlock ∧ some k_ ≠ (.slice Ao39 y453.length co39 : Value).ownBlock ∧ some k_ ≠ (.slice Ao42 t456.length co42 : Value).ownBlock ∧ some k_ ≠ (.slice Ao50 t463.length co50 : Value).ownBlock ∧ some k_ ≠ (v467 : Value).ownBlock ∧ k_ ≠ gb444 ∧ k_ ≠ gb460 ∧ k_ ≠ gb470)) (Kd.R_types (Kd.R_types (Kd.R_types (Kd.R_apart' (Kd.R_apart' (Kd.R_apart' (Kd.R_apart' (HO473.out) (Kd.N_typed HO443.out) (by decide)) (Kd.N_typed HO455.out) (by decide)) (Kd.N_typed HO458.out) (by decide)) (Kd.N_typed HO465.out) (by decide)) BK444.out (by decide)) BK460.out (by decide)) BK470.out (by decide)) (fun k_ hk => ⟨hk.1.1.1.1.1.1.2, ⟨hk.1.1.1.1.1.2, ⟨hk.1.1.1.1.2, ⟨hk.1.1.1.2, ⟨hk.1.1.1.1.1.1.1.1.1.2, ⟨hk.1.1.2, ⟨hk.1.2, hk.2⟩⟩⟩⟩⟩⟩⟩))))) (Reps.one (show Kd.FK (Kd.slice 3 (Kd.int .i64)) _ _ y474 [.slice Ao61 y474.length co61] from (Kd.FK_slice_mk (Kd.R_reads' (Kd.R_mono (ok' := (fun k_ => some k_ ≠ (.slice Ao26 y441.length co26 : Value).ownBlock ∧ some k_ ≠ (.slice Ao39 y453.length co39 : Value).ownBlock ∧ some k_ ≠ (.slice Ao42 t456.length co42 : Value).ownBlock ∧ some k_ ≠ (.slice Ao50 t463.length co50 : Value).ownBlock ∧ some k_ ≠ (v467 : Value).ownBlock ∧ k_ ≠ gb444 ∧ k_ ≠ gb460 ∧ k_ ≠ gb470)) (Kd.R_types (Kd.R_types (Kd.R_types (Kd.R_apart' (Kd.R_apart' (Kd.R_apart' (Kd.R_apart' (HO476.out) (Kd.N_typed HO443.out) (by decide)) (Kd.N_typed HO455.out) (by decide)) (Kd.N_typed HO458.out) (by decide)) (Kd.N_typed HO465.out) (by decide)) BK444.out (by decide)) BK460.out (by decide)) BK470.out (by decide)) (fun k_ hk => ⟨hk.1.1.1.1.1.1.2, ⟨hk.1.1.1.1.1.2, ⟨hk.1.1.1.1.2, ⟨hk.1.1.1.2, ⟨hk.1.1.1.1.1.1.1.1.1.2, ⟨hk.1.1.2, ⟨hk.1.2, hk.2⟩⟩⟩⟩⟩⟩⟩))).2.1 (Kd.R_F (Kd.R_mono (ok' := (fun k_ => some k_ ≠ (.slice Ao26 y441.length co26 : Value).ownBlock ∧ some k_ ≠ (.slice Ao39 y453.length co39 : Value).ownBlock ∧ some k_ ≠ (.slice Ao42 t456.length co42 : Value).ownBlock ∧ some k_ ≠ (.slice Ao50 t463.length co50 : Value).ownBlock ∧ some k_ ≠ (v467 : Value).ownBlock ∧ k_ ≠ gb444 ∧ k_ ≠ gb460 ∧ k_ ≠ gb470)) (Kd.R_types (Kd.R_types (Kd.R_types (Kd.R_apart' (Kd.R_apart' (Kd.R_apart' (Kd.R_apart' (HO476.out) (Kd.N_typed HO443.out) (by decide)) (Kd.N_typed HO455.out) (by decide)) (Kd.N_typed HO458.out) (by decide)) (Kd.N_typed HO465.out) (by decide)) BK444.out (by decide)) BK460.out (by decide)) BK470.out (by decide)) (fun k_ hk => ⟨hk.1.1.1.1.1.1.2, ⟨hk.1.1.1.1.1.2, ⟨hk.1.1.1.1.2, ⟨hk.1.1.1.2, ⟨hk.1.1.1.1.1.1.1.1.1.2, ⟨hk.1.1.2, ⟨hk.1.2, hk.2⟩⟩⟩⟩⟩⟩⟩))))) (Reps.one (show Kd.FK (Kd.slice 3 (Kd.int .i64)) _ _ y477 [.slice Ao62 y477.length co62] from (Kd.FK_slice_mk (Kd.R_reads' (Kd.R_mono (ok' := (fun k_ => some k_ ≠ (.slice Ao26 y441.length co26 : Value).ownBlock ∧ some k_ ≠ (.slice Ao39 y453.length co39 : Value).ownBlock ∧ some k_ ≠ (.slice Ao42 t456.length co42 : Value).ownBlock ∧ some k_ ≠ (.slice Ao50 t463.length co50 : Value).ownBlock ∧ some k_ ≠ (v467 : Value).ownBlock ∧ k_ ≠ gb444 ∧ k_ ≠ gb460 ∧ k_ ≠ gb470)) (Kd.R_types (Kd.R_types (Kd.R_types (Kd.R_apart' (Kd.R_apart' (Kd.R_apart' (Kd.R_apart' (HO479.out) (Kd.N_typed HO443.out) (by decide)) (Kd.N_typed HO455.out) (by decide)) (Kd.N_typed HO458.out) (by decide)) (Kd.N_typed HO465.out) (by decide)) BK444.out (by decide)) BK460.out (by decide)) BK470.out (by decide)) (fun k_ hk => ⟨hk.1.1.1.1.1.1.2, ⟨hk.1.1.1.1.1.2, ⟨hk.1.1.1.1.2, ⟨hk.1.1.1.2, ⟨hk.1.1.1.1.1.1.1.1.1.2, ⟨hk.1.1.2, ⟨hk.1.2, hk.2⟩⟩⟩⟩⟩⟩⟩))).2.1 (Kd.R_F (Kd.R_mono (ok' := (fun k_ => some k_ ≠ (.slice Ao26 y441.length co26 : Value).ownBlock ∧ some k_ ≠ (.slice Ao39 y453.length co39 : Value).ownBlock ∧ some k_ ≠ (.slice Ao42 t456.length co42 : Value).ownBlock ∧ some k_ ≠ (.slice Ao50 t463.length co50 : Value).ownBlock ∧ some k_ ≠ (v467 : Value).ownBlock ∧ k_ ≠ gb444 ∧ k_ ≠ gb460 ∧ k_ ≠ gb470)) (Kd.R_types (Kd.R_types (Kd.R_types (Kd.R_apart' (Kd.R_apart' (Kd.R_apart' (Kd.R_apart' (HO479.out) (Kd.N_typed HO443.out) (by decide)) (Kd.N_typed HO455.out) (by decide)) (Kd.N_typed HO458.out) (by decide)) (Kd.N_typed HO465.out) (by decide)) BK444.out (by decide)) BK460.out (by decide)) BK470.out (by decide)) (fun k_ hk => ⟨hk.1.1.1.1.1.1.2, ⟨hk.1.1.1.1.1.2, ⟨hk.1.1.1.1.2, ⟨hk.1.1.1.2, ⟨hk.1.1.1.1.1.1.1.1.1.2, ⟨hk.1.1.2, ⟨hk.1.2, hk.2⟩⟩⟩⟩⟩⟩⟩))))) (Reps.none _ _))))); intro v481 w63 ho64 hb hg_ hnew_; clear hg_ hnew_; (first | rw [← Ny480.out] at ho64 | (simp only [Int.reduceToNat] at ho64; rw [← Ny480.out] at ho64)); have n0_ := am (Kd.N_elder' (kN HO443.out) (by first | exact Kd.N_base ho64 | exact Kd.S_base ho64 | exact Kd.R_base ho64) hb); have n1_ := am (Kd.N_elder' (kN HO455.out) (by first | exact Kd.N_base ho64 | exact Kd.S_base ho64 | exact Kd.R_base ho64) hb); have n2_ := am (Kd.N_elder' (kN HO458.out) (by first | exact Kd.N_base ho64 | exact Kd.S_base ho64 | exact Kd.R_base ho64) hb); have n3_ := am (Kd.N_elder' (kN HO465.out) (by first | exact Kd.N_base ho64 | exact Kd.S_base ho64 | exact Kd.R_base ho64) hb); have n4_ := am (Kd.R_below (kR HO468.out) hb); have n5_ := am (Kd.N_lower ho64 (below_size (bs HB.out))); have n6_ := am (blk_below (g := gb444) (o := .cells #[.slice Ao26 y441.length co26] 24 (0, 0)) (kb BK444.out) hb); have n7_ := am (blk_below (g := gb460) (o := .cells #[.slice Ao42 t456.length co42] 24 (0, 0)) (kb BK460.out) hb); have n8_ := am (blk_below (g := gb470) (o := .cells #[.slice Ao50 t463.length co50] 24 (0, 0)) (kb BK470.out) hb); have n9_ := am (below_step (bs HB.out) hb); clear HO443; clear HO455; clear HO458; clear HO465; clear HO468; clear BK444; clear BK460; clear BK470; clear HB; clear HO473; clear HO476; clear HO479; have HO443 := n0_; have HO455 := n1_; have HO458 := n2_; have HO465 := n3_; have HO468 := n4_; have HO482 := n5_; have BK444 := n6_; have BK460 := n7_; have BK470 := n8_; have HB := n9_; clear n0_ n1_ n2_ n3_ n4_ n5_ n6_ n7_ n8_ n9_; clear hb ho64; obtain ⟨Ao65, co65, eo65⟩ := Kd.N_slice HO482.out; subst eo65) | ((with_reducible refine gate_callee (f := 49) rfl ?_); refine goesL_ (some 49) rfl rfl Try.func49 (by kernel_rfl) rfl #[.agg #[.slice Ao65 y480.length co65]] rfl zz1 ?_; (with_reducible refine (color_Road.calls k _ _ y480 t483 t486 t489 _ ?side1 ?side2 A5.out).mono ?_); (case side1 => repeat (first | exact (Kd.N_reads' HO482.out).2.2 | (with_reducible refine Kd.C_alloc ?_ _) | (with_reducible refine Kd.C_drewN ?_ _) | (with_reducible refine Kd.C_drew ?_))); (case side2 => exact (Kd.N_reads' HO482.out).2.1); rintro e w66 ⟨v484, v487, rfl, ho0, ho1, hb⟩; refine ⟨_, rfl, ?_⟩; have HO485 := am (Kd.N_lower (Kd.N_mono (ok' := fun k_ => some k_ ≠ (v487 : Value).ownBlock ∧ some k_ ≠ (.slice Ao26 y441.length co26 : Value).ownBlock ∧ some k_ ≠ (.slice Ao39 y453.length co39 : Value).ownBlock ∧ some k_ ≠ (.slice Ao42 t456.length co42 : Value).ownBlock ∧ some k_ ≠ (.slice Ao50 t463.length co50 : Value).ownBlock ∧ some k_ ≠ (v467 : Value).ownBlock ∧ some k_ ≠ (.slice Ao65 y480.length co65 : Value).ownBlock ∧ k_ ≠ gb444 ∧ k_ ≠ gb460 ∧ k_ ≠ gb470) (Kd.S_N (Kd.S_bound ho0)) (fun k_ hk_ => ⟨hk_.1, (Kd.fresh' (Kd.N_lt (kN HO443.out)) k_ hk_.2.1), (Kd.fresh' (Kd.N_lt (kN HO455.out)) k_ hk_.2.1), (Kd.fresh' (Kd.N_lt (kN HO458.out)) k_ hk_.2.1), (Kd.fresh' (Kd.N_lt (kN HO465.out)) k_ hk_.2.1), (Kd.fresh' (Kd.R_lt (kR HO468.out)) k_ hk_.2.1), (Kd.fresh' (Kd.N_lt (kN HO482.out)) k_ hk_.2.1), (Kd.freshB (g := gb444) (o := .cells #[.slice Ao26 y441.length co26] 24 (0, 0)) (kb BK444.out) k_ hk_.2.1), (Kd.freshB (g := gb460) (o := .cells #[.slice Ao42 t456.length co42] 24 (0, 0)) (kb BK460.out) k_ hk_.2.1), (Kd.freshB (g := gb470) (o := .cells #[.slice Ao50 t463.length co50] 24 (0, 0)) (kb BK470.out) k_ hk_.2.1)⟩)) (below_size (bs HB.out))); replace HO443 := am (Kd.N_mono (Kd.N_told (Kd.N_told (Kd.N_old (kN HO443.out) hb) (by first | exact Kd.N_base ho0 | exact Kd.S_base ho0 | exact Kd.R_base ho0)) (Kd.R_base ho1)) (fun _ h_ => h_.1)); replace HO455 := am (Kd.N_mono (Kd.N_told (Kd.N_told (Kd.N_old (kN HO455.out) hb) (by first | exact Kd.N_base ho0 | exact Kd.S_base ho0 | exact Kd.R_base ho0)) (Kd.R_base ho1)) (fun _ h_ => h_.1)); replace HO458 := am (Kd.N_mono (Kd.N_told (Kd.N_told (Kd.N_old (kN HO458.out) hb) (by first | exact Kd.N_base ho0 | exact Kd.S_base ho0 | exact Kd.R_base ho0)) (Kd.R_base ho1)) (fun _ h_ => h_.1)); replace HO465 := am (Kd.N_mono (Kd.N_told (Kd.N_told (Kd.N_old (kN HO465.out) hb) (by first | exact Kd.N_base ho0 | exact Kd.S_base ho0 | exact Kd.R_base ho0)) (Kd.R_base ho1)) (fun _ h_ => h_.1)); replace HO482 := am (Kd.N_mono (Kd.N_told (Kd.N_told (Kd.N_old (kN HO482.out) hb) (by first | exact Kd.N_base ho0 | exact Kd.S_base ho0 | exact Kd.R_base ho0)) (Kd.R_base ho1)) (fun _ h_ => h_.1)); have HO488 := am (Kd.R_lower (Kd.R_new' ho1 (Kd.R_lt (kR HO468.out))) (below_size (bs HB.out))); replace HO468 := am (Kd.R_elder' (kR HO468.out) (Kd.R_base ho1) hb); replace BK444 := am (blk_below (g := gb444) (o := .cells #[.slice Ao26 y441.length co26] 24 (0, 0)) (kb BK444.out) hb); replace BK460 := am (blk_below (g := gb460) (o := .cells #[.slice Ao42 t456.length co42] 24 (0, 0)) (kb BK460.out) hb); replace BK470 := am (blk_below (g := gb470) (o := .cells #[.slice Ao50 t463.length co50] 24 (0, 0)) (kb BK470.out) hb); replace HB := am (below_step (bs HB.out) hb); (try clear hb); (try clear hb2); (try clear hk); (try clear hi); (try clear ho0); (try clear ho1)) | ((with_reducible refine gate_dst (N := 11) rfl ?_); (try (refine gate_guard (by rfl) ?_; dsimp only)); refine box_event zz5 (N := 11) zz5 (cs := #[.slice none 0 0]) (t := 24) zz6 ?_; intro gb490 hg w67 hbox hb; replace HO443 := am (Kd.N_below (Kd.N_elderB (kN HO443.out) gb490 (Nat.le_of_eq hg.symm)) hb); replace HO455 := am (Kd.N_below (Kd.N_elderB (kN HO455.out) gb490 (Nat.le_of_eq hg.symm)) hb); replace HO458 := am (Kd.N_below (Kd.N_elderB (kN HO458.out) gb490 (Nat.le_of_eq hg.symm)) hb); replace HO465 := am (Kd.N_below (Kd.N_elderB (kN HO465.out) gb490 (Nat.le_of_eq hg.symm)) hb); replace HO468 := am (Kd.R_below (kR HO468.out) hb); replace HO482 := am (Kd.N_below (Kd.N_elderB (kN HO482.out) gb490 (Nat.le_of_eq hg.symm)) hb); replace HO485 := am (Kd.N_below (Kd.N_elderB (kN HO485.out) gb490 (Nat.le_of_eq hg.symm)) hb); replace HO488 := am (Kd.R_below (kR HO488.out) hb); have BK490 := am (hbox); have GW490 := am ((by rw [hg]; exact (below_size (bs HB.out)) : w.heap.size ≤ gb490)); have GE490 := am ((by rw [hg]; exact (below_size (bs HB.out)) : w.heap.size ≤ gb490)); replace HB := am (below_step (bs HB.out) hb); have NB444_490 := am ((by rw [hg]; exact Nat.ne_of_lt (blk_lt (g := gb444) (o := .cells #[.slice Ao26 y441.length co26] 24 (0, 0)) (kb BK444.out)) : gb444 ≠ gb490)); have NB490_444 := am ((by rw [hg]; exact Nat.ne_of_gt (blk_lt (g := gb444) (o := .cells #[.slice Ao26 y441.length co26] 24 (0, 0)) (kb BK444.out)) : gb490 ≠ gb444)); replace BK444 := am (blk_below (g := gb444) (o := .cells #[.slice Ao26 y441.length co26] 24 (0, 0)) (kb BK444.out) hb); have NB460_490 := am ((by rw [hg]; exact Nat.ne_of_lt (blk_lt (g := gb460) (o := .cells #[.slice Ao42 t456.length co42] 24 (0, 0)) (kb BK460.out)) : gb460 ≠ gb490)); have NB490_460 := am ((by rw [hg]; exact Nat.ne_of_gt (blk_lt (g := gb460) (o := .cells #[.slice Ao42 t456.length co42] 24 (0, 0)) (kb BK460.out)) : gb490 ≠ gb460)); replace BK460 := am (blk_below (g := gb460) (o := .cells #[.slice Ao42 t456.length co42] 24 (0, 0)) (kb BK460.out) hb); have NB470_490 := am ((by rw [hg]; exact Nat.ne_of_lt (blk_lt (g := gb470) (o := .cells #[.slice Ao50 t463.length co50] 24 (0, 0)) (kb BK470.out)) : gb470 ≠ gb490)); have NB490_470 := am ((by rw [hg]; exact Nat.ne_of_gt (blk_lt (g := gb470) (o := .cells #[.slice Ao50 t463.length co50] 24 (0, 0)) (kb BK470.out)) : gb490 ≠ gb470)); replace BK470 := am (blk_below (g := gb470) (o := .cells #[.slice Ao50 t463.length co50] 24 (0, 0)) (kb BK470.out) hb); clear hb hbox hg; obtain ⟨Ao68, co68, eo68⟩ := Kd.N_slice HO485.out; subst eo68; have hnb69 := NB490_444.out; have hnc69 := NB444_490.out; have hnb70 := NB490_460.out; have hnc70 := NB460_490.out; have hnb71 := NB490_470.out; have hnc71 := NB470_490.out; have hcz72_0 : w67.cell? ⟨gb490, 0, none⟩ = some (.slice none 0 0) := (blk_cell BK490.out 0).trans rfl; have hfz72_0 := blk_frozen BK490.out 0; have hcz73_0 : w67.cell? ⟨gb460, 0, none⟩ = some (.slice Ao42 t456.length co42) := (blk_cell BK460.out 0).trans rfl; have hfz73_0 := blk_frozen BK460.out 0) | ((with_reducible refine gate_dst (N := 66) rfl ?_); (try (refine gate_guard (by rfl) ?_; dsimp only)); refine Kd.R_lit (Kd.int .i64) _ 3 zz5 (N := 66) zz5 (xs := ([1, 0] : List Int)) (inner := [.int .i64 1, .int .i64 0]) (ok := fun _ => True) (okp := fun _ => True) zz6 ?hp (fun _ hk => hk) trivial (Below.refl _ _) (Nat.le_refl _) (by simp) ?_; (case hp => exact (Reps.one (show Kd.M (Kd.int .i64) _ _ _ 1 [.int .i64 1] from rfl) (Reps.one (show Kd.M (Kd.int .i64) _ _ _ 0 [.int .i64 0] from rfl) (Reps.none _ _)))); intro v492 w74 ho75 hb hg_ hnew_; clear hg_ hnew_; (first | rw [← Ny491.out] at ho75 | (simp only [Int.reduceToNat] at ho75; rw [← Ny491.out] at ho75)); replace HO443 := am (Kd.N_elder' (kN (Kd.N_mono (Kd.N_far (p := ⟨gb490, 0, none⟩) (Kd.N_mono HO443.out (fun k_ hk => (⟨hk, hk.2⟩ : _ ∧ k_ ≠ gb490))) (fun _ hk => hk.2) (.slice Ao68 t483.length co68)) (fun _ h_ => h_.1))) (Kd.R_base ho75) hb); replace HO455 := am (Kd.N_elder' (kN (Kd.N_mono (Kd.N_far (p := ⟨gb490, 0, none⟩) (Kd.N_mono HO455.out (fun k_ hk => (⟨hk, hk.2⟩ : _ ∧ k_ ≠ gb490))) (fun _ hk => hk.2) (.slice Ao68 t483.length co68)) (fun _ h_ => h_.1))) (Kd.R_base ho75) hb); replace HO458 := am (Kd.N_elder' (kN (Kd.N_mono (Kd.N_far (p := ⟨gb490, 0, none⟩) (Kd.N_mono HO458.out (fun k_ hk => (⟨hk, hk.2⟩ : _ ∧ k_ ≠ gb490))) (fun _ hk => hk.2) (.slice Ao68 t483.length co68)) (fun _ h_ => h_.1))) (Kd.R_base ho75) hb); replace HO465 := am (Kd.N_elder' (kN (Kd.N_mono (Kd.N_far (p := ⟨gb490, 0, none⟩) (Kd.N_mono HO465.out (fun k_ hk => (⟨hk, hk.2⟩ : _ ∧ k_ ≠ gb490))) (fun _ hk => hk.2) (.slice Ao68 t483.length co68)) (fun _ h_ => h_.1))) (Kd.R_base ho75) hb); replace HO482 := am (Kd.N_elder' (kN (Kd.N_mono (Kd.N_far (p := ⟨gb490, 0, none⟩) (Kd.N_mono HO482.out (fun k_ hk => (⟨hk, hk.2⟩ : _ ∧ k_ ≠ gb490))) (fun _ hk => hk.2) (.slice Ao68 t483.length co68)) (fun _ h_ => h_.1))) (Kd.R_base ho75) hb); replace HO485 := am (Kd.N_elder' (kN (Kd.N_mono (Kd.N_far (p := ⟨gb490, 0, none⟩) (Kd.N_mono HO485.out (fun k_ hk => (⟨hk, hk.2⟩ : _ ∧ k_ ≠ gb490))) (fun _ hk => hk.2) (.slice Ao68 t483.length co68)) (fun _ h_ => h_.1))) (Kd.R_base ho75) hb); have HO493 := am (Kd.R_lower (Kd.R_new' (Kd.R_new' ho75 (Kd.R_lt (kR (Kd.R_mono (Kd.R_far (p := ⟨gb490, 0, none⟩) (Kd.R_types HO468.out BK490.out (by decide)) (fun _ hk => hk.2) (.slice Ao68 t483.length co68)) (fun _ h_ => h_.1))))) (Kd.R_lt (kR (Kd.R_mono (Kd.R_far (p := ⟨gb490, 0, none⟩) (Kd.R_types HO488.out BK490.out (by decide)) (fun _ hk => hk.2) (.slice Ao68 t483.length co68)) (fun _ h_ => h_.1))))) (below_size (bs HB.out))); replace HO468 := am (Kd.R_elder' (kR (Kd.R_mono (Kd.R_far (p := ⟨gb490, 0, none⟩) (Kd.R_types HO468.out BK490.out (by decide)) (fun _ hk => hk.2) (.slice Ao68 t483.length co68)) (fun _ h_ => h_.1))) (Kd.R_base ho75) hb); replace HO488 := am (Kd.R_elder' (kR (Kd.R_mono (Kd.R_far (p := ⟨gb490, 0, none⟩) (Kd.R_types HO488.out BK490.out (by decide)) (fun _ hk => hk.2) (.slice Ao68 t483.length co68)) (fun _ h_ => h_.1))) (Kd.R_base ho75) hb); replace BK444 := am (blk_below (g := gb444) (o := .cells #[.slice Ao26 y441.length co26] 24 (0, 0)) (by (with_reducible repeat (first | refine blk_drewN ?_ _ | refine blk_drew ?_ | refine blk_alloc ?_ _)); refine blk_far ?_ NB444_490.out _; (with_reducible repeat (first | refine blk_drewN ?_ _ | refine blk_drew ?_ | refine blk_alloc ?_ _)); exact BK444.out) hb); replace BK460 := am (blk_below (g := gb460) (o := .cells #[.slice Ao42 t456.length co42] 24 (0, 0)) (by (with_reducible repeat (first | refine blk_drewN ?_ _ | refine blk_drew ?_ | refine blk_alloc ?_ _)); refine blk_far ?_ NB460_490.out _; (with_reducible repeat (first | refine blk_drewN ?_ _ | refine blk_drew ?_ | refine blk_alloc ?_ _)); exact BK460.out) hb); replace BK470 := am (blk_below (g := gb470) (o := .cells #[.slice Ao50 t463.length co50] 24 (0, 0)) (by (with_reducible repeat (first | refine blk_drewN ?_ _ | refine blk_drew ?_ | refine blk_alloc ?_ _)); refine blk_far ?_ NB470_490.out _; (with_reducible repeat (first | refine blk_drewN ?_ _ | refine blk_drew ?_ | refine blk_alloc ?_ _)); exact BK470.out) hb); replace BK490 := am (blk_below (g := gb490) (o := .cells #[.slice Ao68 t483.length co68] 24 (0, 0)) (by (with_reducible repeat (first | refine blk_drewN ?_ _ | refine blk_drew ?_ | refine blk_alloc ?_ _)); refine blk_put (cs := #[.slice none 0 0]) ?_ 0 _ rfl; (with_reducible repeat (first | refine blk_drewN ?_ _ | refine blk_drew ?_ | refine blk_alloc ?_ _)); exact BK490.out) hb); replace HB := am (below_step (bs HB.out) hb); clear hb ho75) | ((with_reducible refine gate_dst (N := 67) rfl ?_); (try (refine gate_guard (by rfl) ?_; dsimp only)); refine Kd.R_lit (Kd.int .i64) _ 3 zz5 (N := 67) zz5 (xs := ([1, 0] : List Int)) (inner := [.int .i64 1, .int .i64 0]) (ok := fun _ => True) (okp := fun _ => True) zz6 ?hp (fun _ hk => hk) trivial (Below.refl _ _) (Nat.le_refl _) (by simp) ?_; (case hp => exact (Reps.one (show Kd.M (Kd.int .i64) _ _ _ 1 [.int .i64 1] from rfl) (Reps.one (show Kd.M (Kd.int .i64) _ _ _ 0 [.int .i64 0] from rfl) (Reps.none _ _)))); intro v495 w76 ho77 hb hg_ hnew_; clear hg_ hnew_; (first | rw [← Ny494.out] at ho77 | (simp only [Int.reduceToNat] at ho77; rw [← Ny494.out] at ho77)); replace HO443 := am (Kd.N_elder' (kN HO443.out) (Kd.R_base ho77) hb); replace HO455 := am (Kd.N_elder' (kN HO455.out) (Kd.R_base ho77) hb); replace HO458 := am (Kd.N_elder' (kN HO458.out) (Kd.R_base ho77) hb); replace HO465 := am (Kd.N_elder' (kN HO465.out) (Kd.R_base ho77) hb); replace HO482 := am (Kd.N_elder' (kN HO482.out) (Kd.R_base ho77) hb); replace HO485 := am (Kd.N_elder' (kN HO485.out) (Kd.R_base ho77) hb); have HO496 := am (Kd.R_lower (Kd.R_new' (Kd.R_new' (Kd.R_new' ho77 (Kd.R_lt (kR HO468.out))) (Kd.R_lt (kR HO488.out))) (Kd.R_lt (kR HO493.out))) (below_size (bs HB.out))); replace HO468 := am (Kd.R_elder' (kR HO468.out) (Kd.R_base ho77) hb); replace HO488 := am (Kd.R_elder' (kR HO488.out) (Kd.R_base ho77) hb); replace HO493 := am (Kd.R_elder' (kR HO493.out) (Kd.R_base ho77) hb); replace BK444 := am (blk_below (g := gb444) (o := .cells #[.slice Ao26 y441.length co26] 24 (0, 0)) (kb BK444.out) hb); replace BK460 := am (blk_below (g := gb460) (o := .cells #[.slice Ao42 t456.length co42] 24 (0, 0)) (kb BK460.out) hb); replace BK470 := am (blk_below (g := gb470) (o := .cells #[.slice Ao50 t463.length co50] 24 (0, 0)) (kb BK470.out) hb); replace BK490 := am (blk_below (g := gb490) (o := .cells #[.slice Ao68 t483.length co68] 24 (0, 0)) (kb BK490.out) hb); replace HB := am (below_step (bs HB.out) hb); clear hb ho77; obtain ⟨Ao78, co78, eo78⟩ := Kd.R_slice HO493.out; subst eo78; obtain ⟨Ao79, co79, eo79⟩ := Kd.R_slice HO496.out; subst eo79) | ((with_reducible refine gate_dst (N := 68) rfl ?_); (try (refine gate_guard (by rfl) ?_; dsimp only)); refine Kd.N_lit (Kd.slice 3 (Kd.int .i64)) _ 28 zz5 (N' := 68) zz5 (xs := ([y491, y494] : List (List Int))) (inner := [.slice Ao78 y491.length co78, .slice Ao79 y494.length co79]) (ok := (fun k_ => some k_ ≠ (.slice Ao26 y441.length co26 : Value).ownBlock ∧ some k_ ≠ (.slice Ao39 y453.length co39 : Value).ownBlock ∧ some k_ ≠ (.slice Ao42 t456.length co42 : Value).ownBlock ∧ some k_ ≠ (.slice Ao50 t463.length co50 : Value).ownBlock ∧ some k_ ≠ (v467 : Value).ownBlock ∧ some k_ ≠ (.slice Ao65 y480.length co65 : Value).ownBlock ∧ some k_ ≠ (.slice Ao68 t483.length co68 : Value).ownBlock ∧ some k_ ≠ (v487 : Value).ownBlock ∧ k_ ≠ gb444 ∧ k_ ≠ gb460 ∧ k_ ≠ gb470 ∧ k_ ≠ gb490)) (okp := (fun k_ => some k_ ≠ (.slice Ao26 y441.length co26 : Value).ownBlock ∧ some k_ ≠ (.slice Ao39 y453.length co39 : Value).ownBlock ∧ some k_ ≠ (.slice Ao42 t456.length co42 : Value).ownBlock ∧ some k_ ≠ (.slice Ao50 t463.length co50 : Value).ownBlock ∧ some k_ ≠ (v467 : Value).ownBlock ∧ some k_ ≠ (.slice Ao65 y480.length co65 : Value).ownBlock ∧ some k_ ≠ (.slice Ao68 t483.length co68 : Value).ownBlock ∧ some k_ ≠ (v487 : Value).ownBlock ∧ k_ ≠ gb444 ∧ k_ ≠ gb460 ∧ k_ ≠ gb470 ∧ k_ ≠ gb490)) zz6 ?hp (fun _ hk => hk) ((show ∀ k_, w76.heap.size ≤ k_ → (fun k_ => some k_ ≠ (.slice Ao26 y441.length co26 : Value).ownBlock ∧ some k_ ≠ (.slice Ao39 y453.length co39 : Value).ownBlock ∧ some k_ ≠ (.slice Ao42 t456.length co42 : Value).ownBlock ∧ some k_ ≠ (.slice Ao50 t463.length co50 : Value).ownBlock ∧ some k_ ≠ (v467 : Value).ownBlock ∧ some k_ ≠ (.slice Ao65 y480.length co65 : Value).ownBlock ∧ some k_ ≠ (.slice Ao68 t483.length co68 : Value).ownBlock ∧ some k_ ≠ (v487 : Value).ownBlock ∧ k_ ≠ gb444 ∧ k_ ≠ gb460 ∧ k_ ≠ gb470 ∧ k_ ≠ gb490) k_ from fun k_ hk => ⟨Kd.fresh' (Kd.N_lt (kN HO443.out)) k_ hk, Kd.fresh' (Kd.N_lt (kN HO455.out)) k_ hk, Kd.fresh' (Kd.N_lt (kN HO458.out)) k_ hk, Kd.fresh' (Kd.N_lt (kN HO465.out)) k_ hk, Kd.fresh' (Kd.R_lt (kR HO468.out)) k_ hk, Kd.fresh' (Kd.N_lt (kN HO482.out)) k_ hk, Kd.fresh' (Kd.N_lt (kN HO485.out)) k_ hk, Kd.fresh' (Kd.R_lt (kR HO488.out)) k_ hk, Kd.freshB (g := gb444) (o := .cells #[.slice Ao26 y441.length co26] 24 (0, 0)) (kb BK444.out) k_ hk, Kd.freshB (g := gb460) (o := .cells #[.slice Ao42 t456.length co42] 24 (0, 0)) (kb BK460.out) k_ hk, Kd.freshB (g := gb470) (o := .cells #[.slice Ao50 t463.length co50] 24 (0, 0)) (kb BK470.out) k_ hk, Kd.freshB (g := gb490) (o := .cells #[.slice Ao68 t483.length co68] 24 (0, 0)) (kb BK490.out) k_ hk⟩) _ (Nat.le_refl _)) (Below.refl _ _) (Nat.le_refl _) (by simp) ?_; (case hp => exact (Reps.one (show Kd.FK (Kd.slice 3 (Kd.int .i64)) _ _ y491 [.slice Ao78 y491.length co78] from (Kd.FK_slice_mk (Kd.R_reads' (Kd.R_mono (ok' := (fun k_ => some k_ ≠ (.slice Ao26 y441.length co26 : Value).ownBlock ∧ some k_ ≠ (.slice Ao39 y453.length co39 : Value).ownBlock ∧ some k_ ≠ (.slice Ao42 t456.length co42 : Value).ownBlock ∧ some k_ ≠ (.slice Ao50 t463.length co50 : Value).ownBlock ∧ some k_ ≠ (v467 : Value).ownBlock ∧ some k_ ≠ (.slice Ao65 y480.length co65 : Value).ownBlock ∧ some k_ ≠ (.slice Ao68 t483.length co68 : Value).ownBlock ∧ some k_ ≠ (v487 : Value).ownBlock ∧ k_ ≠ gb444 ∧ k_ ≠ gb460 ∧ k_ ≠ gb470 ∧ k_ ≠ gb490)) (Kd.R_types (Kd.R_types (Kd.R_types (Kd.R_types (Kd.R_apart' (Kd.R_apart' (Kd.R_apart' (Kd.R_apart' (Kd.R_apart' (Kd.R_apart' (HO493.out) (Kd.N_typed HO443.out) (by decide)) (Kd.N_typed HO455.out) (by decide)) (Kd.N_typed HO458.out) (by decide)) (Kd.N_typed HO465.out) (by decide)) (Kd.N_typed HO482.out) (by decide)) (Kd.N_typed HO485.out) (by decide)) BK444.out (by decide)) BK460.out (by decide)) BK470.out (by decide)) BK490.out (by decide)) (fun k_ hk => ⟨hk.1.1.1.1.1.1.1.1.1.2, ⟨hk.1.1.1.1.1.1.1.1.2, ⟨hk.1.1.1.1.1.1.1.2, ⟨hk.1.1.1.1.1.1.2, ⟨hk.1.1.1.1.1.1.1.1.1.1.1.1.2, ⟨hk.1.1.1.1.1.2, ⟨hk.1.1.1.1.2, ⟨hk.1.1.1.1.1.1.1.1.1.1.1.2, ⟨hk.1.1.1.2, ⟨hk.1.1.2, ⟨hk.1.2, hk.2⟩⟩⟩⟩⟩⟩⟩⟩⟩⟩⟩))).2.1 (Kd.R_F (Kd.R_mono (ok' := (fun k_ => some k_ ≠ (.slice Ao26 y441.length co26 : Value).ownBlock ∧ some k_ ≠ (.slice Ao39 y453.length co39 : Value).ownBlock ∧ some k_ ≠ (.slice Ao42 t456.length co42 : Value).ownBlock ∧ some k_ ≠ (.slice Ao50 t463.length co50 : Value).ownBlock ∧ some k_ ≠ (v467 : Value).ownBlock ∧ some k_ ≠ (.slice Ao65 y480.length co65 : Value).ownBlock ∧ some k_ ≠ (.slice Ao68 t483.length co68 : Value).ownBlock ∧ some k_ ≠ (v487 : Value).ownBlock ∧ k_ ≠ gb444 ∧ k_ ≠ gb460 ∧ k_ ≠ gb470 ∧ k_ ≠ gb490)) (Kd.R_types (Kd.R_types (Kd.R_types (Kd.R_types (Kd.R_apart' (Kd.R_apart' (Kd.R_apart' (Kd.R_apart' (Kd.R_apart' (Kd.R_apart' (HO493.out) (Kd.N_typed HO443.out) (by decide)) (Kd.N_typed HO455.out) (by decide)) (Kd.N_typed HO458.out) (by decide)) (Kd.N_typed HO465.out) (by decide)) (Kd.N_typed HO482.out) (by decide)) (Kd.N_typed HO485.out) (by decide)) BK444.out (by decide)) BK460.out (by decide)) BK470.out (by decide)) BK490.out (by decide)) (fun k_ hk => ⟨hk.1.1.1.1.1.1.1.1.1.2, ⟨hk.1.1.1.1.1.1.1.1.2, ⟨hk.1.1.1.1.1.1.1.2, ⟨hk.1.1.1.1.1.1.2, ⟨hk.1.1.1.1.1.1.1.1.1.1.1.1.2, ⟨hk.1.1.1.1.1.2, ⟨hk.1.1.1.1.2, ⟨hk.1.1.1.1.1.1.1.1.1.1.1.2, ⟨hk.1.1.1.2, ⟨hk.1.1.2, ⟨hk.1.2, hk.2⟩⟩⟩⟩⟩⟩⟩⟩⟩⟩⟩))))) (Reps.one (show Kd.FK (Kd.slice 3 (Kd.int .i64)) _ _ y494 [.slice Ao79 y494.length co79] from (Kd.FK_slice_mk (Kd.R_reads' (Kd.R_mono (ok' := (fun k_ => some k_ ≠ (.slice Ao26 y441.length co26 : Value).ownBlock ∧ some k_ ≠ (.slice Ao39 y453.length co39 : Value).ownBlock ∧ some k_ ≠ (.slice Ao42 t456.length co42 : Value).ownBlock ∧ some k_ ≠ (.slice Ao50 t463.length co50 : Value).ownBlock ∧ some k_ ≠ (v467 : Value).ownBlock ∧ some k_ ≠ (.slice Ao65 y480.length co65 : Value).ownBlock ∧ some k_ ≠ (.slice Ao68 t483.length co68 : Value).ownBlock ∧ some k_ ≠ (v487 : Value).ownBlock ∧ k_ ≠ gb444 ∧ k_ ≠ gb460 ∧ k_ ≠ gb470 ∧ k_ ≠ gb490)) (Kd.R_types (Kd.R_types (Kd.R_types (Kd.R_types (Kd.R_apart' (Kd.R_apart' (Kd.R_apart' (Kd.R_apart' (Kd.R_apart' (Kd.R_apart' (HO496.out) (Kd.N_typed HO443.out) (by decide)) (Kd.N_typed HO455.out) (by decide)) (Kd.N_typed HO458.out) (by decide)) (Kd.N_typed HO465.out) (by decide)) (Kd.N_typed HO482.out) (by decide)) (Kd.N_typed HO485.out) (by decide)) BK444.out (by decide)) BK460.out (by decide)) BK470.out (by decide)) BK490.out (by decide)) (fun k_ hk => ⟨hk.1.1.1.1.1.1.1.1.1.2, ⟨hk.1.1.1.1.1.1.1.1.2, ⟨hk.1.1.1.1.1.1.1.2, ⟨hk.1.1.1.1.1.1.2, ⟨hk.1.1.1.1.1.1.1.1.1.1.1.1.2, ⟨hk.1.1.1.1.1.2, ⟨hk.1.1.1.1.2, ⟨hk.1.1.1.1.1.1.1.1.1.1.1.2, ⟨hk.1.1.1.2, ⟨hk.1.1.2, ⟨hk.1.2, hk.2⟩⟩⟩⟩⟩⟩⟩⟩⟩⟩⟩))).2.1 (Kd.R_F (Kd.R_mono (ok' := (fun k_ => some k_ ≠ (.slice Ao26 y441.length co26 : Value).ownBlock ∧ some k_ ≠ (.slice Ao39 y453.length co39 : Value).ownBlock ∧ some k_ ≠ (.slice Ao42 t456.length co42 : Value).ownBlock ∧ some k_ ≠ (.slice Ao50 t463.length co50 : Value).ownBlock ∧ some k_ ≠ (v467 : Value).ownBlock ∧ some k_ ≠ (.slice Ao65 y480.length co65 : Value).ownBlock ∧ some k_ ≠ (.slice Ao68 t483.length co68 : Value).ownBlock ∧ some k_ ≠ (v487 : Value).ownBlock ∧ k_ ≠ gb444 ∧ k_ ≠ gb460 ∧ k_ ≠ gb470 ∧ k_ ≠ gb490)) (Kd.R_types (Kd.R_types (Kd.R_types (Kd.R_types (Kd.R_apart' (Kd.R_apart' (Kd.R_apart' (Kd.R_apart' (Kd.R_apart' (Kd.R_apart' (HO496.out) (Kd.N_typed HO443.out) (by decide)) (Kd.N_typed HO455.out) (by decide)) (Kd.N_typed HO458.out) (by decide)) (Kd.N_typed HO465.out) (by decide)) (Kd.N_typed HO482.out) (by decide)) (Kd.N_typed HO485.out) (by decide)) BK444.out (by decide)) BK460.out (by decide)) BK470.out (by decide)) BK490.out (by decide)) (fun k_ hk => ⟨hk.1.1.1.1.1.1.1.1.1.2, ⟨hk.1.1.1.1.1.1.1.1.2, ⟨hk.1.1.1.1.1.1.1.2, ⟨hk.1.1.1.1.1.1.2, ⟨hk.1.1.1.1.1.1.1.1.1.1.1.1.2, ⟨hk.1.1.1.1.1.2, ⟨hk.1.1.1.1.2, ⟨hk.1.1.1.1.1.1.1.1.1.1.1.2, ⟨hk.1.1.1.2, ⟨hk.1.1.2, ⟨hk.1.2, hk.2⟩⟩⟩⟩⟩⟩⟩⟩⟩⟩⟩))))) (Reps.none _ _)))); intro v498 w80 ho81 hb hg_ hnew_; clear hg_ hnew_; (first | rw [← Ny497.out] at ho81 | (simp only [Int.reduceToNat] at ho81; rw [← Ny497.out] at ho81)); have n0_ := am (Kd.N_elder' (kN HO443.out) (by first | exact Kd.N_base ho81 | exact Kd.S_base ho81 | exact Kd.R_base ho81) hb); have n1_ := am (Kd.N_elder' (kN HO455.out) (by first | exact Kd.N_base ho81 | exact Kd.S_base ho81 | exact Kd.R_base ho81) hb); have n2_ := am (Kd.N_elder' (kN HO458.out) (by first | exact Kd.N_base ho81 | exact Kd.S_base ho81 | exact Kd.R_base ho81) hb); have n3_ := am (Kd.N_elder' (kN HO465.out) (by first | exact Kd.N_base ho81 | exact Kd.S_base ho81 | exact Kd.R_base ho81) hb); have n4_ := am (Kd.R_below (kR HO468.out) hb); have n5_ := am (Kd.N_elder' (kN HO482.out) (by first | exact Kd.N_base ho81 | exact Kd.S_base ho81 | exact Kd.R_base ho81) hb); have n6_ := am (Kd.N_elder' (kN HO485.out) (by first | exact Kd.N_base ho81 | exact Kd.S_base ho81 | exact Kd.R_base ho81) hb); have n7_ := am (Kd.R_below (kR HO488.out) hb); have n8_ := am (Kd.N_lower ho81 (below_size (bs HB.out))); have n9_ := am (blk_below (g := gb444) (o := .cells #[.slice Ao26 y441.length co26] 24 (0, 0)) (kb BK444.out) hb); have n10_ := am (blk_below (g := gb460) (o := .cells #[.slice Ao42 t456.length co42] 24 (0, 0)) (kb BK460.out) hb); have n11_ := am (blk_below (g := gb470) (o := .cells #[.slice Ao50 t463.length co50] 24 (0, 0)) (kb BK470.out) hb); have n12_ := am (blk_below (g := gb490) (o := .cells #[.slice Ao68 t483.length co68] 24 (0, 0)) (kb BK490.out) hb); have n13_ := am (below_step (bs HB.out) hb); clear HO443; clear HO455; clear HO458; clear HO465; clear HO468; clear HO482; clear HO485; clear HO488; clear BK444; clear BK460; clear BK470; clear BK490; clear HB; clear HO493; clear HO496; have HO443 := n0_; have HO455 := n1_; have HO458 := n2_; have HO465 := n3_; have HO468 := n4_; have HO482 := n5_; have HO485 := n6_; have HO488 := n7_; have HO499 := n8_; have BK444 := n9_; have BK460 := n10_; have BK470 := n11_; have BK490 := n12_; have HB := n13_; clear n0_ n1_ n2_ n3_ n4_ n5_ n6_ n7_ n8_ n9_ n10_ n11_ n12_ n13_; clear hb ho81; obtain ⟨Ao82, co82, eo82⟩ := Kd.N_slice HO499.out; subst eo82) | (go_at_call 27; (with_reducible refine (mizmazeref01_Sames.calls k _ _ t456 _ _ y497 true _ ?side1 ?side2 ?side3 ?side4 A9.out).mono ?_); (case side1 => repeat (first | exact (Kd.N_reads' HO458.out).2.2 | (with_reducible refine Kd.C_alloc ?_ _) | (with_reducible refine Kd.C_drewN ?_ _) | (with_reducible refine Kd.C_drew ?_))); (case side2 => exact (Kd.N_reads' HO458.out).2.1); (case side3 => repeat (first | exact (Kd.N_reads' HO499.out).2.2 | (with_reducible refine Kd.C_alloc ?_ _) | (with_reducible refine Kd.C_drewN ?_ _) | (with_reducible refine Kd.C_drew ?_))); (case side4 => exact (Kd.N_reads' HO499.out).2.1); rintro e w' ⟨rfl, ⟨nd, rfl⟩⟩; have hcz83_0 : w80.cell? ⟨gb470, 0, none⟩ = some (.slice Ao50 t463.length co50) := (blk_cell BK470.out 0).trans rfl; have hfz83_0 := blk_frozen BK470.out 0) | (go_at_call 18; (with_reducible refine (mizmazeref01_Valid.calls k _ _ t463 true _ ?side1 ?side2 A14.out).mono ?_); (case side1 => repeat (first | exact (Kd.N_reads' HO465.out).2.2 | (with_reducible refine Kd.C_alloc ?_ _) | (with_reducible refine Kd.C_drewN ?_ _) | (with_reducible refine Kd.C_drew ?_))); (case side2 => exact (Kd.N_reads' HO465.out).2.1); rintro e w84 ⟨rfl, hb⟩; replace HO443 := am (Kd.N_below (kN HO443.out) hb); replace HO455 := am (Kd.N_below (kN HO455.out) hb); replace HO458 := am (Kd.N_below (kN HO458.out) hb); replace HO465 := am (Kd.N_below (kN HO465.out) hb); replace HO468 := am (Kd.R_below (kR HO468.out) hb); replace HO482 := am (Kd.N_below (kN HO482.out) hb); replace HO485 := am (Kd.N_below (kN HO485.out) hb); replace HO488 := am (Kd.R_below (kR HO488.out) hb); replace HO499 := am (Kd.N_below (kN HO499.out) hb); replace BK444 := am (blk_below (g := gb444) (o := .cells #[.slice Ao26 y441.length co26] 24 (0, 0)) (kb BK444.out) hb); replace BK460 := am (blk_below (g := gb460) (o := .cells #[.slice Ao42 t456.length co42] 24 (0, 0)) (kb BK460.out) hb); replace BK470 := am (blk_below (g := gb470) (o := .cells #[.slice Ao50 t463.length co50] 24 (0, 0)) (kb BK470.out) hb); replace BK490 := am (blk_below (g := gb490) (o := .cells #[.slice Ao68 t483.length co68] 24 (0, 0)) (kb BK490.out) hb); replace HB := am (below_step (bs HB.out) hb); (try clear hb); (try clear hb2); (try clear hk); (try clear hi); have hcz85_0 : w84.cell? ⟨gb470, 0, none⟩ = some (.slice Ao50 t463.length co50) := (blk_cell BK470.out 0).trans rfl; have hfz85_0 := blk_frozen BK470.out 0; obtain ⟨Ao86, co86, eo86⟩ := Kd.R_slice HO468.out; subst eo86) | (go_at_call 50; (with_reducible refine (mizmazeref03_Resets.calls k _ _ t463 _ _ t466 true _ ?side1 ?side2 ?side3 ?side4 A16.out).mono ?_); (case side1 => repeat (first | exact (Kd.N_reads' HO465.out).2.2 | (with_reducible refine Kd.C_alloc ?_ _) | (with_reducible refine Kd.C_drewN ?_ _) | (with_reducible refine Kd.C_drew ?_))); (case side2 => exact (Kd.N_reads' HO465.out).2.1); (case side3 => repeat (first | exact (Kd.R_reads' HO468.out).2.2 | (with_reducible refine Kd.C_alloc ?_ _) | (with_reducible refine Kd.C_drewN ?_ _) | (with_reducible refine Kd.C_drew ?_))); (case side4 => exact (Kd.R_reads' HO468.out).2.1); rintro e w87 ⟨rfl, hb⟩; replace HO443 := am (Kd.N_below (kN HO443.out) hb); replace HO455 := am (Kd.N_below (kN HO455.out) hb); replace HO458 := am (Kd.N_below (kN HO458.out) hb); replace HO465 := am (Kd.N_below (kN HO465.out) hb); replace HO468 := am (Kd.R_below (kR HO468.out) hb); replace HO482 := am (Kd.N_below (kN HO482.out) hb); replace HO485 := am (Kd.N_below (kN HO485.out) hb); replace HO488 := am (Kd.R_below (kR HO488.out) hb); replace HO499 := am (Kd.N_below (kN HO499.out) hb); replace BK444 := am (blk_below (g := gb444) (o := .cells #[.slice Ao26 y441.length co26] 24 (0, 0)) (kb BK444.out) hb); replace BK460 := am (blk_below (g := gb460) (o := .cells #[.slice Ao42 t456.length co42] 24 (0, 0)) (kb BK460.out) hb); replace BK470 := am (blk_below (g := gb470) (o := .cells #[.slice Ao50 t463.length co50] 24 (0, 0)) (kb BK470.out) hb); replace BK490 := am (blk_below (g := gb490) (o := .cells #[.slice Ao68 t483.length co68] 24 (0, 0)) (kb BK490.out) hb); replace HB := am (below_step (bs HB.out) hb); (try clear hb); (try clear hb2); (try clear hk); (try clear hi)))
 go_ret
 exact ⟨by first | rfl | (simp [errW_none, errW_some] <;> rfl) | (simp [*, errW_none, errW_some] <;> rfl), bs HB.out⟩
end Go.Proofs.Ytjgdalhdiohclaa.Q
end
section
namespace Go.Proofs.Ytjgdalhdiohclaa.Q
attribute [local go_sem] max2_int min2_int max_two min_two max_three min_three max_four min_four
def mizmazelaw05_ColorRoads.j0 : Nat → List Int → Int → Bool → List (List Int) → List (List Int) → Option (Bool)
 | 0, _, _, _, _, _ => none
 | k + 1, x4, x5, x6, x590000, x598000 => (mizmazeref01_Valid.f k x590000).bind fun t598 => (if t598 = true then ((mizmazeref02_Connected.f k x590000).bind fun t599 => (if t599 = true then ((mizmazeref02_Period.f k x590000).bind fun t600 => (if t600 > 1 then (if x5 = 4 then (if x6 = true then ((mizmazelaw05_awake.f k).bind fun t601 => (some t601)) else (none)) else (none)) else (if x5 = 3 then ((mizmazeref05_Colorings.f k x590000 1000000).bind fun bt604 => (if x6 = true then (if bt604.2 = true then (none) else ((mizmazelaw05_awake.f k).bind fun t606 => (some t606))) else (none))) else (if x5 = 0 then ((mizmazeref01_Valid.f k x598000).bind fun t607 => (if t607 = true then ((mizmazeref05_Same.f k x590000 x598000).bind fun t608 => (if t608 = true then ((mizmazeref03_Resets.f k x598000 x4).bind fun t609 => (if t609 = true then ((mizmazeref03_Most.f (x590000.length : Int)).bind fun t610 => (if (x4.length : Int) ≤ t610 then ((mizmazelaw05_awake.f k).bind fun t611 => (some t611)) else (none))) else (none))) else (none))) else (none))) else (none))))) else (if x5 = 2 then (if x6 = true then ((mizmazelaw05_awake.f k).bind fun t602 => (some t602)) else (none)) else (none)))) else (if x5 = 1 then (if x6 = true then ((mizmazelaw05_awake.f k).bind fun t603 => (some t603)) else (none)) else (none)))
def mizmazelaw05_ColorRoads.f (k : Nat) (l0_0 : List (List Int)) : Option (Bool) := (color_Road.f k l0_0).bind fun bt590 => (if (bt590.1.length : Int) = 0 then (mizmazelaw05_ColorRoads.j0 k bt590.2.1 bt590.2.2 ((bt590.2.1.length : Int) == 0) l0_0 bt590.1) else (mizmazelaw05_ColorRoads.j0 k bt590.2.1 bt590.2.2 false l0_0 bt590.1))
theorem mizmazelaw05_ColorRoads.calls (k : Nat) (A0_0 : Option Addr) (c0_0 : Nat) (l0_0 : List (List Int)) (r : Bool) (w : World) (hr0_0 : Kd.C (Kd.slice 3 (Kd.int .i64)) w A0_0 l0_0.length l0_0) (hc0_0 : l0_0.length ≤ c0_0) (h : mizmazelaw05_ColorRoads.f k l0_0 = some r) :
    Calls Try.prog 11 #[.agg #[.slice A0_0 l0_0.length c0_0]] w fun e w' => e = .returned (.bool r) ∧ Below w.heap.size w w' := by
 have hu24 := Try.underlying24
 have HR0_0 := am hr0_0
 have HC0_0 := am hc0_0
 clear hr0_0 hc0_0
 have HB := am (Below.refl w.heap.size w)
 have H : ((color_Road.f k l0_0).bind fun bt590 => (if (bt590.1.length : Int) = 0 then (mizmazelaw05_ColorRoads.j0 k bt590.2.1 bt590.2.2 ((bt590.2.1.length : Int) == 0) l0_0 bt590.1) else (mizmazelaw05_ColorRoads.j0 k bt590.2.1 bt590.2.2 false l0_0 bt590.1))) = some r := h
 clear h
 replace H := Option.bind_eq_some_iff.mp H
 obtain ⟨⟨t590, t593, t596⟩, A20, H⟩ := H
 replace H : (if (t590.length : Int) = 0 then (mizmazelaw05_ColorRoads.j0 k t593 t596 ((t593.length : Int) == 0) l0_0 t590) else (mizmazelaw05_ColorRoads.j0 k t593 t596 false l0_0 t590)) = some r := H
 have A2 := am A20
 clear A20
 have HC3 := am H
 clear H
 go_enter Try.func11, Try.ntmps11
 go_upto_region 2 with (first | ((with_reducible refine gate_dst (N := 1) rfl ?_); (try (refine gate_guard (by rfl) ?_; dsimp only)); refine box_event zz5 (N := 1) zz5 (cs := #[.slice A0_0 l0_0.length c0_0]) (t := 24) zz6 ?_; intro gb589 hg w4 hbox hb; have BK589 := am (hbox); have GW589 := am ((by rw [hg]; exact (below_size (bw HB.out)) : w.heap.size ≤ gb589)); have GE589 := am ((by rw [hg]; exact (below_size (bw HB.out)) : w.heap.size ≤ gb589)); replace HB := am (below_step (bw HB.out) hb); clear hb hbox hg; have hcz5_0 : w4.cell? ⟨gb589, 0, none⟩ = some (.slice A0_0 l0_0.length c0_0) := (blk_cell BK589.out 0).trans rfl; have hfz5_0 := blk_frozen BK589.out 0) | ((with_reducible refine gate_callee (f := 49) rfl ?_); refine goesL_ (some 11) rfl rfl Try.func49 (by kernel_rfl) rfl #[.agg #[.slice A0_0 l0_0.length c0_0]] rfl zz1 ?_; (with_reducible refine (color_Road.calls k _ _ l0_0 t590 t593 t596 _ ?side1 ?side2 A2.out).mono ?_); (case side1 => exact kc (Kd.C_below HR0_0.out HB.out)); (case side2 => exact HC0_0.out); rintro e w6 ⟨v591, v594, rfl, ho0, ho1, hb⟩; refine ⟨_, rfl, ?_⟩; have HO592 := am (Kd.S_lower ho0 (below_size (bs HB.out))); have HO595 := am (Kd.R_lower ho1 (below_size (bs HB.out))); replace BK589 := am (blk_below (g := gb589) (o := .cells #[.slice A0_0 l0_0.length c0_0] 24 (0, 0)) (kb BK589.out) hb); replace HB := am (below_step (bs HB.out) hb); (try clear hb); (try clear hb2); (try clear hk); (try clear hi); (try clear ho0); (try clear ho1)) | ((with_reducible refine gate_dst (N := 3) rfl ?_); (try (refine gate_guard (by rfl) ?_; dsimp only)); refine box_event zz5 (N := 3) zz5 (cs := #[.slice none 0 0]) (t := 24) zz6 ?_; intro gb597 hg w7 hbox hb; replace HO592 := am (Kd.S_below (kS HO592.out) hb); replace HO595 := am (Kd.R_below (kR HO595.out) hb); have BK597 := am (hbox); have GW597 := am ((by rw [hg]; exact (below_size (bs HB.out)) : w.heap.size ≤ gb597)); have GE597 := am ((by rw [hg]; exact (below_size (bs HB.out)) : w.heap.size ≤ gb597)); replace HB := am (below_step (bs HB.out) hb); have NB589_597 := am ((by rw [hg]; exact Nat.ne_of_lt (blk_lt (g := gb589) (o := .cells #[.slice A0_0 l0_0.length c0_0] 24 (0, 0)) (kb BK589.out)) : gb589 ≠ gb597)); have NB597_589 := am ((by rw [hg]; exact Nat.ne_of_gt (blk_lt (g := gb589) (o := .cells #[.slice A0_0 l0_0.length c0_0] 24 (0, 0)) (kb BK589.out)) : gb597 ≠ gb589)); replace BK589 := am (blk_below (g := gb589) (o := .cells #[.slice A0_0 l0_0.length c0_0] 24 (0, 0)) (kb BK589.out) hb); clear hb hbox hg; obtain ⟨Ao8, co8, eo8⟩ := Kd.S_slice HO592.out; subst eo8; have hnb9 := NB597_589.out; have hnc9 := NB589_597.out; have hcz10_0 : w7.cell? ⟨gb597, 0, none⟩ = some (.slice none 0 0) := (blk_cell BK597.out 0).trans rfl; have hfz10_0 := blk_frozen BK597.out 0))
 (try simp only [Act.put, List.setIfInBounds_toArray, List.set_cons_zero, List.set_cons_succ])
 go_cut [6] (fun v6 wc => ∃ (kq : Nat) (x6_2 : Bool), v6 = .bool x6_2 ∧ Aside0 (mizmazelaw05_ColorRoads.j0 kq t593 t596 x6_2 l0_0 t590 = some r) ∧ Aside0 (kq ≤ k) ∧ Aside0 (Kd.R (Kd.int .i64) 3 wc w.heap.size (fun _ => True) v594 t593) ∧ Aside0 (Kd.S (Kd.slice 3 (Kd.int .i64)) 28 wc w.heap.size (fun k_ => some k_ ≠ (v594 : Value).ownBlock) (.slice Ao8 t590.length co8) t590) ∧ Aside0 (wc.heap[gb589]? = some (.cells #[(.slice A0_0 l0_0.length c0_0)] 24 (0, 0))) ∧ Aside0 (wc.heap[gb597]? = some (.cells #[(.slice Ao8 t590.length co8)] 24 (0, 0))) ∧ Aside0 (Below w.heap.size w wc))
 case first =>
  have H := HC3.out
  clear HC3
  by_cases c11 : (t590.length : Int) = 0
  rotate_left
  ·rw [if_neg c11] at H
   have c11b0 : ((t590.length : Int) == 0) = false := beq_eq_false_iff_ne.mpr c11
   have c11b1 : ((t590.length : Int) != 0) = true := bne_iff_ne.mpr c11
   have c11b2 : ¬ (t590 = []) := fun h_ => c11 (by rw [h_]; rfl)
   (first | rw [c11b0] | (simp only [i64_w, i32_w]; rw [c11b0]) | skip)
   have H' := am H
   clear H
   have hnb15 := NB597_589.out
   have hnc15 := NB589_597.out
   have hcz16_0 : w7.cell? ⟨gb597, 0, none⟩ = some (.slice none 0 0) := (blk_cell BK597.out 0).trans rfl
   have hfz16_0 := blk_frozen BK597.out 0
   go_wp2
   go_meet
   case rel => exact ⟨_, (false), zz3, H', ⟨by first | omega | exact Nat.le_refl _⟩, ⟨kR (Kd.R_mono (Kd.R_far (p := ⟨gb597, 0, none⟩) (Kd.R_types HO595.out BK597.out (by decide)) (fun _ hk => hk.2) (.slice Ao8 t590.length co8)) (fun _ hk => trivial))⟩, ⟨kS (Kd.S_mono (Kd.S_far (p := ⟨gb597, 0, none⟩) (Kd.S_types HO592.out BK597.out (by decide)) (fun _ hk => hk.2) (.slice Ao8 t590.length co8)) (fun _ hk => hk.1))⟩, ⟨by (with_reducible repeat (first | refine blk_drewN ?_ _ | refine blk_drew ?_ | refine blk_alloc ?_ _)); refine blk_far ?_ NB589_597.out _; (with_reducible repeat (first | refine blk_drewN ?_ _ | refine blk_drew ?_ | refine blk_alloc ?_ _)); exact BK589.out⟩, ⟨by (with_reducible repeat (first | refine blk_drewN ?_ _ | refine blk_drew ?_ | refine blk_alloc ?_ _)); refine blk_put (cs := #[.slice none 0 0]) ?_ 0 _ rfl; (with_reducible repeat (first | refine blk_drewN ?_ _ | refine blk_drew ?_ | refine blk_alloc ?_ _)); exact BK597.out⟩, ⟨bs HB.out⟩⟩
  rw [if_pos c11] at H
  have c11b0 : ((t590.length : Int) == 0) = true := beq_iff_eq.mpr c11
  have c11b1 : ((t590.length : Int) != 0) = false := bne_eq_false_iff_eq.mpr c11
  clear c11
  (first | rw [c11b0] | (simp only [i64_w, i32_w]; rw [c11b0]) | skip)
  have H' := am H
  clear H
  have hnb12 := NB597_589.out
  have hnc12 := NB589_597.out
  have hcz13_0 : w7.cell? ⟨gb597, 0, none⟩ = some (.slice none 0 0) := (blk_cell BK597.out 0).trans rfl
  have hfz13_0 := blk_frozen BK597.out 0
  obtain ⟨Ao14, co14, eo14⟩ := Kd.R_slice HO595.out
  subst eo14
  go_wp2
  go_meet
  case rel => exact ⟨_, (((t593.length : Int) == 0)), zz3, H', ⟨by first | omega | exact Nat.le_refl _⟩, ⟨kR (Kd.R_mono (Kd.R_far (p := ⟨gb597, 0, none⟩) (Kd.R_types HO595.out BK597.out (by decide)) (fun _ hk => hk.2) (.slice Ao8 t590.length co8)) (fun _ hk => trivial))⟩, ⟨kS (Kd.S_mono (Kd.S_far (p := ⟨gb597, 0, none⟩) (Kd.S_types HO592.out BK597.out (by decide)) (fun _ hk => hk.2) (.slice Ao8 t590.length co8)) (fun _ hk => hk.1))⟩, ⟨by (with_reducible repeat (first | refine blk_drewN ?_ _ | refine blk_drew ?_ | refine blk_alloc ?_ _)); refine blk_far ?_ NB589_597.out _; (with_reducible repeat (first | refine blk_drewN ?_ _ | refine blk_drew ?_ | refine blk_alloc ?_ _)); exact BK589.out⟩, ⟨by (with_reducible repeat (first | refine blk_drewN ?_ _ | refine blk_drew ?_ | refine blk_alloc ?_ _)); refine blk_put (cs := #[.slice none 0 0]) ?_ 0 _ rfl; (with_reducible repeat (first | refine blk_drewN ?_ _ | refine blk_drew ?_ | refine blk_alloc ?_ _)); exact BK597.out⟩, ⟨bs HB.out⟩⟩
 case rest =>
  clear HC3
  (try clear c1); (try clear p2); (try clear c4); (try clear c9); (try clear c11); (try clear c11b0); (try clear c11b1); (try clear c11b2); (try clear c12); (try clear c15); (try clear hcz10_0); (try clear hcz13_0); (try clear hcz16_0); (try clear hcz5_0); (try clear hfz10_0); (try clear hfz13_0); (try clear hfz16_0); (try clear hfz5_0)
  obtain ⟨kq, x6_2, rfl, HA, HJ2, HO_4, HO_598000, BK589, BK597, HB⟩ := hcut
  cases kq with
  | zero => exact absurd HA.out (by simp [mizmazelaw05_ColorRoads.j0])
  | succ kj2 =>
   have H := HA.out
   clear HA
   simp only [mizmazelaw05_ColorRoads.j0] at H
   replace H := Option.bind_eq_some_iff.mp H
   obtain ⟨t598, A170, H⟩ := H
   replace H : (if t598 = true then ((mizmazeref02_Connected.f kj2 l0_0).bind fun t599 => (if t599 = true then ((mizmazeref02_Period.f kj2 l0_0).bind fun t600 => (if t600 > 1 then (if t596 = 4 then (if x6_2 = true then ((mizmazelaw05_awake.f kj2).bind fun t601 => (some t601)) else (none)) else (none)) else (if t596 = 3 then ((mizmazeref05_Colorings.f kj2 l0_0 1000000).bind fun bt604 => (if x6_2 = true then (if bt604.2 = true then (none) else ((mizmazelaw05_awake.f kj2).bind fun t606 => (some t606))) else (none))) else (if t596 = 0 then ((mizmazeref01_Valid.f kj2 t590).bind fun t607 => (if t607 = true then ((mizmazeref05_Same.f kj2 l0_0 t590).bind fun t608 => (if t608 = true then ((mizmazeref03_Resets.f kj2 t590 t593).bind fun t609 => (if t609 = true then ((mizmazeref03_Most.f (l0_0.length : Int)).bind fun t610 => (if (t593.length : Int) ≤ t610 then ((mizmazelaw05_awake.f kj2).bind fun t611 => (some t611)) else (none))) else (none))) else (none))) else (none))) else (none))))) else (if t596 = 2 then (if x6_2 = true then ((mizmazelaw05_awake.f kj2).bind fun t602 => (some t602)) else (none)) else (none)))) else (if t596 = 1 then (if x6_2 = true then ((mizmazelaw05_awake.f kj2).bind fun t603 => (some t603)) else (none)) else (none))) = some r := H
   have A17 := am A170
   clear A170
   by_cases c18 : t598 = true
   rotate_left
   ·replace c18 := Bool.eq_false_iff.mpr c18
    subst c18
    have H1 : (if t596 = 1 then (if x6_2 = true then ((mizmazelaw05_awake.f kj2).bind fun t603 => (some t603)) else (none)) else (none)) = some r := by rw [if_neg (show ¬ (false = true) by decide)] at H; exact H
    clear H
    have H := H1
    clear H1
    by_cases c85 : t596 = 1
    rotate_left
    ·rw [if_neg c85] at H
     exact absurd H (by simp)
    rw [if_pos c85] at H
    have c85b0 : (t596 == 1) = true := beq_iff_eq.mpr c85
    have c85b1 : (t596 != 1) = false := bne_eq_false_iff_eq.mpr c85
    clear c85
    by_cases c86 : x6_2 = true
    rotate_left
    ·replace c86 := Bool.eq_false_iff.mpr c86
     subst c86
     have H1 : (none) = some r := by rw [if_neg (show ¬ (false = true) by decide)] at H; exact H
     clear H
     have H := H1
     clear H1
     exact absurd H (by simp)
    subst c86
    have H1 : ((mizmazelaw05_awake.f kj2).bind fun t603 => (some t603)) = some r := by rw [if_pos rfl] at H; exact H
    clear H
    have H := H1
    clear H1
    replace H := Option.bind_eq_some_iff.mp H
    obtain ⟨t603, A870, H⟩ := H
    replace H : (some t603) = some r := H
    have A87 := am A870
    clear A870
    obtain rfl := Option.some.inj H
    have hnb88 := NB589_597.out
    have hnc88 := NB597_589.out
    have hcz89_0 : wc.cell? ⟨gb589, 0, none⟩ = some (.slice A0_0 l0_0.length c0_0) := (blk_cell BK589.out 0).trans rfl
    have hfz89_0 := blk_frozen BK589.out 0
    go_wp2_with (first | ((with_reducible refine gate_callee (f := 18) rfl ?_); refine goesL_ (some 26) rfl rfl Try.func18 (by kernel_rfl) rfl #[.agg #[.slice A0_0 l0_0.length c0_0]] rfl zz1 ?_; (with_reducible refine (mizmazeref01_Valid.calls kj2 _ _ l0_0 false _ ?side1 ?side2 A17.out).mono ?_); (case side1 => exact kc (Kd.C_below HR0_0.out HB.out)); (case side2 => exact HC0_0.out); rintro e w90 ⟨rfl, hb⟩; refine ⟨_, rfl, ?_⟩; replace HO_4 := am (Kd.R_below (kR HO_4.out) hb); replace HO_598000 := am (Kd.S_below (kS HO_598000.out) hb); replace BK589 := am (blk_below (g := gb589) (o := .cells #[.slice A0_0 l0_0.length c0_0] 24 (0, 0)) (kb BK589.out) hb); replace BK597 := am (blk_below (g := gb597) (o := .cells #[.slice Ao8 t590.length co8] 24 (0, 0)) (kb BK597.out) hb); replace HB := am (below_step (bs HB.out) hb); (try clear hb); (try clear hb2); (try clear hk); (try clear hi)) | (go_at_call 45; (with_reducible refine (mizmazelaw05_awake.calls kj2  t603 _ A87.out).mono ?_); rintro e w91 ⟨rfl, hb⟩; replace HO_4 := am (Kd.R_below (kR HO_4.out) hb); replace HO_598000 := am (Kd.S_below (kS HO_598000.out) hb); replace BK589 := am (blk_below (g := gb589) (o := .cells #[.slice A0_0 l0_0.length c0_0] 24 (0, 0)) (kb BK589.out) hb); replace BK597 := am (blk_below (g := gb597) (o := .cells #[.slice Ao8 t590.length co8] 24 (0, 0)) (kb BK597.out) hb); replace HB := am (below_step (bs HB.out) hb); (try clear hb); (try clear hb2); (try clear hk); (try clear hi)))
    go_ret
    exact ⟨by first | rfl | (simp [errW_none, errW_some] <;> rfl) | (simp [*, errW_none, errW_some] <;> rfl), bs HB.out⟩
   subst c18
   have H1 : ((mizmazeref02_Connected.f kj2 l0_0).bind fun t599 => (if t599 = true then ((mizmazeref02_Period.f kj2 l0_0).bind fun t600 => (if t600 > 1 then (if t596 = 4 then (if x6_2 = true then ((mizmazelaw05_awake.f kj2).bind fun t601 => (some t601)) else (none)) else (none)) else (if t596 = 3 then ((mizmazeref05_Colorings.f kj2 l0_0 1000000).bind fun bt604 => (if x6_2 = true then (if bt604.2 = true then (none) else ((mizmazelaw05_awake.f kj2).bind fun t606 => (some t606))) else (none))) else (if t596 = 0 then ((mizmazeref01_Valid.f kj2 t590).bind fun t607 => (if t607 = true then ((mizmazeref05_Same.f kj2 l0_0 t590).bind fun t608 => (if t608 = true then ((mizmazeref03_Resets.f kj2 t590 t593).bind fun t609 => (if t609 = true then ((mizmazeref03_Most.f (l0_0.length : Int)).bind fun t610 => (if (t593.length : Int) ≤ t610 then ((mizmazelaw05_awake.f kj2).bind fun t611 => (some t611)) else (none))) else (none))) else (none))) else (none))) else (none))))) else (if t596 = 2 then (if x6_2 = true then ((mizmazelaw05_awake.f kj2).bind fun t602 => (some t602)) else (none)) else (none)))) = some r := by rw [if_pos rfl] at H; exact H
   clear H
   have H := H1
   clear H1
   replace H := Option.bind_eq_some_iff.mp H
   obtain ⟨t599, A190, H⟩ := H
   replace H : (if t599 = true then ((mizmazeref02_Period.f kj2 l0_0).bind fun t600 => (if t600 > 1 then (if t596 = 4 then (if x6_2 = true then ((mizmazelaw05_awake.f kj2).bind fun t601 => (some t601)) else (none)) else (none)) else (if t596 = 3 then ((mizmazeref05_Colorings.f kj2 l0_0 1000000).bind fun bt604 => (if x6_2 = true then (if bt604.2 = true then (none) else ((mizmazelaw05_awake.f kj2).bind fun t606 => (some t606))) else (none))) else (if t596 = 0 then ((mizmazeref01_Valid.f kj2 t590).bind fun t607 => (if t607 = true then ((mizmazeref05_Same.f kj2 l0_0 t590).bind fun t608 => (if t608 = true then ((mizmazeref03_Resets.f kj2 t590 t593).bind fun t609 => (if t609 = true then ((mizmazeref03_Most.f (l0_0.length : Int)).bind fun t610 => (if (t593.length : Int) ≤ t610 then ((mizmazelaw05_awake.f kj2).bind fun t611 => (some t611)) else (none))) else (none))) else (none))) else (none))) else (none))))) else (if t596 = 2 then (if x6_2 = true then ((mizmazelaw05_awake.f kj2).bind fun t602 => (some t602)) else (none)) else (none))) = some r := H
   have A19 := am A190
   clear A190
   by_cases c20 : t599 = true
   rotate_left
   ·replace c20 := Bool.eq_false_iff.mpr c20
    subst c20
    have H1 : (if t596 = 2 then (if x6_2 = true then ((mizmazelaw05_awake.f kj2).bind fun t602 => (some t602)) else (none)) else (none)) = some r := by rw [if_neg (show ¬ (false = true) by decide)] at H; exact H
    clear H
    have H := H1
    clear H1
    by_cases c76 : t596 = 2
    rotate_left
    ·rw [if_neg c76] at H
     exact absurd H (by simp)
    rw [if_pos c76] at H
    have c76b0 : (t596 == 2) = true := beq_iff_eq.mpr c76
    have c76b1 : (t596 != 2) = false := bne_eq_false_iff_eq.mpr c76
    clear c76
    by_cases c77 : x6_2 = true
    rotate_left
    ·replace c77 := Bool.eq_false_iff.mpr c77
     subst c77
     have H1 : (none) = some r := by rw [if_neg (show ¬ (false = true) by decide)] at H; exact H
     clear H
     have H := H1
     clear H1
     exact absurd H (by simp)
    subst c77
    have H1 : ((mizmazelaw05_awake.f kj2).bind fun t602 => (some t602)) = some r := by rw [if_pos rfl] at H; exact H
    clear H
    have H := H1
    clear H1
    replace H := Option.bind_eq_some_iff.mp H
    obtain ⟨t602, A780, H⟩ := H
    replace H : (some t602) = some r := H
    have A78 := am A780
    clear A780
    obtain rfl := Option.some.inj H
    have hnb79 := NB589_597.out
    have hnc79 := NB597_589.out
    have hcz80_0 : wc.cell? ⟨gb589, 0, none⟩ = some (.slice A0_0 l0_0.length c0_0) := (blk_cell BK589.out 0).trans rfl
    have hfz80_0 := blk_frozen BK589.out 0
    go_wp2_with (first | ((with_reducible refine gate_callee (f := 18) rfl ?_); refine goesL_ (some 26) rfl rfl Try.func18 (by kernel_rfl) rfl #[.agg #[.slice A0_0 l0_0.length c0_0]] rfl zz1 ?_; (with_reducible refine (mizmazeref01_Valid.calls kj2 _ _ l0_0 true _ ?side1 ?side2 A17.out).mono ?_); (case side1 => exact kc (Kd.C_below HR0_0.out HB.out)); (case side2 => exact HC0_0.out); rintro e w81 ⟨rfl, hb⟩; refine ⟨_, rfl, ?_⟩; replace HO_4 := am (Kd.R_below (kR HO_4.out) hb); replace HO_598000 := am (Kd.S_below (kS HO_598000.out) hb); replace BK589 := am (blk_below (g := gb589) (o := .cells #[.slice A0_0 l0_0.length c0_0] 24 (0, 0)) (kb BK589.out) hb); replace BK597 := am (blk_below (g := gb597) (o := .cells #[.slice Ao8 t590.length co8] 24 (0, 0)) (kb BK597.out) hb); replace HB := am (below_step (bs HB.out) hb); (try clear hb); (try clear hb2); (try clear hk); (try clear hi); have hcz82_0 : w81.cell? ⟨gb589, 0, none⟩ = some (.slice A0_0 l0_0.length c0_0) := (blk_cell BK589.out 0).trans rfl; have hfz82_0 := blk_frozen BK589.out 0) | ((with_reducible refine gate_callee (f := 20) rfl ?_); refine goesL_ (some 38) rfl rfl Try.func20 (by kernel_rfl) rfl #[.agg #[.slice A0_0 l0_0.length c0_0]] rfl zz1 ?_; (with_reducible refine (mizmazeref02_Connected.calls kj2 _ _ l0_0 false _ ?side1 ?side2 A19.out).mono ?_); (case side1 => exact kc (Kd.C_below HR0_0.out HB.out)); (case side2 => exact HC0_0.out); rintro e w83 ⟨rfl, hb⟩; refine ⟨_, rfl, ?_⟩; replace HO_4 := am (Kd.R_below (kR HO_4.out) hb); replace HO_598000 := am (Kd.S_below (kS HO_598000.out) hb); replace BK589 := am (blk_below (g := gb589) (o := .cells #[.slice A0_0 l0_0.length c0_0] 24 (0, 0)) (kb BK589.out) hb); replace BK597 := am (blk_below (g := gb597) (o := .cells #[.slice Ao8 t590.length co8] 24 (0, 0)) (kb BK597.out) hb); replace HB := am (below_step (bs HB.out) hb); (try clear hb); (try clear hb2); (try clear hk); (try clear hi)) | (go_at_call 45; (with_reducible refine (mizmazelaw05_awake.calls kj2  t602 _ A78.out).mono ?_); rintro e w84 ⟨rfl, hb⟩; replace HO_4 := am (Kd.R_below (kR HO_4.out) hb); replace HO_598000 := am (Kd.S_below (kS HO_598000.out) hb); replace BK589 := am (blk_below (g := gb589) (o := .cells #[.slice A0_0 l0_0.length c0_0] 24 (0, 0)) (kb BK589.out) hb); replace BK597 := am (blk_below (g := gb597) (o := .cells #[.slice Ao8 t590.length co8] 24 (0, 0)) (kb BK597.out) hb); replace HB := am (below_step (bs HB.out) hb); (try clear hb); (try clear hb2); (try clear hk); (try clear hi)))
    go_ret
    exact ⟨by first | rfl | (simp [errW_none, errW_some] <;> rfl) | (simp [*, errW_none, errW_some] <;> rfl), bs HB.out⟩
   subst c20
   have H1 : ((mizmazeref02_Period.f kj2 l0_0).bind fun t600 => (if t600 > 1 then (if t596 = 4 then (if x6_2 = true then ((mizmazelaw05_awake.f kj2).bind fun t601 => (some t601)) else (none)) else (none)) else (if t596 = 3 then ((mizmazeref05_Colorings.f kj2 l0_0 1000000).bind fun bt604 => (if x6_2 = true then (if bt604.2 = true then (none) else ((mizmazelaw05_awake.f kj2).bind fun t606 => (some t606))) else (none))) else (if t596 = 0 then ((mizmazeref01_Valid.f kj2 t590).bind fun t607 => (if t607 = true then ((mizmazeref05_Same.f kj2 l0_0 t590).bind fun t608 => (if t608 = true then ((mizmazeref03_Resets.f kj2 t590 t593).bind fun t609 => (if t609 = true then ((mizmazeref03_Most.f (l0_0.length : Int)).bind fun t610 => (if (t593.length : Int) ≤ t610 then ((mizmazelaw05_awake.f kj2).bind fun t611 => (some t611)) else (none))) else (none))) else (none))) else (none))) else (none))))) = some r := by rw [if_pos rfl] at H; exact H
   clear H
   have H := H1
   clear H1
   replace H := Option.bind_eq_some_iff.mp H
   obtain ⟨t600, A210, H⟩ := H
   replace H : (if t600 > 1 then (if t596 = 4 then (if x6_2 = true then ((mizmazelaw05_awake.f kj2).bind fun t601 => (some t601)) else (none)) else (none)) else (if t596 = 3 then ((mizmazeref05_Colorings.f kj2 l0_0 1000000).bind fun bt604 => (if x6_2 = true then (if bt604.2 = true then (none) else ((mizmazelaw05_awake.f kj2).bind fun t606 => (some t606))) else (none))) else (if t596 = 0 then ((mizmazeref01_Valid.f kj2 t590).bind fun t607 => (if t607 = true then ((mizmazeref05_Same.f kj2 l0_0 t590).bind fun t608 => (if t608 = true then ((mizmazeref03_Resets.f kj2 t590 t593).bind fun t609 => (if t609 = true then ((mizmazeref03_Most.f (l0_0.length : Int)).bind fun t610 => (if (t593.length : Int) ≤ t610 then ((mizmazelaw05_awake.f kj2).bind fun t611 => (some t611)) else (none))) else (none))) else (none))) else (none))) else (none)))) = some r := H
   have A21 := am A210
   clear A210
   by_cases c22 : t600 > 1
   ·rw [if_pos c22] at H
    have c22b0 : decide (1 < t600) = true := decide_eq_true c22
    clear c22
    by_cases c23 : t596 = 4
    rotate_left
    ·rw [if_neg c23] at H
     exact absurd H (by simp)
    rw [if_pos c23] at H
    have c23b0 : (t596 == 4) = true := beq_iff_eq.mpr c23
    have c23b1 : (t596 != 4) = false := bne_eq_false_iff_eq.mpr c23
    clear c23
    by_cases c24 : x6_2 = true
    rotate_left
    ·replace c24 := Bool.eq_false_iff.mpr c24
     subst c24
     have H1 : (none) = some r := by rw [if_neg (show ¬ (false = true) by decide)] at H; exact H
     clear H
     have H := H1
     clear H1
     exact absurd H (by simp)
    subst c24
    have H1 : ((mizmazelaw05_awake.f kj2).bind fun t601 => (some t601)) = some r := by rw [if_pos rfl] at H; exact H
    clear H
    have H := H1
    clear H1
    replace H := Option.bind_eq_some_iff.mp H
    obtain ⟨t601, A250, H⟩ := H
    replace H : (some t601) = some r := H
    have A25 := am A250
    clear A250
    obtain rfl := Option.some.inj H
    have hnb26 := NB589_597.out
    have hnc26 := NB597_589.out
    have hcz27_0 : wc.cell? ⟨gb589, 0, none⟩ = some (.slice A0_0 l0_0.length c0_0) := (blk_cell BK589.out 0).trans rfl
    have hfz27_0 := blk_frozen BK589.out 0
    go_wp2_with (first | ((with_reducible refine gate_callee (f := 18) rfl ?_); refine goesL_ (some 26) rfl rfl Try.func18 (by kernel_rfl) rfl #[.agg #[.slice A0_0 l0_0.length c0_0]] rfl zz1 ?_; (with_reducible refine (mizmazeref01_Valid.calls kj2 _ _ l0_0 true _ ?side1 ?side2 A17.out).mono ?_); (case side1 => exact kc (Kd.C_below HR0_0.out HB.out)); (case side2 => exact HC0_0.out); rintro e w28 ⟨rfl, hb⟩; refine ⟨_, rfl, ?_⟩; replace HO_4 := am (Kd.R_below (kR HO_4.out) hb); replace HO_598000 := am (Kd.S_below (kS HO_598000.out) hb); replace BK589 := am (blk_below (g := gb589) (o := .cells #[.slice A0_0 l0_0.length c0_0] 24 (0, 0)) (kb BK589.out) hb); replace BK597 := am (blk_below (g := gb597) (o := .cells #[.slice Ao8 t590.length co8] 24 (0, 0)) (kb BK597.out) hb); replace HB := am (below_step (bs HB.out) hb); (try clear hb); (try clear hb2); (try clear hk); (try clear hi); have hcz29_0 : w28.cell? ⟨gb589, 0, none⟩ = some (.slice A0_0 l0_0.length c0_0) := (blk_cell BK589.out 0).trans rfl; have hfz29_0 := blk_frozen BK589.out 0) | ((with_reducible refine gate_callee (f := 20) rfl ?_); refine goesL_ (some 38) rfl rfl Try.func20 (by kernel_rfl) rfl #[.agg #[.slice A0_0 l0_0.length c0_0]] rfl zz1 ?_; (with_reducible refine (mizmazeref02_Connected.calls kj2 _ _ l0_0 true _ ?side1 ?side2 A19.out).mono ?_); (case side1 => exact kc (Kd.C_below HR0_0.out HB.out)); (case side2 => exact HC0_0.out); rintro e w30 ⟨rfl, hb⟩; refine ⟨_, rfl, ?_⟩; replace HO_4 := am (Kd.R_below (kR HO_4.out) hb); replace HO_598000 := am (Kd.S_below (kS HO_598000.out) hb); replace BK589 := am (blk_below (g := gb589) (o := .cells #[.slice A0_0 l0_0.length c0_0] 24 (0, 0)) (kb BK589.out) hb); replace BK597 := am (blk_below (g := gb597) (o := .cells #[.slice Ao8 t590.length co8] 24 (0, 0)) (kb BK597.out) hb); replace HB := am (below_step (bs HB.out) hb); (try clear hb); (try clear hb2); (try clear hk); (try clear hi); have hcz31_0 : w30.cell? ⟨gb589, 0, none⟩ = some (.slice A0_0 l0_0.length c0_0) := (blk_cell BK589.out 0).trans rfl; have hfz31_0 := blk_frozen BK589.out 0) | ((with_reducible refine gate_callee (f := 29) rfl ?_); refine goesL_ (some 50) rfl rfl Try.func29 (by kernel_rfl) rfl #[.agg #[.slice A0_0 l0_0.length c0_0]] rfl zz1 ?_; (with_reducible refine (mizmazeref02_Period.calls kj2 _ _ l0_0 t600 _ ?side1 ?side2 A21.out).mono ?_); (case side1 => exact kc (Kd.C_below HR0_0.out HB.out)); (case side2 => exact HC0_0.out); rintro e w32 ⟨rfl, hb⟩; refine ⟨_, rfl, ?_⟩; replace HO_4 := am (Kd.R_below (kR HO_4.out) hb); replace HO_598000 := am (Kd.S_below (kS HO_598000.out) hb); replace BK589 := am (blk_below (g := gb589) (o := .cells #[.slice A0_0 l0_0.length c0_0] 24 (0, 0)) (kb BK589.out) hb); replace BK597 := am (blk_below (g := gb597) (o := .cells #[.slice Ao8 t590.length co8] 24 (0, 0)) (kb BK597.out) hb); replace HB := am (below_step (bs HB.out) hb); (try clear hb); (try clear hb2); (try clear hk); (try clear hi)) | (go_at_call 45; (with_reducible refine (mizmazelaw05_awake.calls kj2  t601 _ A25.out).mono ?_); rintro e w33 ⟨rfl, hb⟩; replace HO_4 := am (Kd.R_below (kR HO_4.out) hb); replace HO_598000 := am (Kd.S_below (kS HO_598000.out) hb); replace BK589 := am (blk_below (g := gb589) (o := .cells #[.slice A0_0 l0_0.length c0_0] 24 (0, 0)) (kb BK589.out) hb); replace BK597 := am (blk_below (g := gb597) (o := .cells #[.slice Ao8 t590.length co8] 24 (0, 0)) (kb BK597.out) hb); replace HB := am (below_step (bs HB.out) hb); (try clear hb); (try clear hb2); (try clear hk); (try clear hi)))
    go_ret
    exact ⟨by first | rfl | (simp [errW_none, errW_some] <;> rfl) | (simp [*, errW_none, errW_some] <;> rfl), bs HB.out⟩
   rw [if_neg c22] at H
   have c22b0 : decide (1 < t600) = false := decide_eq_false c22
   clear c22
   by_cases c34 : t596 = 3
   ·rw [if_pos c34] at H
    have c34b0 : (t596 == 3) = true := beq_iff_eq.mpr c34
    have c34b1 : (t596 != 3) = false := bne_eq_false_iff_eq.mpr c34
    clear c34
    replace H := Option.bind_eq_some_iff.mp H
    obtain ⟨⟨t604, t605⟩, A350, H⟩ := H
    replace H : (if x6_2 = true then (if t605 = true then (none) else ((mizmazelaw05_awake.f kj2).bind fun t606 => (some t606))) else (none)) = some r := H
    have A35 := am A350
    clear A350
    by_cases c36 : x6_2 = true
    rotate_left
    ·replace c36 := Bool.eq_false_iff.mpr c36
     subst c36
     have H1 : (none) = some r := by rw [if_neg (show ¬ (false = true) by decide)] at H; exact H
     clear H
     have H := H1
     clear H1
     exact absurd H (by simp)
    subst c36
    have H1 : (if t605 = true then (none) else ((mizmazelaw05_awake.f kj2).bind fun t606 => (some t606))) = some r := by rw [if_pos rfl] at H; exact H
    clear H
    have H := H1
    clear H1
    by_cases c37 : t605 = true
    ·subst c37
     have H1 : (none) = some r := by rw [if_pos rfl] at H; exact H
     clear H
     have H := H1
     clear H1
     exact absurd H (by simp)
    replace c37 := Bool.eq_false_iff.mpr c37
    subst c37
    have H1 : ((mizmazelaw05_awake.f kj2).bind fun t606 => (some t606)) = some r := by rw [if_neg (show ¬ (false = true) by decide)] at H; exact H
    clear H
    have H := H1
    clear H1
    replace H := Option.bind_eq_some_iff.mp H
    obtain ⟨t606, A380, H⟩ := H
    replace H : (some t606) = some r := H
    have A38 := am A380
    clear A380
    obtain rfl := Option.some.inj H
    have hnb39 := NB589_597.out
    have hnc39 := NB597_589.out
    have hcz40_0 : wc.cell? ⟨gb589, 0, none⟩ = some (.slice A0_0 l0_0.length c0_0) := (blk_cell BK589.out 0).trans rfl
    have hfz40_0 := blk_frozen BK589.out 0
    go_wp2_with (first | ((with_reducible refine gate_callee (f := 18) rfl ?_); refine goesL_ (some 26) rfl rfl Try.func18 (by kernel_rfl) rfl #[.agg #[.slice A0_0 l0_0.length c0_0]] rfl zz1 ?_; (with_reducible refine (mizmazeref01_Valid.calls kj2 _ _ l0_0 true _ ?side1 ?side2 A17.out).mono ?_); (case side1 => exact kc (Kd.C_below HR0_0.out HB.out)); (case side2 => exact HC0_0.out); rintro e w41 ⟨rfl, hb⟩; refine ⟨_, rfl, ?_⟩; replace HO_4 := am (Kd.R_below (kR HO_4.out) hb); replace HO_598000 := am (Kd.S_below (kS HO_598000.out) hb); replace BK589 := am (blk_below (g := gb589) (o := .cells #[.slice A0_0 l0_0.length c0_0] 24 (0, 0)) (kb BK589.out) hb); replace BK597 := am (blk_below (g := gb597) (o := .cells #[.slice Ao8 t590.length co8] 24 (0, 0)) (kb BK597.out) hb); replace HB := am (below_step (bs HB.out) hb); (try clear hb); (try clear hb2); (try clear hk); (try clear hi); have hcz42_0 : w41.cell? ⟨gb589, 0, none⟩ = some (.slice A0_0 l0_0.length c0_0) := (blk_cell BK589.out 0).trans rfl; have hfz42_0 := blk_frozen BK589.out 0) | ((with_reducible refine gate_callee (f := 20) rfl ?_); refine goesL_ (some 38) rfl rfl Try.func20 (by kernel_rfl) rfl #[.agg #[.slice A0_0 l0_0.length c0_0]] rfl zz1 ?_; (with_reducible refine (mizmazeref02_Connected.calls kj2 _ _ l0_0 true _ ?side1 ?side2 A19.out).mono ?_); (case side1 => exact kc (Kd.C_below HR0_0.out HB.out)); (case side2 => exact HC0_0.out); rintro e w43 ⟨rfl, hb⟩; refine ⟨_, rfl, ?_⟩; replace HO_4 := am (Kd.R_below (kR HO_4.out) hb); replace HO_598000 := am (Kd.S_below (kS HO_598000.out) hb); replace BK589 := am (blk_below (g := gb589) (o := .cells #[.slice A0_0 l0_0.length c0_0] 24 (0, 0)) (kb BK589.out) hb); replace BK597 := am (blk_below (g := gb597) (o := .cells #[.slice Ao8 t590.length co8] 24 (0, 0)) (kb BK597.out) hb); replace HB := am (below_step (bs HB.out) hb); (try clear hb); (try clear hb2); (try clear hk); (try clear hi); have hcz44_0 : w43.cell? ⟨gb589, 0, none⟩ = some (.slice A0_0 l0_0.length c0_0) := (blk_cell BK589.out 0).trans rfl; have hfz44_0 := blk_frozen BK589.out 0) | ((with_reducible refine gate_callee (f := 29) rfl ?_); refine goesL_ (some 50) rfl rfl Try.func29 (by kernel_rfl) rfl #[.agg #[.slice A0_0 l0_0.length c0_0]] rfl zz1 ?_; (with_reducible refine (mizmazeref02_Period.calls kj2 _ _ l0_0 t600 _ ?side1 ?side2 A21.out).mono ?_); (case side1 => exact kc (Kd.C_below HR0_0.out HB.out)); (case side2 => exact HC0_0.out); rintro e w45 ⟨rfl, hb⟩; refine ⟨_, rfl, ?_⟩; replace HO_4 := am (Kd.R_below (kR HO_4.out) hb); replace HO_598000 := am (Kd.S_below (kS HO_598000.out) hb); replace BK589 := am (blk_below (g := gb589) (o := .cells #[.slice A0_0 l0_0.length c0_0] 24 (0, 0)) (kb BK589.out) hb); replace BK597 := am (blk_below (g := gb597) (o := .cells #[.slice Ao8 t590.length co8] 24 (0, 0)) (kb BK597.out) hb); replace HB := am (below_step (bs HB.out) hb); (try clear hb); (try clear hb2); (try clear hk); (try clear hi); have hcz46_0 : w45.cell? ⟨gb589, 0, none⟩ = some (.slice A0_0 l0_0.length c0_0) := (blk_cell BK589.out 0).trans rfl; have hfz46_0 := blk_frozen BK589.out 0) | ((with_reducible refine gate_callee (f := 48) rfl ?_); refine goesL_ (some 64) rfl rfl Try.func48 (by kernel_rfl) rfl #[.agg #[.slice A0_0 l0_0.length c0_0], .int .i64 1000000] rfl zz1 ?_; (with_reducible refine (mizmazeref05_Colorings.calls kj2 _ _ l0_0 1000000 t604 false _ ?side1 ?side2 A35.out).mono ?_); (case side1 => exact kc (Kd.C_below HR0_0.out HB.out)); (case side2 => exact HC0_0.out); rintro e w47 ⟨rfl, hb⟩; refine ⟨_, rfl, ?_⟩; replace HO_4 := am (Kd.R_below (kR HO_4.out) hb); replace HO_598000 := am (Kd.S_below (kS HO_598000.out) hb); replace BK589 := am (blk_below (g := gb589) (o := .cells #[.slice A0_0 l0_0.length c0_0] 24 (0, 0)) (kb BK589.out) hb); replace BK597 := am (blk_below (g := gb597) (o := .cells #[.slice Ao8 t590.length co8] 24 (0, 0)) (kb BK597.out) hb); replace HB := am (below_step (bs HB.out) hb); (try clear hb); (try clear hb2); (try clear hk); (try clear hi)) | (go_at_call 45; (with_reducible refine (mizmazelaw05_awake.calls kj2  t606 _ A38.out).mono ?_); rintro e w48 ⟨rfl, hb⟩; replace HO_4 := am (Kd.R_below (kR HO_4.out) hb); replace HO_598000 := am (Kd.S_below (kS HO_598000.out) hb); replace BK589 := am (blk_below (g := gb589) (o := .cells #[.slice A0_0 l0_0.length c0_0] 24 (0, 0)) (kb BK589.out) hb); replace BK597 := am (blk_below (g := gb597) (o := .cells #[.slice Ao8 t590.length co8] 24 (0, 0)) (kb BK597.out) hb); replace HB := am (below_step (bs HB.out) hb); (try clear hb); (try clear hb2); (try clear hk); (try clear hi)))
    go_ret
    exact ⟨by first | rfl | (simp [errW_none, errW_some] <;> rfl) | (simp [*, errW_none, errW_some] <;> rfl), bs HB.out⟩
   rw [if_neg c34] at H
   have c34b0 : (t596 == 3) = false := beq_eq_false_iff_ne.mpr c34
   have c34b1 : (t596 != 3) = true := bne_iff_ne.mpr c34
   by_cases c49 : t596 = 0
   rotate_left
   ·rw [if_neg c49] at H
    exact absurd H (by simp)
   rw [if_pos c49] at H
   have c49b0 : (t596 == 0) = true := beq_iff_eq.mpr c49
   have c49b1 : (t596 != 0) = false := bne_eq_false_iff_eq.mpr c49
   clear c49
   replace H := Option.bind_eq_some_iff.mp H
   obtain ⟨t607, A500, H⟩ := H
   replace H : (if t607 = true then ((mizmazeref05_Same.f kj2 l0_0 t590).bind fun t608 => (if t608 = true then ((mizmazeref03_Resets.f kj2 t590 t593).bind fun t609 => (if t609 = true then ((mizmazeref03_Most.f (l0_0.length : Int)).bind fun t610 => (if (t593.length : Int) ≤ t610 then ((mizmazelaw05_awake.f kj2).bind fun t611 => (some t611)) else (none))) else (none))) else (none))) else (none)) = some r := H
   have A50 := am A500
   clear A500
   by_cases c51 : t607 = true
   rotate_left
   ·replace c51 := Bool.eq_false_iff.mpr c51
    subst c51
    have H1 : (none) = some r := by rw [if_neg (show ¬ (false = true) by decide)] at H; exact H
    clear H
    have H := H1
    clear H1
    exact absurd H (by simp)
   subst c51
   have H1 : ((mizmazeref05_Same.f kj2 l0_0 t590).bind fun t608 => (if t608 = true then ((mizmazeref03_Resets.f kj2 t590 t593).bind fun t609 => (if t609 = true then ((mizmazeref03_Most.f (l0_0.length : Int)).bind fun t610 => (if (t593.length : Int) ≤ t610 then ((mizmazelaw05_awake.f kj2).bind fun t611 => (some t611)) else (none))) else (none))) else (none))) = some r := by rw [if_pos rfl] at H; exact H
   clear H
   have H := H1
   clear H1
   replace H := Option.bind_eq_some_iff.mp H
   obtain ⟨t608, A520, H⟩ := H
   replace H : (if t608 = true then ((mizmazeref03_Resets.f kj2 t590 t593).bind fun t609 => (if t609 = true then ((mizmazeref03_Most.f (l0_0.length : Int)).bind fun t610 => (if (t593.length : Int) ≤ t610 then ((mizmazelaw05_awake.f kj2).bind fun t611 => (some t611)) else (none))) else (none))) else (none)) = some r := H
   have A52 := am A520
   clear A520
   by_cases c53 : t608 = true
   rotate_left
   ·replace c53 := Bool.eq_false_iff.mpr c53
    subst c53
    have H1 : (none) = some r := by rw [if_neg (show ¬ (false = true) by decide)] at H; exact H
    clear H
    have H := H1
    clear H1
    exact absurd H (by simp)
   subst c53
   have H1 : ((mizmazeref03_Resets.f kj2 t590 t593).bind fun t609 => (if t609 = true then ((mizmazeref03_Most.f (l0_0.length : Int)).bind fun t610 => (if (t593.length : Int) ≤ t610 then ((mizmazelaw05_awake.f kj2).bind fun t611 => (some t611)) else (none))) else (none))) = some r := by rw [if_pos rfl] at H; exact H
   clear H
   have H := H1
   clear H1
   replace H := Option.bind_eq_some_iff.mp H
   obtain ⟨t609, A540, H⟩ := H
   replace H : (if t609 = true then ((mizmazeref03_Most.f (l0_0.length : Int)).bind fun t610 => (if (t593.length : Int) ≤ t610 then ((mizmazelaw05_awake.f kj2).bind fun t611 => (some t611)) else (none))) else (none)) = some r := H
   have A54 := am A540
   clear A540
   by_cases c55 : t609 = true
   rotate_left
   ·replace c55 := Bool.eq_false_iff.mpr c55
    subst c55
    have H1 : (none) = some r := by rw [if_neg (show ¬ (false = true) by decide)] at H; exact H
    clear H
    have H := H1
    clear H1
    exact absurd H (by simp)
   subst c55
   have H1 : ((mizmazeref03_Most.f (l0_0.length : Int)).bind fun t610 => (if (t593.length : Int) ≤ t610 then ((mizmazelaw05_awake.f kj2).bind fun t611 => (some t611)) else (none))) = some r := by rw [if_pos rfl] at H; exact H
   clear H
   have H := H1
   clear H1
   replace H := Option.bind_eq_some_iff.mp H
   obtain ⟨t610, A560, H⟩ := H
   replace H : (if (t593.length : Int) ≤ t610 then ((mizmazelaw05_awake.f kj2).bind fun t611 => (some t611)) else (none)) = some r := H
   have A56 := am A560
   clear A560
   by_cases c57 : (t593.length : Int) ≤ t610
   rotate_left
   ·rw [if_neg c57] at H
    exact absurd H (by simp)
   rw [if_pos c57] at H
   have c57b0 : decide ((t593.length : Int) ≤ t610) = true := decide_eq_true c57
   clear c57
   replace H := Option.bind_eq_some_iff.mp H
   obtain ⟨t611, A580, H⟩ := H
   replace H : (some t611) = some r := H
   have A58 := am A580
   clear A580
   obtain rfl := Option.some.inj H
   have hnb59 := NB589_597.out
   have hnc59 := NB597_589.out
   have hcz60_0 : wc.cell? ⟨gb589, 0, none⟩ = some (.slice A0_0 l0_0.length c0_0) := (blk_cell BK589.out 0).trans rfl
   have hfz60_0 := blk_frozen BK589.out 0
   go_wp2_with (first | ((with_reducible refine gate_callee (f := 18) rfl ?_); refine goesL_ (some 26) rfl rfl Try.func18 (by kernel_rfl) rfl #[.agg #[.slice A0_0 l0_0.length c0_0]] rfl zz1 ?_; (with_reducible refine (mizmazeref01_Valid.calls kj2 _ _ l0_0 true _ ?side1 ?side2 A17.out).mono ?_); (case side1 => exact kc (Kd.C_below HR0_0.out HB.out)); (case side2 => exact HC0_0.out); rintro e w61 ⟨rfl, hb⟩; refine ⟨_, rfl, ?_⟩; replace HO_4 := am (Kd.R_below (kR HO_4.out) hb); replace HO_598000 := am (Kd.S_below (kS HO_598000.out) hb); replace BK589 := am (blk_below (g := gb589) (o := .cells #[.slice A0_0 l0_0.length c0_0] 24 (0, 0)) (kb BK589.out) hb); replace BK597 := am (blk_below (g := gb597) (o := .cells #[.slice Ao8 t590.length co8] 24 (0, 0)) (kb BK597.out) hb); replace HB := am (below_step (bs HB.out) hb); (try clear hb); (try clear hb2); (try clear hk); (try clear hi); have hcz62_0 : w61.cell? ⟨gb589, 0, none⟩ = some (.slice A0_0 l0_0.length c0_0) := (blk_cell BK589.out 0).trans rfl; have hfz62_0 := blk_frozen BK589.out 0) | ((with_reducible refine gate_callee (f := 20) rfl ?_); refine goesL_ (some 38) rfl rfl Try.func20 (by kernel_rfl) rfl #[.agg #[.slice A0_0 l0_0.length c0_0]] rfl zz1 ?_; (with_reducible refine (mizmazeref02_Connected.calls kj2 _ _ l0_0 true _ ?side1 ?side2 A19.out).mono ?_); (case side1 => exact kc (Kd.C_below HR0_0.out HB.out)); (case side2 => exact HC0_0.out); rintro e w63 ⟨rfl, hb⟩; refine ⟨_, rfl, ?_⟩; replace HO_4 := am (Kd.R_below (kR HO_4.out) hb); replace HO_598000 := am (Kd.S_below (kS HO_598000.out) hb); replace BK589 := am (blk_below (g := gb589) (o := .cells #[.slice A0_0 l0_0.length c0_0] 24 (0, 0)) (kb BK589.out) hb); replace BK597 := am (blk_below (g := gb597) (o := .cells #[.slice Ao8 t590.length co8] 24 (0, 0)) (kb BK597.out) hb); replace HB := am (below_step (bs HB.out) hb); (try clear hb); (try clear hb2); (try clear hk); (try clear hi); have hcz64_0 : w63.cell? ⟨gb589, 0, none⟩ = some (.slice A0_0 l0_0.length c0_0) := (blk_cell BK589.out 0).trans rfl; have hfz64_0 := blk_frozen BK589.out 0) | ((with_reducible refine gate_callee (f := 29) rfl ?_); refine goesL_ (some 50) rfl rfl Try.func29 (by kernel_rfl) rfl #[.agg #[.slice A0_0 l0_0.length c0_0]] rfl zz1 ?_; (with_reducible refine (mizmazeref02_Period.calls kj2 _ _ l0_0 t600 _ ?side1 ?side2 A21.out).mono ?_); (case side1 => exact kc (Kd.C_below HR0_0.out HB.out)); (case side2 => exact HC0_0.out); rintro e w65 ⟨rfl, hb⟩; refine ⟨_, rfl, ?_⟩; replace HO_4 := am (Kd.R_below (kR HO_4.out) hb); replace HO_598000 := am (Kd.S_below (kS HO_598000.out) hb); replace BK589 := am (blk_below (g := gb589) (o := .cells #[.slice A0_0 l0_0.length c0_0] 24 (0, 0)) (kb BK589.out) hb); replace BK597 := am (blk_below (g := gb597) (o := .cells #[.slice Ao8 t590.length co8] 24 (0, 0)) (kb BK597.out) hb); replace HB := am (below_step (bs HB.out) hb); (try clear hb); (try clear hb2); (try clear hk); (try clear hi); have hcz66_0 : w65.cell? ⟨gb597, 0, none⟩ = some (.slice Ao8 t590.length co8) := (blk_cell BK597.out 0).trans rfl; have hfz66_0 := blk_frozen BK597.out 0) | (go_at_call 18; (with_reducible refine (mizmazeref01_Valid.calls kj2 _ _ t590 true _ ?side1 ?side2 A50.out).mono ?_); (case side1 => repeat (first | exact (Kd.S_reads' HO_598000.out).2.2 | (with_reducible refine Kd.C_alloc ?_ _) | (with_reducible refine Kd.C_drewN ?_ _) | (with_reducible refine Kd.C_drew ?_))); (case side2 => exact (Kd.S_reads' HO_598000.out).2.1); rintro e w67 ⟨rfl, hb⟩; replace HO_4 := am (Kd.R_below (kR HO_4.out) hb); replace HO_598000 := am (Kd.S_below (kS HO_598000.out) hb); replace BK589 := am (blk_below (g := gb589) (o := .cells #[.slice A0_0 l0_0.length c0_0] 24 (0, 0)) (kb BK589.out) hb); replace BK597 := am (blk_below (g := gb597) (o := .cells #[.slice Ao8 t590.length co8] 24 (0, 0)) (kb BK597.out) hb); replace HB := am (below_step (bs HB.out) hb); (try clear hb); (try clear hb2); (try clear hk); (try clear hi); have hcz68_0 : w67.cell? ⟨gb589, 0, none⟩ = some (.slice A0_0 l0_0.length c0_0) := (blk_cell BK589.out 0).trans rfl; have hfz68_0 := blk_frozen BK589.out 0; have hcz69_0 : w67.cell? ⟨gb597, 0, none⟩ = some (.slice Ao8 t590.length co8) := (blk_cell BK597.out 0).trans rfl; have hfz69_0 := blk_frozen BK597.out 0) | (go_at_call 46; (with_reducible refine (mizmazeref05_Same.calls kj2 _ _ l0_0 _ _ t590 true _ ?side1 ?side2 ?side3 ?side4 A52.out).mono ?_); (case side1 => exact kc (Kd.C_below HR0_0.out HB.out)); (case side2 => exact HC0_0.out); (case side3 => repeat (first | exact (Kd.S_reads' HO_598000.out).2.2 | (with_reducible refine Kd.C_alloc ?_ _) | (with_reducible refine Kd.C_drewN ?_ _) | (with_reducible refine Kd.C_drew ?_))); (case side4 => exact (Kd.S_reads' HO_598000.out).2.1); rintro e w70 ⟨rfl, hb⟩; replace HO_4 := am (Kd.R_below (kR HO_4.out) hb); replace HO_598000 := am (Kd.S_below (kS HO_598000.out) hb); replace BK589 := am (blk_below (g := gb589) (o := .cells #[.slice A0_0 l0_0.length c0_0] 24 (0, 0)) (kb BK589.out) hb); replace BK597 := am (blk_below (g := gb597) (o := .cells #[.slice Ao8 t590.length co8] 24 (0, 0)) (kb BK597.out) hb); replace HB := am (below_step (bs HB.out) hb); (try clear hb); (try clear hb2); (try clear hk); (try clear hi); have hcz71_0 : w70.cell? ⟨gb597, 0, none⟩ = some (.slice Ao8 t590.length co8) := (blk_cell BK597.out 0).trans rfl; have hfz71_0 := blk_frozen BK597.out 0; obtain ⟨Ao72, co72, eo72⟩ := Kd.R_slice HO_4.out; subst eo72) | (go_at_call 50; (with_reducible refine (mizmazeref03_Resets.calls kj2 _ _ t590 _ _ t593 true _ ?side1 ?side2 ?side3 ?side4 A54.out).mono ?_); (case side1 => repeat (first | exact (Kd.S_reads' HO_598000.out).2.2 | (with_reducible refine Kd.C_alloc ?_ _) | (with_reducible refine Kd.C_drewN ?_ _) | (with_reducible refine Kd.C_drew ?_))); (case side2 => exact (Kd.S_reads' HO_598000.out).2.1); (case side3 => repeat (first | exact (Kd.R_reads' HO_4.out).2.2 | (with_reducible refine Kd.C_alloc ?_ _) | (with_reducible refine Kd.C_drewN ?_ _) | (with_reducible refine Kd.C_drew ?_))); (case side4 => exact (Kd.R_reads' HO_4.out).2.1); rintro e w73 ⟨rfl, hb⟩; replace HO_4 := am (Kd.R_below (kR HO_4.out) hb); replace HO_598000 := am (Kd.S_below (kS HO_598000.out) hb); replace BK589 := am (blk_below (g := gb589) (o := .cells #[.slice A0_0 l0_0.length c0_0] 24 (0, 0)) (kb BK589.out) hb); replace BK597 := am (blk_below (g := gb597) (o := .cells #[.slice Ao8 t590.length co8] 24 (0, 0)) (kb BK597.out) hb); replace HB := am (below_step (bs HB.out) hb); (try clear hb); (try clear hb2); (try clear hk); (try clear hi); have hcz74_0 : w73.cell? ⟨gb589, 0, none⟩ = some (.slice A0_0 l0_0.length c0_0) := (blk_cell BK589.out 0).trans rfl; have hfz74_0 := blk_frozen BK589.out 0) | (go_at_call 51; (with_reducible refine (mizmazeref03_Most.calls (l0_0.length : Int) t610 _ A56.out).mono ?_); rintro e w' ⟨rfl, ⟨nd, rfl⟩⟩) | (go_at_call 45; (with_reducible refine (mizmazelaw05_awake.calls kj2  t611 _ A58.out).mono ?_); rintro e w75 ⟨rfl, hb⟩; replace HO_4 := am (Kd.R_below (kR HO_4.out) hb); replace HO_598000 := am (Kd.S_below (kS HO_598000.out) hb); replace BK589 := am (blk_below (g := gb589) (o := .cells #[.slice A0_0 l0_0.length c0_0] 24 (0, 0)) (kb BK589.out) hb); replace BK597 := am (blk_below (g := gb597) (o := .cells #[.slice Ao8 t590.length co8] 24 (0, 0)) (kb BK597.out) hb); replace HB := am (below_step (bs HB.out) hb); (try clear hb); (try clear hb2); (try clear hk); (try clear hi)))
   go_ret
   exact ⟨by first | rfl | (simp [errW_none, errW_some] <;> rfl) | (simp [*, errW_none, errW_some] <;> rfl), bs HB.out⟩
end Go.Proofs.Ytjgdalhdiohclaa.Q
end
section
namespace Go.Proofs.Ytjgdalhdiohclaa.Q
theorem awake5 : Ev (fun k => mizmazelaw05_awake.f k) true := Ev.of (k := 1700) (fun k => mizmazelaw05_awake.mono k) (by kernel_rfl)
end Go.Proofs.Ytjgdalhdiohclaa.Q
end
