/- Part of the proof of TopRoad (text 31 of 33) -/
import Derived.Test.YtjgdalhdiohclaaZTopRoadz
import Derived.Test.YtjgdalhdiohclaaZTopRoadg
import Derived.Test.YtjgdalhdiohclaaZTopRoado
import Derived.Test.YtjgdalhdiohclaaZTopRoadzd
import Derived.Test.YtjgdalhdiohclaaZTopRoadj
import Derived.Test.YtjgdalhdiohclaaZTopRoadl
import Derived.RangeFuncLeaves
import Derived.RangeFuncRecord
import Derived.Test.YtjgdalhdiohclaaZTopRoadh
set_option linter.unusedVariables false
set_option linter.unusedSimpArgs false
set_option linter.unusedSectionVars false
set_option maxRecDepth 100000
set_option maxHeartbeats 8000000
open Go.RowKit Go.Proofs.YtjgdalhdiohclaaW.PrintWords Go.Proofs.YtjgdalhdiohclaaW.PrintLast Go.Proofs.YtjgdalhdiohclaaW.PrintMore
section
namespace Go.Proofs.Ytjgdalhdiohclaa.Q
attribute [local go_sem] Oper.semAt_some
theorem color_some.makes (A0 : Option Addr) (n c0 : Nat) (many : Int) (w : World) :
  Calls Try.prog 88 #[.slice A0 n c0, .int .i64 many] w fun e w' => ∃ Ob Mb : Nat, e = .returned (.func (.func 109) #[] #[.pointer (some ⟨Mb, 0, none⟩), .pointer (some ⟨Ob, 0, none⟩)]) ∧ w.heap.size ≤ Ob ∧ w.heap.size ≤ Mb ∧ w'.heap[Ob]? = some (.cells #[.slice A0 n c0] 87 (0, 0)) ∧ w'.heap[Mb]? = some (.cells #[.int .i64 many] 3 (0, 0)) ∧ Below w.heap.size w w' := by
 go_enter Try.func88, Try.ntmps88
 go_wp2_with (first | ((with_reducible refine gate_dst (N := 2) rfl ?_); refine box_event zz5 (N := 2) zz5 (cs := #[.slice A0 n c0]) (t := 87) zz6 ?_; intro B hBe w1 hbox hb1; have HBE := am (show w.heap.size ≤ B by omega); have HX := am hbox; have HB := am hb1; clear hbox hb1 hBe)  | ((with_reducible refine gate_dst (N := 3) rfl ?_); refine box_event zz5 (N := 3) zz5 (cs := #[.int .i64 many]) (t := 3) zz6 ?_; intro M hMe w2 hbox2 hb2; have HME := am (show w.heap.size ≤ M by have := HB.out.size; omega); have HX2 := am (blk_below HX.out hb2); have HY2 := am hbox2; have HB2 := am (below_step HB.out hb2); clear hbox2 hb2 hMe))
 go_ret
 exact ⟨B, M, rfl, HBE.out, HME.out, HX2.out, HY2.out, HB2.out⟩
def shows (Q : Nat → Prop) [DecidablePred Q] (w : World) : World := { w with heap := Array.ofFn (n := w.heap.size) fun b => if Q b.val then w.heap[b] else .cells #[] 0 (0, 0) }
theorem shows_at (Q : Nat → Prop) [DecidablePred Q] (w : World) (b : Nat) (h : Q b) : (shows Q w).heap[b]? = w.heap[b]? := by
 unfold shows
 by_cases hb : b < w.heap.size
 ·simp [hb, h]
 ·simp [hb, Array.getElem?_eq_none (Nat.le_of_not_lt hb)]
theorem shows_only (Q : Nat → Prop) [DecidablePred Q] (w : World) (a : Addr) (x : Value) (h : (shows Q w).cell? a = some x) : Q a.block := by
 by_cases hq : Q a.block
 ·exact hq
 ·exfalso
  by_cases hb : a.block < w.heap.size
  ·have e : (shows Q w).heap[a.block]? = some (.cells #[] 0 (0, 0)) := by
    unfold shows
    simp [hb, hq]
   simp only [World.cell?, e] at h
   split at h <;> simp at h
  ·have e : (shows Q w).heap[a.block]? = none := by
    unfold shows
    simp [hb]
   simp only [World.cell?, e] at h
   cases h
theorem C_rows_cells {w W : World} {A : Option Addr} {a : List (List Int)} (hk : ∀ a x, w.cell? a = some x → W.cell? a = some x) (h : Kd.C (Kd.slice 3 (Kd.int .i64)) w A a.length a) : Kd.C (Kd.slice 3 (Kd.int .i64)) W A a.length a := by
 obtain ⟨h1, h2, h3⟩ := h
 refine ⟨h1, h2, fun h0 => ?_⟩
 obtain ⟨ad, e, hc⟩ := h3 h0
 refine ⟨ad, e, fun j p hj => ?_⟩
 obtain ⟨cs, g1, ⟨A1, c1, e1, l1, C1⟩, g3⟩ := hc j p hj
 exact ⟨cs, g1, ⟨A1, c1, e1, l1, C_int_cells hk C1⟩, fun i u hu => hk _ _ (g3 i u hu)⟩
theorem cells_putLoop {W : World} {l : Nat} {r : Loop} (h : W.heap[l]? = some (.loop r)) (o : Obj) : ∀ a x, W.cell? a = some x → (W.putObj l o).cell? a = some x := by
 intro a x hx
 refine (cell_of_heap (World.putObj_heap_other fun e => ?_)).trans hx
 simp only [World.cell?] at hx
 rw [e, h] at hx
 cases hx
structure IR (w : World) (C2 C3 C4 : Nat) (own : Nat → Prop) (W : World) (u2 u3 u4 : Value) : Prop where
 below : Below w.heap.size w W
 c2 : W.heap[C2]? = some (.cells #[u2] 24 (0, 0))
 c3 : W.heap[C3]? = some (.cells #[u3] 28 (0, 0))
 c4 : W.heap[C4]? = some (.cells #[u4] 25 (0, 0))
 n2 : ¬ own C2
 n3 : ¬ own C3
 n4 : ¬ own C4
 h2 : w.heap.size ≤ C2
 h3 : w.heap.size ≤ C3
 h4 : w.heap.size ≤ C4
section
variable {w : World} {C2 C3 C4 D : Nat} {own own' : Nat → Prop} {W W' : World} {u2 u3 u4 : Value} {x : Option (List Deferred)}
theorem IR.stable (h : IR w C2 C3 C4 own W u2 u3 u4) (hk : KeptL w.heap.size own W W') (hs : ∀ b, own b → w.heap.size ≤ b) (hn : ∀ b, own' b → own b ∨ W.heap.size ≤ b) : IR w C2 C3 C4 own' W' u2 u3 u4 :=
 ⟨hk.below h.below hs, hk.cells h.c2 h.n2, hk.cells h.c3 h.n3, hk.cells h.c4 h.n4, fun ho => (hn _ ho).elim h.n2 (by have := blk_ltS h.c2; omega), fun ho => (hn _ ho).elim h.n3 (by have := blk_ltS h.c3; omega), fun ho => (hn _ ho).elim h.n4 (by have := blk_ltS h.c4; omega), h.h2, h.h3, h.h4⟩
theorem IR.next (h : IR w C2 C3 C4 own W u2 u3 u4) (hb : Below W.heap.size W W') : IR w C2 C3 C4 own W' u2 u3 u4 :=
 ⟨below_step h.below hb, blk_below h.c2 hb, blk_below h.c3 hb, blk_below h.c4 hb, h.n2, h.n3, h.n4, h.h2, h.h3, h.h4⟩
theorem IR.putD (h : IR w C2 C3 C4 own W u2 u3 u4) (hk : W.heap[D]? = some (.deferred x)) (hD : w.heap.size ≤ D) (o : Obj) : IR w C2 C3 C4 own (W.putObj D o) u2 u3 u4 := by
 have n2 : C2 ≠ D := fun e => by subst e; rw [h.c2] at hk; cases hk
 have n3 : C3 ≠ D := fun e => by subst e; rw [h.c3] at hk; cases hk
 have n4 : C4 ≠ D := fun e => by subst e; rw [h.c4] at hk; cases hk
 exact ⟨⟨h.below.os, h.below.tape, h.below.output, by simpa using h.below.size, fun b hb => (World.putObj_heap_other (by omega)).trans (h.below.block b hb)⟩, (World.putObj_heap_other n2).trans h.c2, (World.putObj_heap_other n3).trans h.c3, (World.putObj_heap_other n4).trans h.c4, h.n2, h.n3, h.n4, h.h2, h.h3, h.h4⟩
theorem IR.put (h : IR w C2 C3 C4 own W u2 u3 u4) (e1 : C2 ≠ C3) (e2 : C2 ≠ C4) (e3 : C3 ≠ C4) (v2 v3 v4 : Value) : IR w C2 C3 C4 own (((W.setCell ⟨C2, 0, none⟩ v2).setCell ⟨C3, 0, none⟩ v3).setCell ⟨C4, 0, none⟩ v4) v2 v3 v4 := by
 have a2 := blk_put (cs := #[u2]) h.c2 0 v2 rfl
 have a3 : (W.setCell ⟨C2, 0, none⟩ v2).heap[C3]? = some (.cells #[u3] 28 (0, 0)) := (Below.heap_setCell W ⟨C2, 0, none⟩ v2 C3 (Ne.symm e1)).trans h.c3
 have a4 : (W.setCell ⟨C2, 0, none⟩ v2).heap[C4]? = some (.cells #[u4] 25 (0, 0)) := (Below.heap_setCell W ⟨C2, 0, none⟩ v2 C4 (Ne.symm e2)).trans h.c4
 have b3 := blk_put (cs := #[u3]) a3 0 v3 rfl
 have b2 := (Below.heap_setCell (W.setCell ⟨C2, 0, none⟩ v2) ⟨C3, 0, none⟩ v3 C2 e1).trans a2
 have b4 := (Below.heap_setCell (W.setCell ⟨C2, 0, none⟩ v2) ⟨C3, 0, none⟩ v3 C4 (Ne.symm e3)).trans a4
 have d4 := blk_put (cs := #[u4]) b4 0 v4 rfl
 have d2 := (Below.heap_setCell ((W.setCell ⟨C2, 0, none⟩ v2).setCell ⟨C3, 0, none⟩ v3) ⟨C4, 0, none⟩ v4 C2 e2).trans b2
 have d3 := (Below.heap_setCell ((W.setCell ⟨C2, 0, none⟩ v2).setCell ⟨C3, 0, none⟩ v3) ⟨C4, 0, none⟩ v4 C3 e3).trans b3
 exact ⟨((h.below.setCell (p := ⟨C2, 0, none⟩) h.h2 _).setCell (p := ⟨C3, 0, none⟩) h.h3 _).setCell (p := ⟨C4, 0, none⟩) h.h4 _, d2, d3, d4, h.n2, h.n3, h.n4, h.h2, h.h3, h.h4⟩
theorem IR.o3 (h : IR w C2 C3 C4 own W u2 u3 u4) (e1 : C2 ≠ C3) (v2 : Value) : (W.setCell ⟨C2, 0, none⟩ v2).heap[C3]? = some (.cells #[u3] 28 (0, 0)) := (Below.heap_setCell W ⟨C2, 0, none⟩ v2 C3 (Ne.symm e1)).trans h.c3
theorem IR.o4 (h : IR w C2 C3 C4 own W u2 u3 u4) (e2 : C2 ≠ C4) (e3 : C3 ≠ C4) (v2 v3 : Value) : ((W.setCell ⟨C2, 0, none⟩ v2).setCell ⟨C3, 0, none⟩ v3).heap[C4]? = some (.cells #[u4] 25 (0, 0)) :=
 (Below.heap_setCell (W.setCell ⟨C2, 0, none⟩ v2) ⟨C3, 0, none⟩ v3 C4 (Ne.symm e3)).trans ((Below.heap_setCell W ⟨C2, 0, none⟩ v2 C4 (Ne.symm e2)).trans h.c4)
theorem IR.start {w1 : World} (h : Below w.heap.size w w1) : IR w w1.heap.size (w1.heap.size + 1) (w1.heap.size + 2) (fun _ => False) (((w1.alloc (.cells #[.slice none 0 0] 24)).alloc (.cells #[.slice none 0 0] 28)).alloc (.cells #[.int .i64 0] 25)) (.slice none 0 0) (.slice none 0 0) (.int .i64 0) := by
 have hs := h.size
 have g2 := World.alloc_heap_new w1 (.cells #[.slice none 0 0] 24)
 have g3 := World.alloc_heap_new (w1.alloc (.cells #[.slice none 0 0] 24)) (.cells #[.slice none 0 0] 28)
 have g4 := World.alloc_heap_new ((w1.alloc (.cells #[.slice none 0 0] 24)).alloc (.cells #[.slice none 0 0] 28)) (.cells #[.int .i64 0] 25)
 simp only [World.size_alloc] at g3 g4
 exact ⟨((h.alloc hs _).alloc (by simp; omega) _).alloc (by simp; omega) _, blk_alloc (blk_alloc g2 _) _, blk_alloc g3 _, g4, id, id, id, hs, by omega, by omega⟩
theorem R_put3 {base e : Nat} {ok : Nat → Prop} {v v2 v3 v4 : Value} {l : List Int} (h : Kd.R (Kd.int .i64) e W base ok v l) (hi : IR w C2 C3 C4 own W u2 u3 u4) (hn : ∀ b, ok b → b ≠ C2 ∧ b ≠ C3 ∧ b ≠ C4) : Kd.R (Kd.int .i64) e (((W.setCell ⟨C2, 0, none⟩ v2).setCell ⟨C3, 0, none⟩ v3).setCell ⟨C4, 0, none⟩ v4) base ok v l := by
 refine Kd.R_step h fun b hb hlt => ?_
 obtain ⟨n2, n3, n4⟩ := hn b hb
 rw [Below.heap_setCell _ ⟨C4, 0, none⟩ v4 b n4, Below.heap_setCell _ ⟨C3, 0, none⟩ v3 b n3, Below.heap_setCell _ ⟨C2, 0, none⟩ v2 b n2]
theorem S_put3 {base e : Nat} {ok : Nat → Prop} {v v2 v3 v4 : Value} {l : List (List Int)} (h : Kd.S (Kd.slice 3 (Kd.int .i64)) e W base ok v l) (hi : IR w C2 C3 C4 own W u2 u3 u4) (hn : ∀ b, ok b → b ≠ C2 ∧ b ≠ C3 ∧ b ≠ C4) : Kd.S (Kd.slice 3 (Kd.int .i64)) e (((W.setCell ⟨C2, 0, none⟩ v2).setCell ⟨C3, 0, none⟩ v3).setCell ⟨C4, 0, none⟩ v4) base ok v l := by
 refine Kd.S_step h fun b hb hlt => ?_
 obtain ⟨n2, n3, n4⟩ := hn b hb
 rw [Below.heap_setCell _ ⟨C4, 0, none⟩ v4 b n4, Below.heap_setCell _ ⟨C3, 0, none⟩ v3 b n3, Below.heap_setCell _ ⟨C2, 0, none⟩ v2 b n2]
theorem S_stableL {base b0 e : Nat} {p : Nat → Prop} {v : Value} {l : List (List Int)} (h : Kd.S (Kd.slice 3 (Kd.int .i64)) e W base (fun b => ¬ own b ∧ p b) v l) (hk : KeptL b0 own W W') (hn : ∀ b, own' b → own b ∨ W.heap.size ≤ b) : Kd.S (Kd.slice 3 (Kd.int .i64)) e W' base (fun b => ¬ own' b ∧ p b) v l := by
 refine Kd.S_mono (Kd.S_step (Kd.S_bound h) fun b hb hlt => ?_) fun b hb => ⟨fun ho => (hn b ho).elim hb.1.1 (by have := hb.2.2.1; omega), hb.1.2⟩
 obtain ⟨⟨hb1, _⟩, _, _, q, _, cells, hc⟩ := hb
 rw [hk.cells hc hb1, hc]
theorem S_putD {base e : Nat} {q p : Nat → Prop} {v : Value} {l : List (List Int)} (h : Kd.S (Kd.slice 3 (Kd.int .i64)) e W base (fun b => q b ∧ p b) v l) (hk : W.heap[D]? = some (.deferred x)) (o : Obj) : Kd.S (Kd.slice 3 (Kd.int .i64)) e (W.putObj D o) base p v l := by
 refine Kd.S_mono (Kd.S_step (Kd.S_bound h) fun b hb hlt => ?_) fun b hb => hb.1.2
 obtain ⟨_, _, _, q, _, cells, hc⟩ := hb
 exact World.putObj_heap_other fun e => by subst e; rw [hc] at hk; cases hk
end
theorem res_cells3 {fn : Func} (hf : fn.results = #[.cell 2 24, .cell 3 28, .cell 4 25]) {tmps : Array Value} {C2 C3 C4 : Nat} (h2 : tmps.getD 2 undef = .pointer (some ⟨C2, 0, none⟩)) (h3 : tmps.getD 3 undef = .pointer (some ⟨C3, 0, none⟩)) (h4 : tmps.getD 4 undef = .pointer (some ⟨C4, 0, none⟩)) {W : World} {v2 : Value} {A : Option Addr} {n c : Nat} {r : Int}
  (c2 : W.heap[C2]? = some (.cells #[v2] 24 (0, 0))) (c3 : W.cell? ⟨C3, 0, none⟩ = some (.slice A n c)) (c4 : W.cell? ⟨C4, 0, none⟩ = some (.int .i64 r)) : (results fn tmps).run Try.prog W = .ok (.tuple #[.agg #[v2], .slice A n c, .int .i64 r]) W := by
 have h2' : tmps[2]?.getD undef = .pointer (some ⟨C2, 0, none⟩) := by simpa using h2
 have h3' : tmps[3]?.getD undef = .pointer (some ⟨C3, 0, none⟩) := by simpa using h3
 have h4' : tmps[4]?.getD undef = .pointer (some ⟨C4, 0, none⟩) := by simpa using h4
 have hl := run_loadVar_row (P := Try.prog) W C2 24 24 #[v2] (0, 0) _ c2 Try.underlying24 rfl (by kernel_rfl)
 simp only [results, hf]
 simp [h2', h3', h4', asAddr, hl]
 simp [go_sem, c3, c4]
def roadS (k : Nat) (R : Option (List (List Int) × List Int × Int)) : List (List (List Int)) → Option (List (List Int) × List Int × Int)
 | [] => R
 | b :: r => (reset_Reset.f k b).bind fun q => if q.2 = 0 then (color_copied.f k b).bind fun c => some (c, q.1, 0) else roadS k R r
def roadR (k : Nat) (os : Orders) : Option (List (List Int) × List Int × Int) := (color_count.f k os).bind fun c => if c.2 = true then (if 1000000 < c.1 then some ([], [], 3) else (color_every.f os).bind fun L => roadS k (some ([], [], 3)) L) else some ([], [], 3)
def color_Road.f (k : Nat) (a0 : List (List Int)) : Option (List (List Int) × List Int × Int) := (net_Period.f k a0).bind fun p => if p.2 = 0 then (if 1 < p.1 then some ([], [], 4) else (color_all.f k a0).bind fun os => (color_some.f k os 300).bind fun L => roadS k (roadR k os) L) else some ([], [], p.2)
theorem roadS.mono (k : Nat) {R R' : Option (List (List Int) × List Int × Int)} (h : LeO R R') : ∀ L, LeO (roadS k R L) (roadS (k + 1) R' L)
 | [] => h
 | b :: r => by
  unfold roadS
  exact LeO.bind (reset_Reset.mono _ _) fun q => LeO.ite (LeO.bind (color_copied.mono _ _) fun c => LeO.refl _) (roadS.mono k h r)
theorem roadR.mono (k : Nat) (os : Orders) : LeO (roadR k os) (roadR (k + 1) os) := by
 unfold roadR
 exact LeO.bind (color_count.mono _ _) fun c => LeO.ite (LeO.ite (LeO.refl _) (LeO.bind (LeO.refl _) fun L => roadS.mono k (LeO.refl _) L)) (LeO.refl _)
theorem color_Road.mono : ∀ a0 k, LeO (color_Road.f k a0) (color_Road.f (k + 1) a0) := by
 intro a0 k
 unfold color_Road.f
 refine LeO.bind (net_Period.mono _ _) fun p => LeO.ite (LeO.ite (LeO.refl _) ?_) (LeO.refl _)
 exact LeO.bind (color_all.mono _ _) fun os => LeO.bind (color_some.mono _ _ _) fun L => roadS.mono k (roadR.mono k os) L
structure XA (K : Nat → Prop) (v0 : World) (own : Nat → Prop) (W : World) : Prop where
 keep : ∀ b, K b → b < W.heap.size ∧ W.heap[b]? = v0.heap[b]?
structure XB (D : Nat) (own : Nat → Prop) (W : World) : Prop where
 at_ : W.heap[D]? = some (.deferred (some []))
 no : ¬ own D
section
variable {K : Nat → Prop} {v0 W W' : World} {own own' : Nat → Prop} {D l : Nat}
theorem XA.next (h : XA K v0 own W) (hb : Below W.heap.size W W') : XA K v0 own W' := ⟨fun b hk => ⟨Nat.lt_of_lt_of_le (h.keep b hk).1 hb.size, (hb.block b (h.keep b hk).1).trans (h.keep b hk).2⟩⟩
theorem XA.stable (h : XA K v0 own W) (hr : Roed K W W') (hs : W.heap.size ≤ W'.heap.size) : XA K v0 own' W' := ⟨fun b hk => ⟨Nat.lt_of_lt_of_le (h.keep b hk).1 hs, (hr b hk (h.keep b hk).1).trans (h.keep b hk).2⟩⟩
theorem XA.putL (h : XA K v0 own W) {r : Loop} (hl : W.heap[l]? = some (.loop r)) (hn : ∀ b, K b → b < l) (o : Obj) : XA K v0 own (W.putObj l o) := ⟨fun b hk => ⟨by simpa using (h.keep b hk).1, (World.putObj_heap_other (by have := hn b hk; omega)).trans (h.keep b hk).2⟩⟩
theorem XB.next (h : XB D own W) (hb : Below W.heap.size W W') : XB D own W' := ⟨(hb.block D (blk_ltS h.at_)).trans h.at_, h.no⟩
theorem XB.stable (h : XB D own W) {base : Nat} (hk : KeptL base own W W') (hn : ∀ b, own' b → own b ∨ W.heap.size ≤ b) : XB D own' W' := ⟨(hk.block D (blk_ltS h.at_) h.no (Or.inr fun r e => by rw [h.at_] at e; cases e)).trans h.at_, fun ho => (hn D ho).elim h.no (by have := blk_ltS h.at_; omega)⟩
theorem XB.putL (h : XB D own W) {r : Loop} (hl : W.heap[l]? = some (.loop r)) (o : Obj) : XB D own (W.putObj l o) := ⟨(World.putObj_heap_other fun e => by have ha := h.at_; rw [e, hl] at ha; cases ha).trans h.at_, h.no⟩
theorem XB.set (h : XB D own W) {g : Nat} {cs : Array Value} {t : TypeId} {fr : Nat × Nat} (hg : W.heap[g]? = some (.cells cs t fr)) (v : Value) : XB D own (W.setCell ⟨g, 0, none⟩ v) := ⟨D_put h.at_ hg v, h.no⟩
end
theorem color_Road.calls (k : Nat) (A0_0 : Option Addr) (c0_0 : Nat) (l0_0 : List (List Int)) (r1 : List (List Int)) (r2 : List Int) (r3 : Int) (w : World) (hr0_0 : Kd.C (Kd.slice 3 (Kd.int .i64)) w A0_0 l0_0.length l0_0) (hc0_0 : l0_0.length ≤ c0_0) (h : color_Road.f k l0_0 = some (r1, r2, r3)) :
  Calls Try.prog 49 #[.agg #[.slice A0_0 l0_0.length c0_0]] w fun e w' => ∃ v0_ v1_ : Value, e = .returned (.tuple #[.agg #[v0_], v1_, .int .i64 r3]) ∧ Kd.S (Kd.slice 3 (Kd.int .i64)) 28 w' w.heap.size (fun k_ => some k_ ≠ (v1_ : Value).ownBlock) v0_ r1 ∧ Kd.R (Kd.int .i64) 3 w' w.heap.size (fun _ => True) v1_ r2 ∧ Below w.heap.size w w' := by
 have HR := am hr0_0
 have HC := am hc0_0
 have HB0 := Below.refl w.heap.size w
 clear hr0_0 hc0_0
 obtain ⟨⟨d, e⟩, he, h⟩ := Option.bind_eq_some_iff.1 h
 have HE := am he
 have H := am h
 clear he h
 refine callsIn_wide.1 (callsIn_of_wp_marks (n := 0) Try.func49 rfl trivial (wpIn_wide.2 ?_) rfl)
 simp only [Try.ntmps49, List.size_toArray, List.length_cons, List.length_nil, Nat.reduceAdd, Nat.reduceSub, Array.replicate_succ, Array.replicate_zero, List.push_toArray, List.append_toArray, List.nil_append, List.cons_append]
 by_cases de : e = 0
 rotate_left
 ·have h1 := H.out
  simp only [if_neg de, Option.some.injEq, Prod.mk.injEq] at h1
  obtain ⟨rfl, rfl, rfl⟩ := h1
  have d' : (e == 0) = false := by simp [de]
  clear H
  go_wp2_with (first | ((with_reducible refine gate_dst (N := 1) rfl ?_); refine box_event zz5 (N := 1) zz5 (cs := #[.slice A0_0 l0_0.length c0_0]) (t := 24) zz6 ?_; intro B hBe w1 hbox hb1; have HBE := am (show w.heap.size ≤ B by omega); have HB1 := am (below_step HB0 hb1); have HI1 := am (IR.start HB1.out); have HX := am (show (((w1.alloc (.cells #[.slice none 0 0] 24)).alloc (.cells #[.slice none 0 0] 28)).alloc (.cells #[.int .i64 0] 25)).heap[B]? = some (.cells #[.slice A0_0 l0_0.length c0_0] 24 (0, 0)) from blk_alloc (blk_alloc (blk_alloc hbox _) _) _); have hcb : (((w1.alloc (.cells #[.slice none 0 0] 24)).alloc (.cells #[.slice none 0 0] 28)).alloc (.cells #[.int .i64 0] 25)).cell? ⟨B, 0, none⟩ = some (.slice A0_0 l0_0.length c0_0) := (blk_cell HX.out 0).trans rfl; clear hbox hb1 hBe)  | (go_at_call 25; refine (net_Period.calls _ _ _ _ _ _ _ (Kd.C_below HR.out HI1.out.below) HC.out HE.out).mono ?_; rintro e2 w2 ⟨rfl, hb2⟩; have HI2 := am (HI1.out.next hb2); have hx2 := blk_below HX.out hb2; have HX2 := am hx2; have hcb2 : w2.cell? ⟨B, 0, none⟩ = some (.slice A0_0 l0_0.length c0_0) := (blk_cell hx2 0).trans rfl; have hc2 := (blk_cell HI2.out.c2 0).trans (rfl : _ = some (Value.slice none 0 0)); have hf2 := blk_frozen HI2.out.c2 0; have hc3 := (blk_cell HI2.out.c3 0).trans (rfl : _ = some (Value.slice none 0 0)); have hf3 := blk_frozen HI2.out.c3 0; have hc4 := (blk_cell HI2.out.c4 0).trans (rfl : _ = some (Value.int .i64 0)); have hf4 := blk_frozen HI2.out.c4 0; clear hb2 hx2))
  have HI4 := am (HI2.out.put (by omega) (by omega) (by omega) (.slice none 0 0) (.slice none 0 0) (.int .i64 e))
  refine ⟨_, res_cells3 rfl rfl rfl rfl HI4.out.c2 ((blk_cell HI4.out.c3 0).trans rfl) ((blk_cell HI4.out.c4 0).trans rfl), _, _, rfl, Kd.S_nil _ _ _ _ _, Kd.R_nil _ _ _ _ _, HI4.out.below⟩
 subst de
 have d' : ((0 : Int) == 0) = true := rfl
 have H1 := H.out
 simp only [if_true] at H1
 by_cases dd : 1 < d
 ·rw [if_pos dd] at H1
  simp only [Option.some.injEq, Prod.mk.injEq] at H1
  obtain ⟨rfl, rfl, rfl⟩ := H1
  have d1 : decide (1 < d) = true := decide_eq_true dd
  clear H dd
  go_wp2_with (first | ((with_reducible refine gate_dst (N := 1) rfl ?_); refine box_event zz5 (N := 1) zz5 (cs := #[.slice A0_0 l0_0.length c0_0]) (t := 24) zz6 ?_; intro B hBe w1 hbox hb1; have HBE := am (show w.heap.size ≤ B by omega); have HB1 := am (below_step HB0 hb1); have HI1 := am (IR.start HB1.out); have HX := am (show (((w1.alloc (.cells #[.slice none 0 0] 24)).alloc (.cells #[.slice none 0 0] 28)).alloc (.cells #[.int .i64 0] 25)).heap[B]? = some (.cells #[.slice A0_0 l0_0.length c0_0] 24 (0, 0)) from blk_alloc (blk_alloc (blk_alloc hbox _) _) _); have hcb : (((w1.alloc (.cells #[.slice none 0 0] 24)).alloc (.cells #[.slice none 0 0] 28)).alloc (.cells #[.int .i64 0] 25)).cell? ⟨B, 0, none⟩ = some (.slice A0_0 l0_0.length c0_0) := (blk_cell HX.out 0).trans rfl; clear hbox hb1 hBe)  | (go_at_call 25; refine (net_Period.calls _ _ _ _ _ _ _ (Kd.C_below HR.out HI1.out.below) HC.out HE.out).mono ?_; rintro e2 w2 ⟨rfl, hb2⟩; have HI2 := am (HI1.out.next hb2); have hx2 := blk_below HX.out hb2; have HX2 := am hx2; have hcb2 : w2.cell? ⟨B, 0, none⟩ = some (.slice A0_0 l0_0.length c0_0) := (blk_cell hx2 0).trans rfl; have hc2 := (blk_cell HI2.out.c2 0).trans (rfl : _ = some (Value.slice none 0 0)); have hf2 := blk_frozen HI2.out.c2 0; have hc3 := (blk_cell HI2.out.c3 0).trans (rfl : _ = some (Value.slice none 0 0)); have hf3 := blk_frozen HI2.out.c3 0; have hc4 := (blk_cell HI2.out.c4 0).trans (rfl : _ = some (Value.int .i64 0)); have hf4 := blk_frozen HI2.out.c4 0; clear hb2 hx2))
  have HI4 := am (HI2.out.put (by omega) (by omega) (by omega) (.slice none 0 0) (.slice none 0 0) (.int .i64 4))
  refine ⟨_, res_cells3 rfl rfl rfl rfl HI4.out.c2 ((blk_cell HI4.out.c3 0).trans rfl) ((blk_cell HI4.out.c4 0).trans rfl), _, _, rfl, Kd.S_nil _ _ _ _ _, Kd.R_nil _ _ _ _ _, HI4.out.below⟩
 ·rw [if_neg dd] at H1
  have d1 : decide (1 < d) = false := decide_eq_false dd
  obtain ⟨os, ho, H2⟩ := Option.bind_eq_some_iff.1 H1
  obtain ⟨L, hL, hF⟩ := Option.bind_eq_some_iff.1 H2
  have HO := am ho
  have HL := am hL
  have HF := am hF
  clear H H1 H2 ho hL hF dd
  go_wp2_with (first | ((with_reducible refine gate_dst (N := 1) rfl ?_); refine box_event zz5 (N := 1) zz5 (cs := #[.slice A0_0 l0_0.length c0_0]) (t := 24) zz6 ?_; intro B hBe w1 hbox hb1; have HBE := am (show w.heap.size ≤ B by omega); have HB1 := am (below_step HB0 hb1); have HI1 := am (IR.start HB1.out); have HX := am (show (((w1.alloc (.cells #[.slice none 0 0] 24)).alloc (.cells #[.slice none 0 0] 28)).alloc (.cells #[.int .i64 0] 25)).heap[B]? = some (.cells #[.slice A0_0 l0_0.length c0_0] 24 (0, 0)) from blk_alloc (blk_alloc (blk_alloc hbox _) _) _); have hcb : (((w1.alloc (.cells #[.slice none 0 0] 24)).alloc (.cells #[.slice none 0 0] 28)).alloc (.cells #[.int .i64 0] 25)).cell? ⟨B, 0, none⟩ = some (.slice A0_0 l0_0.length c0_0) := (blk_cell HX.out 0).trans rfl; clear hbox hb1 hBe)  | (go_at_call 25; refine (net_Period.calls _ _ _ _ _ _ _ (Kd.C_below HR.out HI1.out.below) HC.out HE.out).mono ?_; rintro e2 w2 ⟨rfl, hb2⟩; have HI2 := am (HI1.out.next hb2); have hx2 := blk_below HX.out hb2; have HX2 := am hx2; have hcb2 : w2.cell? ⟨B, 0, none⟩ = some (.slice A0_0 l0_0.length c0_0) := (blk_cell hx2 0).trans rfl; have hc2 := (blk_cell HI2.out.c2 0).trans (rfl : _ = some (Value.slice none 0 0)); have hf2 := blk_frozen HI2.out.c2 0; have hc3 := (blk_cell HI2.out.c3 0).trans (rfl : _ = some (Value.slice none 0 0)); have hf3 := blk_frozen HI2.out.c3 0; have hc4 := (blk_cell HI2.out.c4 0).trans (rfl : _ = some (Value.int .i64 0)); have hf4 := blk_frozen HI2.out.c4 0; clear hb2 hx2)  | (go_at_call 86; refine (color_all.calls _ _ _ _ _ _ (Kd.C_below HR.out HI2.out.below) HC.out HO.out).mono ?_; rintro e3 w3 ⟨v0, rfl, hR3, hb3⟩; obtain ⟨Ao, co, rfl⟩ := Kd.R_slice hR3; have HI3 := am (HI2.out.next hb3); have HS3 := am hb3.size; have HR3 := am hR3; clear hR3 hb3)  | (go_at_call 88; refine (color_some.makes _ _ _ _ _).mono ?_; rintro e4 w4 ⟨Ob, Mb, rfl, hO, hM, xO, xM, hb4⟩; have HI4 := am (HI3.out.next hb4); have HR4 := am (Kd.R_below HR3.out hb4); have HS34 := am hb4.size; have HO4 := am hO; have HM4 := am hM; have XO := am xO; have XM := am xM; clear hO hM xO xM hb4))
  have HS2 : Aside0 (w1.heap.size + 2 < w2.heap.size) := ⟨blk_ltS HI2.out.c4⟩
  have HN23 : Aside0 (w1.heap.size ≠ w1.heap.size + 1) := ⟨by omega⟩
  have HN24 : Aside0 (w1.heap.size ≠ w1.heap.size + 2) := ⟨by omega⟩
  have HN34 : Aside0 (w1.heap.size + 1 ≠ w1.heap.size + 2) := ⟨by omega⟩
  have HL2 : Aside0 (w1.heap.size < w2.heap.size) := ⟨by have := HS2.out; omega⟩
  have HL3 : Aside0 (w1.heap.size + 1 < w2.heap.size) := ⟨by have := HS2.out; omega⟩
  have HO5 : Aside0 (w2.heap.size ≤ Ob) := ⟨Nat.le_trans HS3.out HO4.out⟩
  have HM5 : Aside0 (w2.heap.size ≤ Mb) := ⟨Nat.le_trans HS3.out HM4.out⟩
  have HLW2 : Aside0 (w.heap.size ≤ w2.heap.size) := ⟨HI2.out.below.size⟩
  have HS4 : Aside0 (w2.heap.size ≤ w4.heap.size) := ⟨Nat.le_trans HS3.out HS34.out⟩
  clear HI1 HI2 HI3 HR3 HX HX2 HB1 hcb hcb2 hc2 hf2 hc3 hf3 hc4 hf4 HO4 HM4 HS3 HS34 HBE
  generalize w1.heap.size + 2 = C4 at HI4 HS2 HN24 HN34 ⊢
  generalize w1.heap.size + 1 = C3 at HI4 HN23 HN34 HL3 ⊢
  generalize w1.heap.size = C2 at HI4 HN23 HN24 HL2 ⊢
  generalize w2.heap.size = lo at HS2 HL2 HL3 HO5 HM5 HLW2 HS4 HR4
  have HRC : Aside0 (os.length ≤ co ∧ Kd.C (Kd.slice 28 (Kd.slice 3 (Kd.int .i64))) (shows (fun b => lo ≤ b ∧ b < w4.heap.size) w4) Ao os.length os) := by
   obtain ⟨_, h1, h2⟩ := Kd.R_reads' (Kd.R_step (w1 := shows (fun b => lo ≤ b ∧ b < w4.heap.size) w4) (Kd.R_bound HR4.out) (fun b hb hlt => shows_at (fun b => lo ≤ b ∧ b < w4.heap.size) w4 b ⟨hb.2.1, hb.2.2.1⟩))
   exact ⟨⟨h1, h2⟩⟩
  have seq := color_some.seq k Ao co os 300 L Ob Mb w.heap.size (fun b => lo ≤ b ∧ b < w4.heap.size) (shows (fun b => lo ≤ b ∧ b < w4.heap.size) w4) ⟨HO5.out, blk_ltS XO.out⟩ ⟨HM5.out, blk_ltS XM.out⟩ (shows_only _ _) HRC.out.2 HRC.out.1 HL.out
  refine wp_rangeFunc_iterR (ro := fun b => lo ≤ b ∧ b < w4.heap.size) (base := w.heap.size) (own0 := fun b => lo ≤ b ∧ b < w4.heap.size) rfl (enters_ Try.func109 (by kernel_rfl) rfl) seq (fun b hb => hb.2) HI4.out.below.size (fun b hb => ⟨hb.2, Nat.le_trans HLW2.out hb.1⟩) (fun W hW => ⟨Nat.le_trans HI4.out.below.size hW.size, fun b hq => ⟨Nat.lt_of_lt_of_le hq.2 hW.size, (hW.block b hq.2).trans (shows_at (fun b => lo ≤ b ∧ b < w4.heap.size) w4 b hq).symm⟩, blk_below XO.out hW, blk_below XM.out hW⟩) (fun own x W vs he => by obtain ⟨_, A, c, rfl, _⟩ := he; rfl)
   (fun own pre W => IR w C2 C3 C4 own W (.slice none 0 0) (.slice none 0 0) (.int .i64 0) ∧ XA (fun b => lo ≤ b ∧ b < w4.heap.size) w4 own W ∧ ∃ rest, L = pre ++ rest ∧ roadS k (roadR k os) rest = some (r1, r2, r3))
   (fun c own pre W => c = .ret ∧ ∃ v2 A n cp, IR w C2 C3 C4 own W v2 (.slice A n cp) (.int .i64 r3) ∧ Kd.S (Kd.slice 3 (Kd.int .i64)) 28 W w.heap.size (fun b => ¬ own b ∧ some b ≠ (Value.slice A n cp).ownBlock) v2 r1 ∧ Kd.R (Kd.int .i64) 3 W w.heap.size (fun b => ¬ own b) (.slice A n cp) r2)
   ?stI ?stX ?start ?round ?done ?stop
  case stI =>
   rintro own own' s A B ⟨hi, hxk, hr⟩ hk hro hs hn
   exact ⟨hi.stable hk hs hn, hxk.stable hro hk.size, hr⟩
  case stX =>
   rintro c own own' s A B ⟨rfl, v2, A1, n1, c1, hi, hS, hr⟩ hk hro hs hn
   exact ⟨rfl, v2, A1, n1, c1, hi.stable hk hs hn, S_stableL hS hk hn, R_stableL hr hk hn⟩
  case start => exact ⟨⟨HI4.out.below, HI4.out.c2, HI4.out.c3, HI4.out.c4, fun h => absurd h.1 (by have := HL2.out; omega), fun h => absurd h.1 (by have := HL3.out; omega), fun h => absurd h.1 (by have := HS2.out; omega), HI4.out.h2, HI4.out.h3, HI4.out.h4⟩, ⟨fun b hb => ⟨hb.2, rfl⟩⟩, L, rfl, HF.out⟩
  case stop =>
   rintro D c own pre W ⟨rfl, v2, A1, n1, c1, hi, hS, hR⟩ hbs hK hD
   have HI := am hi
   have HK := am hK
   have HRV := am hR
   have HSV := am hS
   have HD := am (show w.heap.size ≤ D from Nat.le_trans HI4.out.below.size hD)
   clear hi hK hR hS seq
   go_wp2_with fail
   have HI5 := HI.out.putD HK.out HD.out (.deferred none)
   refine ⟨by simp, .inl ⟨_, _, rfl, run_takeDeferred HK.out, ?_⟩⟩
   exact ⟨_, res_cells3 rfl rfl rfl rfl HI5.c2 ((blk_cell HI5.c3 0).trans rfl) ((blk_cell HI5.c4 0).trans rfl), _, _, rfl, S_putD HSV.out HK.out _, R_putD HRV.out HK.out _, HI5.below⟩
  case round =>
   rintro l D own pre x vs W ⟨hi, hxk, rest, hL, hF⟩ ⟨rest2, hL2⟩ ⟨hob, Ax, cx, rfl, hcx, hCx⟩ ⟨r, hr⟩ ⟨dd, hd⟩ hl hD hnl hnD hbs
   obtain rfl : rest = x :: rest2 := List.append_cancel_left (hL.symm.trans hL2)
   obtain ⟨⟨q1, q2⟩, hq, hF2⟩ := Option.bind_eq_some_iff.1 hF
   have HQ := am hq
   have HF2 := am hF2
   have HP : Aside0 (L = pre ++ [x] ++ rest2) := ⟨by rw [hL2]; simp⟩
   have HCX := am hcx
   have HBS := am hbs
   have HLW := am (show w.heap.size ≤ l from Nat.le_trans HI4.out.below.size hl)
   have hlW := blk_ltS hr
   have n2l : C2 ≠ l := fun e => by subst e; rw [hi.c2] at hr; cases hr
   have n3l : C3 ≠ l := fun e => by subst e; rw [hi.c3] at hr; cases hr
   have n4l : C4 ≠ l := fun e => by subst e; rw [hi.c4] at hr; cases hr
   have n2D : C2 ≠ D := fun e => by subst e; rw [hi.c2] at hd; cases hd
   have n3D : C3 ≠ D := fun e => by subst e; rw [hi.c3] at hd; cases hd
   have n4D : C4 ≠ D := fun e => by subst e; rw [hi.c4] at hd; cases hd
   have K2 : Aside0 (¬ keepR w.heap.size own l D C2) := ⟨fun h => by rcases h with (h | h) | h | h; exact absurd hi.h2 (by omega); exact hi.n2 h; exact n2l h; exact n2D h⟩
   have K3 : Aside0 (¬ keepR w.heap.size own l D C3) := ⟨fun h => by rcases h with (h | h) | h | h; exact absurd hi.h3 (by omega); exact hi.n3 h; exact n3l h; exact n3D h⟩
   have K4 : Aside0 (¬ keepR w.heap.size own l D C4) := ⟨fun h => by rcases h with (h | h) | h | h; exact absurd hi.h4 (by omega); exact hi.n4 h; exact n4l h; exact n4D h⟩
   have HB1 : Aside0 (Below W.heap.size W (W.alloc (.cells #[.slice Ax x.length cx] 24))) := ⟨ba (Below.refl _ _) _⟩
   have HX1 := am (World.alloc_heap_new W (.cells #[.slice Ax x.length cx] 24))
   have HI1 := am (hi.next HB1.out)
   have HK1 := am (hxk.next HB1.out)
   have HLK := am (show ∀ b, (lo ≤ b ∧ b < w4.heap.size) → b < l from fun b hb => Nat.lt_of_lt_of_le hb.2 hl)
   have HC1 := am (Kd.C_below hCx HB1.out)
   have HOW : Aside0 (∀ b, own b → b < W.heap.size) := ⟨hob⟩
   have HNL : Aside0 (W.heap.size ≠ l) := ⟨by omega⟩
   clear hi hxk hbs hq hF2 hF hL hL2 hd hr n2l n3l n4l n2D n3D n4D hCx hcx hob hlW seq
   rw [zip1]
   simp only [List.setIfInBounds_toArray, List.set_cons_succ, List.set_cons_zero]
   gi_wp2
   refine ⟨RoundKept.of_below HB1.out, ?_⟩
   rintro W2 r0 hr1 r1' rfl
   have HK2 := am (KeptL.putObj (own := own) (.loop r1') hr1 HLW.out)
   have HI2 := am (HI1.out.stable HK2.out HBS.out fun b hb => Or.inl hb)
   have HKK2 := am (HK1.out.putL hr1 HLK.out (.loop r1'))
   have HC2 := am (C_rows_cells (cells_putLoop hr1 (.loop r1')) HC1.out)
   have HX2 : Aside0 (((W.alloc (.cells #[.slice Ax x.length cx] 24)).putObj l (.loop r1')).heap[W.heap.size]? = some (.cells #[.slice Ax x.length cx] 24 (0, 0))) := ⟨(World.putObj_heap_other HNL.out).trans HX1.out⟩
   have HOW2 : Aside0 (∀ b, own b → b < ((W.alloc (.cells #[.slice Ax x.length cx] 24)).putObj l (.loop r1')).heap.size) := ⟨fun b hb => by have := HOW.out b hb; simp; omega⟩
   clear HK2 HI1 HK1 HC1 HX1 hr1 HOW HB1
   generalize (W.alloc (.cells #[.slice Ax x.length cx] 24)).putObj l (.loop r1') = W2 at HI2 HKK2 HC2 HX2 HOW2 ⊢
   generalize W.heap.size = X at HX2 HNL ⊢
   have hcx2 : W2.cell? ⟨X, 0, none⟩ = some (.slice Ax x.length cx) := (blk_cell HX2.out 0).trans rfl
   by_cases dq : q2 = 0
   ·subst dq
    obtain ⟨cp, hcp, hF3⟩ := Option.bind_eq_some_iff.1 (show ((color_copied.f k x).bind fun c => some (c, q1, (0 : Int))) = some (r1, r2, r3) from by have h1 := HF2.out; simp only [if_true] at h1; exact h1)
    simp only [Option.some.injEq, Prod.mk.injEq] at hF3
    obtain ⟨rfl, rfl, rfl⟩ := hF3
    have HCP := am hcp
    have b1 : ((0 : Int) == 0) = true := rfl
    clear HF2 hcp
    gi_wp2_with (first  | (refine ⟨trivial, rfl, ?_⟩; refine (CallsIn.inRound l (callsIn_wide.2 (reset_Reset.calls _ _ _ _ _ _ _ HC2.out HCX.out HQ.out))).mono ?_; rintro e3 W3 ⟨v1, rfl, hv1, hb3⟩; obtain ⟨A1, c1, rfl⟩ := Kd.R_slice hv1; have HB3 := am hb3; have HI3 := am (HI2.out.next hb3); have HV3 := am hv1; have HC3 := am (Kd.C_below HC2.out hb3); have HX3 := am (blk_below HX2.out hb3); have hcx3 : W3.cell? ⟨X, 0, none⟩ = some (.slice Ax x.length cx) := (blk_cell HX3.out 0).trans rfl; clear hv1 hb3)  | (refine ⟨trivial, rfl, ?_⟩; refine (CallsIn.inRound l (callsIn_wide.2 (color_copied.calls _ _ _ _ _ _ HC3.out HCX.out HCP.out))).mono ?_; rintro e4 W4 ⟨v0, rfl, hv0, hb4⟩; obtain ⟨A0, c0, rfl⟩ := Kd.S_slice hv0; have HB4 := am (below_step HB3.out hb4); have HI4 := am (HI3.out.next hb4); have HV4 := am (Kd.R_below HV3.out hb4); have HW4 := am hv0; have hc2 := (blk_cell HI4.out.c2 0).trans (rfl : _ = some (Value.slice none 0 0)); have hf2 := blk_frozen HI4.out.c2 0; have ho3 := IR.o3 HI4.out HN23.out (.slice A0 cp.length c0); have hc3 := (blk_cell ho3 0).trans (rfl : _ = some (Value.slice none 0 0)); have hf3 := blk_frozen ho3 0; have ho4 := IR.o4 HI4.out HN24.out HN34.out (.slice A0 cp.length c0) (.slice A1 q1.length c1); have hc4 := (blk_cell ho4 0).trans (rfl : _ = some (Value.int .i64 0)); have hf4 := blk_frozen ho4 0; clear hv0 hb4 ho3 ho4))
    have HI5 := HI4.out.put HN23.out HN24.out HN34.out (.slice A0 cp.length c0) (.slice A1 q1.length c1) (.int .i64 0)
    have hk2 := blk_ltS HI2.out.c2
    have hk3 := blk_ltS HI2.out.c3
    have hk4 := blk_ltS HI2.out.c4
    refine ⟨(((RoundKept.of_below HB4.out).trans (RoundKept.set _ K2.out)).trans (RoundKept.set _ K3.out)).trans (RoundKept.set _ K4.out), rfl, _, _, _, _, HI5, ?_, ?_⟩
    ·have h3 := HB3.out.size
     refine Kd.S_mono (Kd.S_lower (S_put3 (Kd.S_bound HW4.out) HI4.out fun b hb => ?_) (Nat.le_trans HI2.out.below.size h3)) fun b hb => ⟨fun ho => ?_, fun he => ?_⟩
     ·have := hb.2.1
      exact ⟨by omega, by omega, by omega⟩
     ·have h1 := HOW2.out b ho
      have h2 := hb.2.1
      omega
     ·have h1 := ((Kd.R_bound HV3.out).1 b he.symm).2.2.1
      have h2 := hb.2.1
      omega
    ·refine Kd.R_mono (Kd.R_lower (R_put3 (Kd.R_bound HV4.out) HI4.out fun b hb => ?_) HI2.out.below.size) fun b hb ho => ?_
     ·have := hb.2.1
      exact ⟨by omega, by omega, by omega⟩
     ·have h1 := HOW2.out b ho
      have h2 := hb.2.1
      omega
   ·have hh := HF2.out
    simp only [if_neg dq] at hh
    have HF3 := am hh
    have b1 : (q2 == 0) = false := by simp [dq]
    clear HF2 hh dq
    gi_wp2_with (refine ⟨trivial, rfl, ?_⟩; refine (CallsIn.inRound l (callsIn_wide.2 (reset_Reset.calls _ _ _ _ _ _ _ HC2.out HCX.out HQ.out))).mono ?_; rintro e3 W3 ⟨v1, rfl, hv1, hb3⟩; obtain ⟨A1, c1, rfl⟩ := Kd.R_slice hv1; have HB3 := am hb3; have HI3 := am (HI2.out.next hb3); have HKK3 := am (HKK2.out.next hb3); clear hv1 hb3)
    exact ⟨RoundKept.of_below HB3.out, HI3.out, HKK3.out, rest2, HP.out, HF3.out⟩
  case done =>
   rintro D1 own1 W ⟨hi, hxk, rest, hL, hF⟩ hbs1 hK1 hD1
   obtain rfl : rest = [] := List.append_cancel_left (hL.symm.trans (List.append_nil L).symm)
   have hF : roadR k os = some (r1, r2, r3) := hF
   unfold roadR at hF
   obtain ⟨⟨n5, ok5⟩, hcnt, hF⟩ := Option.bind_eq_some_iff.1 hF
   have HCN := am hcnt
   have HF5 := am hF
   have HI := am hi
   have HXA := am hxk
   have HK1 := am hK1
   have HD1 := am (show w.heap.size ≤ D1 from Nat.le_trans HI4.out.below.size hD1)
   have HD4 := am (show w4.heap.size ≤ D1 from hD1)
   have HRW := am (Kd.R_step (w1 := W) (Kd.R_bound HR4.out) (fun b hb hlt => (hxk.keep b ⟨hb.2.1, hb.2.2.1⟩).2))
   have HRD : Aside0 (os.length ≤ co ∧ Kd.C (Kd.slice 28 (Kd.slice 3 (Kd.int .i64))) W Ao os.length os) := by
    obtain ⟨_, h1, h2⟩ := Kd.R_reads' HRW.out
    exact ⟨⟨h1, h2⟩⟩
   clear hi hxk hK1 hD1 hL hF hcnt seq HF HI4 HRC hbs1
   by_cases dok : ok5 = true
   rotate_left
   ·have h1 := HF5.out
    simp only [if_neg dok, Option.some.injEq, Prod.mk.injEq] at h1
    obtain ⟨rfl, rfl, rfl⟩ := h1
    obtain rfl : ok5 = false := by simpa using dok
    clear dok HF5
    go_wp2_with (go_at_call 85; refine (color_count.calls _ _ _ _ _ _ _ HRD.out.2 HRD.out.1 HCN.out).mono ?_; rintro e5 w5 ⟨rfl, hd5⟩; have hb5 := hd5.below; have HI5 := am (HI.out.next hb5); have hc2 := (blk_cell HI5.out.c2 0).trans (rfl : _ = some (Value.slice none 0 0)); have hf2 := blk_frozen HI5.out.c2 0; have ho3 := IR.o3 HI5.out HN23.out (.slice none 0 0); have hc3 := (blk_cell ho3 0).trans (rfl : _ = some (Value.slice none 0 0)); have hf3 := blk_frozen ho3 0; have ho4 := IR.o4 HI5.out HN24.out HN34.out (.slice none 0 0) (.slice none 0 0); have hc4 := (blk_cell ho4 0).trans (rfl : _ = some (Value.int .i64 0)); have hf4 := blk_frozen ho4 0; clear ho3 ho4; have HK5 := am ((hb5.block D1 (blk_ltS HK1.out)).trans HK1.out); clear hb5 hd5)
    have HI6 := HI5.out.put HN23.out HN24.out HN34.out (.slice none 0 0) (.slice none 0 0) (.int .i64 3)
    have hk6 := D_put (D_put (D_put HK5.out HI5.out.c2 (.slice none 0 0)) (IR.o3 HI5.out HN23.out (.slice none 0 0)) (.slice none 0 0)) (IR.o4 HI5.out HN24.out HN34.out (.slice none 0 0) (.slice none 0 0)) (.int .i64 3)
    have HI7 := HI6.putD hk6 HD1.out (.deferred none)
    refine ⟨by simp, .inl ⟨_, _, rfl, run_takeDeferred hk6, ?_⟩⟩
    exact ⟨_, res_cells3 rfl rfl rfl rfl HI7.c2 ((blk_cell HI7.c3 0).trans rfl) ((blk_cell HI7.c4 0).trans rfl), _, _, rfl, Kd.S_nil _ _ _ _ _, Kd.R_nil _ _ _ _ _, HI7.below⟩
   subst dok
   have H6 := HF5.out
   simp only [if_true] at H6
   by_cases dn : 1000000 < n5
   ·rw [if_pos dn] at H6
    simp only [Option.some.injEq, Prod.mk.injEq] at H6
    obtain ⟨rfl, rfl, rfl⟩ := H6
    have dn1 : decide (1000000 < n5) = true := decide_eq_true dn
    clear dn HF5
    go_wp2_with (go_at_call 85; refine (color_count.calls _ _ _ _ _ _ _ HRD.out.2 HRD.out.1 HCN.out).mono ?_; rintro e5 w5 ⟨rfl, hd5⟩; have hb5 := hd5.below; have HI5 := am (HI.out.next hb5); have hc2 := (blk_cell HI5.out.c2 0).trans (rfl : _ = some (Value.slice none 0 0)); have hf2 := blk_frozen HI5.out.c2 0; have ho3 := IR.o3 HI5.out HN23.out (.slice none 0 0); have hc3 := (blk_cell ho3 0).trans (rfl : _ = some (Value.slice none 0 0)); have hf3 := blk_frozen ho3 0; have ho4 := IR.o4 HI5.out HN24.out HN34.out (.slice none 0 0) (.slice none 0 0); have hc4 := (blk_cell ho4 0).trans (rfl : _ = some (Value.int .i64 0)); have hf4 := blk_frozen ho4 0; clear ho3 ho4; have HK5 := am ((hb5.block D1 (blk_ltS HK1.out)).trans HK1.out); clear hb5 hd5)
    have HI6 := HI5.out.put HN23.out HN24.out HN34.out (.slice none 0 0) (.slice none 0 0) (.int .i64 3)
    have hk6 := D_put (D_put (D_put HK5.out HI5.out.c2 (.slice none 0 0)) (IR.o3 HI5.out HN23.out (.slice none 0 0)) (.slice none 0 0)) (IR.o4 HI5.out HN24.out HN34.out (.slice none 0 0) (.slice none 0 0)) (.int .i64 3)
    have HI7 := HI6.putD hk6 HD1.out (.deferred none)
    refine ⟨by simp, .inl ⟨_, _, rfl, run_takeDeferred hk6, ?_⟩⟩
    exact ⟨_, res_cells3 rfl rfl rfl rfl HI7.c2 ((blk_cell HI7.c3 0).trans rfl) ((blk_cell HI7.c4 0).trans rfl), _, _, rfl, Kd.S_nil _ _ _ _ _, Kd.R_nil _ _ _ _ _, HI7.below⟩
   rw [if_neg dn] at H6
   have dn1 : decide (1000000 < n5) = false := decide_eq_false dn
   obtain ⟨L2, hL2, hF6⟩ := Option.bind_eq_some_iff.1 H6
   have HL2' := am hL2
   have HF6 := am hF6
   clear dn H6 hL2 hF6 HF5
   go_wp2_with (first | (go_at_call 85; refine (color_count.calls _ _ _ _ _ _ _ HRD.out.2 HRD.out.1 HCN.out).mono ?_; rintro e5 w5 ⟨rfl, hd5⟩; have hb5 := hd5.below; have HI5 := am (HI.out.next hb5); have HXA5 := am (HXA.out.next hb5); have HK5 := am ((hb5.block D1 (blk_ltS HK1.out)).trans HK1.out); clear hb5 hd5)  | (go_at_call 90; refine (color_every.makes _ _ _ _).mono ?_; rintro e6 w6 ⟨Oc, rfl, hO, xO, hb6⟩; have HI6 := am (HI5.out.next hb6); have HXA6 := am (HXA5.out.next hb6); have HK6 := am ((hb6.block D1 (blk_ltS HK5.out)).trans HK5.out); have HDO := am (show D1 < Oc from Nat.lt_of_lt_of_le (blk_ltS HK5.out) hO); have XO6 := am xO; clear hO xO hb6))
   have HDL : Aside0 (D1 < w6.heap.size) := ⟨blk_ltS HK6.out⟩
   have HLO : Aside0 (Oc < w6.heap.size) := ⟨blk_ltS XO6.out⟩
   have HRC : Aside0 (os.length ≤ co ∧ Kd.C (Kd.slice 28 (Kd.slice 3 (Kd.int .i64))) (shows (fun b => (lo ≤ b ∧ b < w4.heap.size) ∨ b = Oc) w6) Ao os.length os) := by
    obtain ⟨_, h1, h2⟩ := Kd.R_reads' (Kd.R_step (w1 := shows (fun b => (lo ≤ b ∧ b < w4.heap.size) ∨ b = Oc) w6) (Kd.R_bound HR4.out) (fun b hb hlt => (shows_at (fun b => (lo ≤ b ∧ b < w4.heap.size) ∨ b = Oc) w6 b (Or.inl ⟨hb.2.1, hb.2.2.1⟩)).trans (HXA6.out.keep b ⟨hb.2.1, hb.2.2.1⟩).2))
    exact ⟨⟨h1, h2⟩⟩
   have seq2 := color_every.seq Ao co os L2 Oc w.heap.size (fun b => (lo ≤ b ∧ b < w4.heap.size) ∨ b = Oc) (shows (fun b => (lo ≤ b ∧ b < w4.heap.size) ∨ b = Oc) w6) (Or.inr rfl) (shows_only _ _) HRC.out.2 HRC.out.1 HL2'.out
   have hown2 : ∀ b, ((lo ≤ b ∧ b < w4.heap.size) ∨ b = Oc) → b < w6.heap.size ∧ w.heap.size ≤ b := by
    rintro b (hb | rfl)
    ·exact ⟨(HXA6.out.keep b hb).1, Nat.le_trans HLW2.out hb.1⟩
    ·exact ⟨HLO.out, by have h1 := HDO.out; have h2 := HD1.out; omega⟩
   refine wp_rangeFunc_iter (base := w.heap.size) (own0 := fun b => (lo ≤ b ∧ b < w4.heap.size) ∨ b = Oc) rfl (enters_ Try.func110 (by kernel_rfl) rfl) seq2 HI6.out.below.size hown2 (fun W hW => ⟨fun b hq => ⟨Nat.lt_of_lt_of_le (hown2 b hq).1 hW.size, (hW.block b (hown2 b hq).1).trans (shows_at (fun b => (lo ≤ b ∧ b < w4.heap.size) ∨ b = Oc) w6 b hq).symm⟩, blk_below XO6.out hW⟩) (fun own x W vs he => by obtain ⟨_, A, c, rfl, _⟩ := he; rfl)
    (fun own pre W => IR w C2 C3 C4 own W (.slice none 0 0) (.slice none 0 0) (.int .i64 0) ∧ XB D1 own W ∧ ∃ rest, L2 = pre ++ rest ∧ roadS k (some ([], [], 3)) rest = some (r1, r2, r3))
    (fun c own pre W => c = .ret ∧ XB D1 own W ∧ ∃ v2 A n cp, IR w C2 C3 C4 own W v2 (.slice A n cp) (.int .i64 r3) ∧ Kd.S (Kd.slice 3 (Kd.int .i64)) 28 W w.heap.size (fun b => ¬ own b ∧ some b ≠ (Value.slice A n cp).ownBlock) v2 r1 ∧ Kd.R (Kd.int .i64) 3 W w.heap.size (fun b => ¬ own b) (.slice A n cp) r2)
    ?stI2 ?stX2 ?start2 ?round ?done2 ?stop2
   case stI2 =>
    rintro own own' s A B ⟨hi, hxk, hr⟩ hk hs hn
    exact ⟨hi.stable hk hs hn, hxk.stable hk hn, hr⟩
   case stX2 =>
    rintro c own own' s A B ⟨rfl, hxk, v2, A1, n1, c1, hi, hS, hr⟩ hk hs hn
    exact ⟨rfl, hxk.stable hk hn, v2, A1, n1, c1, hi.stable hk hs hn, S_stableL hS hk hn, R_stableL hr hk hn⟩
   case start2 =>
    have h2 := HL2.out
    have h3 := HL3.out
    have h4 := HS2.out
    have hlt : ∀ X, X < lo → ¬ ((lo ≤ X ∧ X < w4.heap.size) ∨ X = Oc) := by
     rintro X hX (h | rfl)
     ·omega
     ·have g1 := HDO.out; have g2 := HD4.out; have g3 := HS4.out; omega
    refine ⟨⟨HI6.out.below, HI6.out.c2, HI6.out.c3, HI6.out.c4, hlt _ h2, hlt _ h3, hlt _ h4, HI6.out.h2, HI6.out.h3, HI6.out.h4⟩, ⟨HK6.out, ?_⟩, L2, rfl, HF6.out⟩
    rintro (h | rfl)
    ·have g2 := HD4.out; omega
    ·have g1 := HDO.out; omega
   case done2 =>
    rintro D own W ⟨hi, hxk, rest, hL, hF⟩ hbs hK hD
    obtain rfl : rest = [] := List.append_cancel_left (hL.symm.trans (List.append_nil L2).symm)
    have hF : some (([] : List (List Int)), ([] : List Int), (3 : Int)) = some (r1, r2, r3) := hF
    simp only [Option.some.injEq, Prod.mk.injEq] at hF
    obtain ⟨rfl, rfl, rfl⟩ := hF
    have HI7 := am hi
    have HXB := am hxk
    have HK := am hK
    have HD := am (show w.heap.size ≤ D from Nat.le_trans HI6.out.below.size hD)
    have HDD := am (show D1 < D from Nat.lt_of_lt_of_le HDL.out hD)
    have hc2 := (blk_cell HI7.out.c2 0).trans (rfl : _ = some (Value.slice none 0 0))
    have hf2 := blk_frozen HI7.out.c2 0
    have ho3 := IR.o3 HI7.out HN23.out (.slice none 0 0)
    have hc3 := (blk_cell ho3 0).trans (rfl : _ = some (Value.slice none 0 0))
    have hf3 := blk_frozen ho3 0
    have ho4 := IR.o4 HI7.out HN24.out HN34.out (.slice none 0 0) (.slice none 0 0)
    have hc4 := (blk_cell ho4 0).trans (rfl : _ = some (Value.int .i64 0))
    have hf4 := blk_frozen ho4 0
    clear hi hxk hK hD hL hbs seq2 ho3 ho4
    go_wp2_with fail
    have HI8 := HI7.out.put HN23.out HN24.out HN34.out (.slice none 0 0) (.slice none 0 0) (.int .i64 3)
    have hk8 := D_put (D_put (D_put HK.out HI7.out.c2 (.slice none 0 0)) (IR.o3 HI7.out HN23.out (.slice none 0 0)) (.slice none 0 0)) (IR.o4 HI7.out HN24.out HN34.out (.slice none 0 0) (.slice none 0 0)) (.int .i64 3)
    have hk9 := D_put (D_put (D_put HXB.out.at_ HI7.out.c2 (.slice none 0 0)) (IR.o3 HI7.out HN23.out (.slice none 0 0)) (.slice none 0 0)) (IR.o4 HI7.out HN24.out HN34.out (.slice none 0 0) (.slice none 0 0)) (.int .i64 3)
    have HI9 := HI8.putD hk8 HD.out (.deferred none)
    have hk10 := (World.putObj_heap_other (w := (((W.setCell ⟨C2, 0, none⟩ (.slice none 0 0)).setCell ⟨C3, 0, none⟩ (.slice none 0 0)).setCell ⟨C4, 0, none⟩ (.int .i64 3))) (r := D) (k := D1) (o := .deferred none) (by have := HDD.out; omega)).trans hk9
    have HI10 := HI9.putD hk10 HD1.out (.deferred none)
    refine ⟨by simp, .inl ⟨_, _, rfl, run_takeDeferred hk8, ?_⟩⟩
    refine ⟨by simp, .inl ⟨_, _, rfl, run_takeDeferred hk10, ?_⟩⟩
    exact ⟨_, res_cells3 rfl rfl rfl rfl HI10.c2 ((blk_cell HI10.c3 0).trans rfl) ((blk_cell HI10.c4 0).trans rfl), _, _, rfl, Kd.S_nil _ _ _ _ _, Kd.R_nil _ _ _ _ _, HI10.below⟩
   case stop2 =>
    rintro D c own pre W ⟨rfl, hxk, v2, A1, n1, c1, hi, hS, hR⟩ hbs hK hD
    have HI := am hi
    have HXB := am hxk
    have HK := am hK
    have HRV := am hR
    have HSV := am hS
    have HD := am (show w.heap.size ≤ D from Nat.le_trans HI6.out.below.size hD)
    have HDD := am (show D1 < D from Nat.lt_of_lt_of_le HDL.out hD)
    clear hi hxk hK hR hS seq2
    go_wp2_with fail
    have HI7 := HI.out.putD HK.out HD.out (.deferred none)
    have hk1 : (W.putObj D (.deferred none)).heap[D1]? = some (.deferred (some [])) := (World.putObj_heap_other (by have := HDD.out; omega)).trans HXB.out.at_
    have HI8 := HI7.putD hk1 HD1.out (.deferred none)
    refine ⟨by simp, .inl ⟨_, _, rfl, run_takeDeferred HK.out, ?_⟩⟩
    refine ⟨by simp, .inl ⟨_, _, rfl, run_takeDeferred hk1, ?_⟩⟩
    exact ⟨_, res_cells3 rfl rfl rfl rfl HI8.c2 ((blk_cell HI8.c3 0).trans rfl) ((blk_cell HI8.c4 0).trans rfl), _, _, rfl, S_putD (Kd.S_mono (S_putD HSV.out HK.out _) fun b hb => ⟨trivial, hb⟩) hk1 _, R_putD (R_putD HRV.out HK.out _) hk1 _, HI8.below⟩
   case round =>
    rintro l D own pre x vs W ⟨hi, hxk, rest, hL, hF⟩ ⟨rest2, hL2⟩ ⟨hob, Ax, cx, rfl, hcx, hCx⟩ ⟨r, hr⟩ ⟨dd, hd⟩ hl hD hnl hnD hbs
    obtain rfl : rest = x :: rest2 := List.append_cancel_left (hL.symm.trans hL2)
    obtain ⟨⟨q1, q2⟩, hq, hF2⟩ := Option.bind_eq_some_iff.1 hF
    have HQ := am hq
    have HF2 := am hF2
    have HP : Aside0 (L2 = pre ++ [x] ++ rest2) := ⟨by rw [hL2]; simp⟩
    have HCX := am hcx
    have HBS := am hbs
    have HLW := am (show w.heap.size ≤ l from Nat.le_trans HI6.out.below.size hl)
    have hlW := blk_ltS hr
    have n2l : C2 ≠ l := fun e => by subst e; rw [hi.c2] at hr; cases hr
    have n3l : C3 ≠ l := fun e => by subst e; rw [hi.c3] at hr; cases hr
    have n4l : C4 ≠ l := fun e => by subst e; rw [hi.c4] at hr; cases hr
    have n2D : C2 ≠ D := fun e => by subst e; rw [hi.c2] at hd; cases hd
    have n3D : C3 ≠ D := fun e => by subst e; rw [hi.c3] at hd; cases hd
    have n4D : C4 ≠ D := fun e => by subst e; rw [hi.c4] at hd; cases hd
    have K2 : Aside0 (¬ keepR w.heap.size own l D C2) := ⟨fun h => by rcases h with (h | h) | h | h; exact absurd hi.h2 (by omega); exact hi.n2 h; exact n2l h; exact n2D h⟩
    have K3 : Aside0 (¬ keepR w.heap.size own l D C3) := ⟨fun h => by rcases h with (h | h) | h | h; exact absurd hi.h3 (by omega); exact hi.n3 h; exact n3l h; exact n3D h⟩
    have K4 : Aside0 (¬ keepR w.heap.size own l D C4) := ⟨fun h => by rcases h with (h | h) | h | h; exact absurd hi.h4 (by omega); exact hi.n4 h; exact n4l h; exact n4D h⟩
    have HB1 : Aside0 (Below W.heap.size W (W.alloc (.cells #[.slice Ax x.length cx] 24))) := ⟨ba (Below.refl _ _) _⟩
    have HX1 := am (World.alloc_heap_new W (.cells #[.slice Ax x.length cx] 24))
    have HI1 := am (hi.next HB1.out)
    have HK1 := am (hxk.next HB1.out)
    have HC1 := am (Kd.C_below hCx HB1.out)
    have HOW : Aside0 (∀ b, own b → b < W.heap.size) := ⟨hob⟩
    have HNL : Aside0 (W.heap.size ≠ l) := ⟨by omega⟩
    clear hi hxk hbs hq hF2 hF hL hL2 hd hr n2l n3l n4l n2D n3D n4D hCx hcx hob hlW seq2
    rw [zip1]
    simp only [List.setIfInBounds_toArray, List.set_cons_succ, List.set_cons_zero]
    gi_wp2
    refine ⟨RoundKept.of_below HB1.out, ?_⟩
    rintro W2 r0 hr1 r1' rfl
    have HK2 := am (KeptL.putObj (own := own) (.loop r1') hr1 HLW.out)
    have HI2 := am (HI1.out.stable HK2.out HBS.out fun b hb => Or.inl hb)
    have HKK2 := am (HK1.out.putL hr1 (.loop r1'))
    have HC2 := am (C_rows_cells (cells_putLoop hr1 (.loop r1')) HC1.out)
    have HX2 : Aside0 (((W.alloc (.cells #[.slice Ax x.length cx] 24)).putObj l (.loop r1')).heap[W.heap.size]? = some (.cells #[.slice Ax x.length cx] 24 (0, 0))) := ⟨(World.putObj_heap_other HNL.out).trans HX1.out⟩
    have HOW2 : Aside0 (∀ b, own b → b < ((W.alloc (.cells #[.slice Ax x.length cx] 24)).putObj l (.loop r1')).heap.size) := ⟨fun b hb => by have := HOW.out b hb; simp; omega⟩
    clear HK2 HI1 HK1 HC1 HX1 hr1 HOW HB1
    generalize (W.alloc (.cells #[.slice Ax x.length cx] 24)).putObj l (.loop r1') = W2 at HI2 HKK2 HC2 HX2 HOW2 ⊢
    generalize W.heap.size = X at HX2 HNL ⊢
    have hcx2 : W2.cell? ⟨X, 0, none⟩ = some (.slice Ax x.length cx) := (blk_cell HX2.out 0).trans rfl
    by_cases dq : q2 = 0
    ·subst dq
     obtain ⟨cp, hcp, hF3⟩ := Option.bind_eq_some_iff.1 (show ((color_copied.f k x).bind fun c => some (c, q1, (0 : Int))) = some (r1, r2, r3) from by have h1 := HF2.out; simp only [if_true] at h1; exact h1)
     simp only [Option.some.injEq, Prod.mk.injEq] at hF3
     obtain ⟨rfl, rfl, rfl⟩ := hF3
     have HCP := am hcp
     have b1 : ((0 : Int) == 0) = true := rfl
     clear HF2 hcp
     gi_wp2_with (first  | (refine ⟨trivial, rfl, ?_⟩; refine (CallsIn.inRound l (callsIn_wide.2 (reset_Reset.calls _ _ _ _ _ _ _ HC2.out HCX.out HQ.out))).mono ?_; rintro e3 W3 ⟨v1, rfl, hv1, hb3⟩; obtain ⟨A1, c1, rfl⟩ := Kd.R_slice hv1; have HB3 := am hb3; have HI3 := am (HI2.out.next hb3); have HV3 := am hv1; have HC3 := am (Kd.C_below HC2.out hb3); have HX3 := am (blk_below HX2.out hb3); have hcx3 : W3.cell? ⟨X, 0, none⟩ = some (.slice Ax x.length cx) := (blk_cell HX3.out 0).trans rfl; clear hv1 hb3)  | (refine ⟨trivial, rfl, ?_⟩; refine (CallsIn.inRound l (callsIn_wide.2 (color_copied.calls _ _ _ _ _ _ HC3.out HCX.out HCP.out))).mono ?_; rintro e4 W4 ⟨v0, rfl, hv0, hb4⟩; obtain ⟨A0, c0, rfl⟩ := Kd.S_slice hv0; have HB4 := am (below_step HB3.out hb4); have HI4 := am (HI3.out.next hb4); have HKK4 := am (HKK2.out.next HB4.out); have HV4 := am (Kd.R_below HV3.out hb4); have HW4 := am hv0; have hc2 := (blk_cell HI4.out.c2 0).trans (rfl : _ = some (Value.slice none 0 0)); have hf2 := blk_frozen HI4.out.c2 0; have ho3 := IR.o3 HI4.out HN23.out (.slice A0 cp.length c0); have hc3 := (blk_cell ho3 0).trans (rfl : _ = some (Value.slice none 0 0)); have hf3 := blk_frozen ho3 0; have ho4 := IR.o4 HI4.out HN24.out HN34.out (.slice A0 cp.length c0) (.slice A1 q1.length c1); have hc4 := (blk_cell ho4 0).trans (rfl : _ = some (Value.int .i64 0)); have hf4 := blk_frozen ho4 0; clear hv0 hb4 ho3 ho4))
     have HI5 := HI4.out.put HN23.out HN24.out HN34.out (.slice A0 cp.length c0) (.slice A1 q1.length c1) (.int .i64 0)
     have hk2 := blk_ltS HI2.out.c2
     have hk3 := blk_ltS HI2.out.c3
     have hk4 := blk_ltS HI2.out.c4
     have HK5 := ((HKK4.out.set HI4.out.c2 (.slice A0 cp.length c0)).set (IR.o3 HI4.out HN23.out (.slice A0 cp.length c0)) (.slice A1 q1.length c1)).set (IR.o4 HI4.out HN24.out HN34.out (.slice A0 cp.length c0) (.slice A1 q1.length c1)) (.int .i64 0)
     refine ⟨(((RoundKept.of_below HB4.out).trans (RoundKept.set _ K2.out)).trans (RoundKept.set _ K3.out)).trans (RoundKept.set _ K4.out), rfl, HK5, _, _, _, _, HI5, ?_, ?_⟩
     ·have h3 := HB3.out.size
      refine Kd.S_mono (Kd.S_lower (S_put3 (Kd.S_bound HW4.out) HI4.out fun b hb => ?_) (Nat.le_trans HI2.out.below.size h3)) fun b hb => ⟨fun ho => ?_, fun he => ?_⟩
      ·have := hb.2.1
       exact ⟨by omega, by omega, by omega⟩
      ·have h1 := HOW2.out b ho
       have h2 := hb.2.1
       omega
      ·have h1 := ((Kd.R_bound HV3.out).1 b he.symm).2.2.1
       have h2 := hb.2.1
       omega
     ·refine Kd.R_mono (Kd.R_lower (R_put3 (Kd.R_bound HV4.out) HI4.out fun b hb => ?_) HI2.out.below.size) fun b hb ho => ?_
      ·have := hb.2.1
       exact ⟨by omega, by omega, by omega⟩
      ·have h1 := HOW2.out b ho
       have h2 := hb.2.1
       omega
    ·have hh := HF2.out
     simp only [if_neg dq] at hh
     have HF3 := am hh
     have b1 : (q2 == 0) = false := by simp [dq]
     clear HF2 hh dq
     gi_wp2_with (refine ⟨trivial, rfl, ?_⟩; refine (CallsIn.inRound l (callsIn_wide.2 (reset_Reset.calls _ _ _ _ _ _ _ HC2.out HCX.out HQ.out))).mono ?_; rintro e3 W3 ⟨v1, rfl, hv1, hb3⟩; obtain ⟨A1, c1, rfl⟩ := Kd.R_slice hv1; have HB3 := am hb3; have HI3 := am (HI2.out.next hb3); have HKK3 := am (HKK2.out.next hb3); clear hv1 hb3)
     exact ⟨RoundKept.of_below HB3.out, HI3.out, HKK3.out, rest2, HP.out, HF3.out⟩
end Go.Proofs.Ytjgdalhdiohclaa.Q
end
section
namespace Go.Proofs.Ytjgdalhdiohclaa.Q
attribute [local go_sem] max2_int min2_int max_two min_two max_three min_three max_four min_four
def mizmazetop_colours.f (k : Nat)  : Option (Bool) := (color_Road.f k (([(([1, 0] : List Int)), (([0, 1] : List Int))] : List (List Int)))).bind fun bt764 => ((color_Road.f k (([(([1] : List Int)), (([0] : List Int))] : List (List Int)))).bind fun bt781 => (if bt764.2.2 = 0 then (if (bt764.1.length : Int) = 2 then ((mizmazetop_spread.f k bt764.1 bt764.2.1).bind fun t789 => (if t789 = 1 then (some (bt781.2.2 == 4)) else (none))) else (none)) else (none)))
theorem mizmazetop_colours.mono : ∀ k, LeO (mizmazetop_colours.f k ) (mizmazetop_colours.f (k + 1) ) := by
 intro  k
 unfold mizmazetop_colours.f
 with_reducible repeat' first | exact color_Road.mono _ _ | exact mizmazetop_spread.mono _ _ _ | exact LeO.refl _ | exact LeO.none _ | refine LeO.ite ?_ ?_ | refine LeO.bind ?_ (fun _ => ?_)
theorem mizmazetop_colours.calls (k : Nat)  (r : Bool) (w : World) (h : mizmazetop_colours.f k  = some r) :
  Calls Try.prog 55 #[] w fun e w' => e = .returned (.bool r) ∧ Below w.heap.size w w' := by
 have hu24 := Try.underlying24
 have HB := am (Below.refl w.heap.size w)
 have H : ((color_Road.f k (([(([1, 0] : List Int)), (([0, 1] : List Int))] : List (List Int)))).bind fun bt764 => ((color_Road.f k (([(([1] : List Int)), (([0] : List Int))] : List (List Int)))).bind fun bt781 => (if bt764.2.2 = 0 then (if (bt764.1.length : Int) = 2 then ((mizmazetop_spread.f k bt764.1 bt764.2.1).bind fun t789 => (if t789 = 1 then (some (bt781.2.2 == 4)) else (none))) else (none)) else (none)))) = some r := h
 clear h
 obtain ⟨y755, hy755⟩ : ∃ y_ : List Int, y_ = (([1, 0] : List Int)) := ⟨_, rfl⟩
 replace H : ((color_Road.f k (([y755, (([0, 1] : List Int))] : List (List Int)))).bind fun bt764 => ((color_Road.f k (([(([1] : List Int)), (([0] : List Int))] : List (List Int)))).bind fun bt781 => (if bt764.2.2 = 0 then (if (bt764.1.length : Int) = 2 then ((mizmazetop_spread.f k bt764.1 bt764.2.1).bind fun t789 => (if t789 = 1 then (some (bt781.2.2 == 4)) else (none))) else (none)) else (none)))) = some r := by first | (rw [hy755]; with_reducible exact H) | (have H2_ := (Option.bind_some _ _).symm.trans H; rw [hy755]; with_reducible exact H2_) | (have H2_ := (Option.bind_some _ _).symm.trans H; with_reducible exact H2_) | with_reducible exact H | (rw [hy755]; exact H) | exact H
 have Ny755 := am hy755
 clear hy755
 obtain ⟨y758, hy758⟩ : ∃ y_ : List Int, y_ = (([0, 1] : List Int)) := ⟨_, rfl⟩
 replace H : ((color_Road.f k (([y755, y758] : List (List Int)))).bind fun bt764 => ((color_Road.f k (([(([1] : List Int)), (([0] : List Int))] : List (List Int)))).bind fun bt781 => (if bt764.2.2 = 0 then (if (bt764.1.length : Int) = 2 then ((mizmazetop_spread.f k bt764.1 bt764.2.1).bind fun t789 => (if t789 = 1 then (some (bt781.2.2 == 4)) else (none))) else (none)) else (none)))) = some r := by first | (rw [hy758]; with_reducible exact H) | (have H2_ := (Option.bind_some _ _).symm.trans H; rw [hy758]; with_reducible exact H2_) | (have H2_ := (Option.bind_some _ _).symm.trans H; with_reducible exact H2_) | with_reducible exact H | (rw [hy758]; exact H) | exact H
 have Ny758 := am hy758
 clear hy758
 obtain ⟨y761, hy761⟩ : ∃ y_ : List (List Int), y_ = (([y755, y758] : List (List Int))) := ⟨_, rfl⟩
 replace H : ((color_Road.f k y761).bind fun bt764 => ((color_Road.f k (([(([1] : List Int)), (([0] : List Int))] : List (List Int)))).bind fun bt781 => (if bt764.2.2 = 0 then (if (bt764.1.length : Int) = 2 then ((mizmazetop_spread.f k bt764.1 bt764.2.1).bind fun t789 => (if t789 = 1 then (some (bt781.2.2 == 4)) else (none))) else (none)) else (none)))) = some r := by first | (rw [hy761]; with_reducible exact H) | (have H2_ := (Option.bind_some _ _).symm.trans H; rw [hy761]; with_reducible exact H2_) | (have H2_ := (Option.bind_some _ _).symm.trans H; with_reducible exact H2_) | with_reducible exact H | (rw [hy761]; exact H) | exact H
 have Ny761 := am hy761
 clear hy761
 replace H := Option.bind_eq_some_iff.mp H
 obtain ⟨⟨t764, t767, t770⟩, A10, H⟩ := H
 replace H : ((color_Road.f k (([(([1] : List Int)), (([0] : List Int))] : List (List Int)))).bind fun bt781 => (if t770 = 0 then (if (t764.length : Int) = 2 then ((mizmazetop_spread.f k t764 t767).bind fun t789 => (if t789 = 1 then (some (bt781.2.2 == 4)) else (none))) else (none)) else (none))) = some r := H
 have A1 := am A10
 clear A10
 obtain ⟨y772, hy772⟩ : ∃ y_ : List Int, y_ = (([1] : List Int)) := ⟨_, rfl⟩
 replace H : ((color_Road.f k (([y772, (([0] : List Int))] : List (List Int)))).bind fun bt781 => (if t770 = 0 then (if (t764.length : Int) = 2 then ((mizmazetop_spread.f k t764 t767).bind fun t789 => (if t789 = 1 then (some (bt781.2.2 == 4)) else (none))) else (none)) else (none))) = some r := by first | (rw [hy772]; with_reducible exact H) | (have H2_ := (Option.bind_some _ _).symm.trans H; rw [hy772]; with_reducible exact H2_) | (have H2_ := (Option.bind_some _ _).symm.trans H; with_reducible exact H2_) | with_reducible exact H | (rw [hy772]; exact H) | exact H
 have Ny772 := am hy772
 clear hy772
 obtain ⟨y775, hy775⟩ : ∃ y_ : List Int, y_ = (([0] : List Int)) := ⟨_, rfl⟩
 replace H : ((color_Road.f k (([y772, y775] : List (List Int)))).bind fun bt781 => (if t770 = 0 then (if (t764.length : Int) = 2 then ((mizmazetop_spread.f k t764 t767).bind fun t789 => (if t789 = 1 then (some (bt781.2.2 == 4)) else (none))) else (none)) else (none))) = some r := by first | (rw [hy775]; with_reducible exact H) | (have H2_ := (Option.bind_some _ _).symm.trans H; rw [hy775]; with_reducible exact H2_) | (have H2_ := (Option.bind_some _ _).symm.trans H; with_reducible exact H2_) | with_reducible exact H | (rw [hy775]; exact H) | exact H
 have Ny775 := am hy775
 clear hy775
 obtain ⟨y778, hy778⟩ : ∃ y_ : List (List Int), y_ = (([y772, y775] : List (List Int))) := ⟨_, rfl⟩
 replace H : ((color_Road.f k y778).bind fun bt781 => (if t770 = 0 then (if (t764.length : Int) = 2 then ((mizmazetop_spread.f k t764 t767).bind fun t789 => (if t789 = 1 then (some (bt781.2.2 == 4)) else (none))) else (none)) else (none))) = some r := by first | (rw [hy778]; with_reducible exact H) | (have H2_ := (Option.bind_some _ _).symm.trans H; rw [hy778]; with_reducible exact H2_) | (have H2_ := (Option.bind_some _ _).symm.trans H; with_reducible exact H2_) | with_reducible exact H | (rw [hy778]; exact H) | exact H
 have Ny778 := am hy778
 clear hy778
 replace H := Option.bind_eq_some_iff.mp H
 obtain ⟨⟨t781, t784, t787⟩, A20, H⟩ := H
 replace H : (if t770 = 0 then (if (t764.length : Int) = 2 then ((mizmazetop_spread.f k t764 t767).bind fun t789 => (if t789 = 1 then (some (t787 == 4)) else (none))) else (none)) else (none)) = some r := H
 have A2 := am A20
 clear A20
 by_cases c3 : t770 = 0
 ·rw [if_pos c3] at H
  have c3b0 : (t770 == 0) = true := beq_iff_eq.mpr c3
  have c3b1 : (t770 != 0) = false := bne_eq_false_iff_eq.mpr c3
  clear c3
  by_cases c4 : (t764.length : Int) = 2
  ·rw [if_pos c4] at H
   have c4b0 : ((t764.length : Int) == 2) = true := beq_iff_eq.mpr c4
   have c4b1 : ((t764.length : Int) != 2) = false := bne_eq_false_iff_eq.mpr c4
   clear c4
   replace H := Option.bind_eq_some_iff.mp H
   obtain ⟨t789, A50, H⟩ := H
   replace H : (if t789 = 1 then (some (t787 == 4)) else (none)) = some r := H
   have A5 := am A50
   clear A50
   by_cases c6 : t789 = 1
   ·rw [if_pos c6] at H
    have c6b0 : (t789 == 1) = true := beq_iff_eq.mpr c6
    have c6b1 : (t789 != 1) = false := bne_eq_false_iff_eq.mpr c6
    clear c6
    obtain rfl := Option.some.inj H
    go_enter Try.func55, Try.ntmps55
    go_wp2_with (first | ((with_reducible refine gate_dst (N := 8) rfl ?_); (try (refine gate_guard (by rfl) ?_; dsimp only)); refine Kd.R_lit (Kd.int .i64) _ 3 zz5 (N := 8) zz5 (xs := ([1, 0] : List Int)) (inner := [.int .i64 1, .int .i64 0]) (ok := fun _ => True) (okp := fun _ => True) zz6 ?hp (fun _ hk => hk) trivial (Below.refl _ _) (Nat.le_refl _) (by simp) ?_; (case hp => exact (Reps.one (show Kd.M (Kd.int .i64) _ _ _ 1 [.int .i64 1] from rfl) (Reps.one (show Kd.M (Kd.int .i64) _ _ _ 0 [.int .i64 0] from rfl) (Reps.none _ _)))); intro v756 w7 ho8 hb hg_ hnew_; clear hg_ hnew_; (first | rw [← Ny755.out] at ho8 | (simp only [Int.reduceToNat] at ho8; rw [← Ny755.out] at ho8)); have HO757 := am (Kd.R_lower ho8 (below_size (bw HB.out))); replace HB := am (below_step (bw HB.out) hb); clear hb ho8) | ((with_reducible refine gate_dst (N := 9) rfl ?_); (try (refine gate_guard (by rfl) ?_; dsimp only)); refine Kd.R_lit (Kd.int .i64) _ 3 zz5 (N := 9) zz5 (xs := ([0, 1] : List Int)) (inner := [.int .i64 0, .int .i64 1]) (ok := fun _ => True) (okp := fun _ => True) zz6 ?hp (fun _ hk => hk) trivial (Below.refl _ _) (Nat.le_refl _) (by simp) ?_; (case hp => exact (Reps.one (show Kd.M (Kd.int .i64) _ _ _ 0 [.int .i64 0] from rfl) (Reps.one (show Kd.M (Kd.int .i64) _ _ _ 1 [.int .i64 1] from rfl) (Reps.none _ _)))); intro v759 w9 ho10 hb hg_ hnew_; clear hg_ hnew_; (first | rw [← Ny758.out] at ho10 | (simp only [Int.reduceToNat] at ho10; rw [← Ny758.out] at ho10)); have HO760 := am (Kd.R_lower (Kd.R_new' ho10 (Kd.R_lt (kR HO757.out))) (below_size (bw HB.out))); replace HO757 := am (Kd.R_elder' (kR HO757.out) (Kd.R_base ho10) hb); replace HB := am (below_step (bw HB.out) hb); clear hb ho10; obtain ⟨Ao11, co11, eo11⟩ := Kd.R_slice HO757.out; subst eo11; obtain ⟨Ao12, co12, eo12⟩ := Kd.R_slice HO760.out; subst eo12) | ((with_reducible refine gate_dst (N := 10) rfl ?_); (try (refine gate_guard (by rfl) ?_; dsimp only)); refine Kd.N_lit (Kd.slice 3 (Kd.int .i64)) _ 28 zz5 (N' := 10) zz5 (xs := ([y755, y758] : List (List Int))) (inner := [.slice Ao11 y755.length co11, .slice Ao12 y758.length co12]) (ok := (fun _ => True)) (okp := (fun _ => True)) zz6 ?hp (fun _ hk => hk) ((show ∀ k_, w9.heap.size ≤ k_ → (fun _ => True) k_ from fun k_ hk => trivial) _ (Nat.le_refl _)) (Below.refl _ _) (Nat.le_refl _) (by simp) ?_; (case hp => exact (Reps.one (show Kd.FK (Kd.slice 3 (Kd.int .i64)) _ _ y755 [.slice Ao11 y755.length co11] from (Kd.FK_slice_mk (Kd.R_reads' (Kd.R_mono (ok' := (fun _ => True)) (HO757.out) (fun k_ hk => trivial))).2.1 (Kd.R_F (Kd.R_mono (ok' := (fun _ => True)) (HO757.out) (fun k_ hk => trivial))))) (Reps.one (show Kd.FK (Kd.slice 3 (Kd.int .i64)) _ _ y758 [.slice Ao12 y758.length co12] from (Kd.FK_slice_mk (Kd.R_reads' (Kd.R_mono (ok' := (fun _ => True)) (HO760.out) (fun k_ hk => trivial))).2.1 (Kd.R_F (Kd.R_mono (ok' := (fun _ => True)) (HO760.out) (fun k_ hk => trivial))))) (Reps.none _ _)))); intro v762 w13 ho14 hb hg_ hnew_; clear hg_ hnew_; (first | rw [← Ny761.out] at ho14 | (simp only [Int.reduceToNat] at ho14; rw [← Ny761.out] at ho14)); have n0_ := am (Kd.N_lower ho14 (below_size (bw HB.out))); have n1_ := am (below_step (bw HB.out) hb); clear HB; clear HO757; clear HO760; have HO763 := n0_; have HB := n1_; clear n0_ n1_; clear hb ho14; obtain ⟨Ao15, co15, eo15⟩ := Kd.N_slice HO763.out; subst eo15) | ((with_reducible refine gate_callee (f := 49) rfl ?_); refine goesL_ (some 12) rfl rfl Try.func49 (by kernel_rfl) rfl #[.agg #[.slice Ao15 y761.length co15]] rfl zz1 ?_; (with_reducible refine (color_Road.calls k _ _ y761 t764 t767 t770 _ ?side1 ?side2 A1.out).mono ?_); (case side1 => repeat (first | exact (Kd.N_reads' HO763.out).2.2 | (with_reducible refine Kd.C_alloc ?_ _) | (with_reducible refine Kd.C_drewN ?_ _) | (with_reducible refine Kd.C_drew ?_))); (case side2 => exact (Kd.N_reads' HO763.out).2.1); rintro e w16 ⟨v765, v768, rfl, ho0, ho1, hb⟩; refine ⟨_, rfl, ?_⟩; have HO766 := am (Kd.N_lower (Kd.N_mono (ok' := fun k_ => some k_ ≠ (v768 : Value).ownBlock ∧ some k_ ≠ (.slice Ao15 y761.length co15 : Value).ownBlock) (Kd.S_N (Kd.S_bound ho0)) (fun k_ hk_ => ⟨hk_.1, (Kd.fresh' (Kd.N_lt (kN HO763.out)) k_ hk_.2.1)⟩)) (below_size (bw HB.out))); replace HO763 := am (Kd.N_mono (Kd.N_told (Kd.N_told (Kd.N_old (kN HO763.out) hb) (by first | exact Kd.N_base ho0 | exact Kd.S_base ho0 | exact Kd.R_base ho0)) (Kd.R_base ho1)) (fun _ h_ => h_.1)); have HO769 := am (Kd.R_lower ho1 (below_size (bw HB.out))); replace HB := am (below_step (bw HB.out) hb); (try clear hb); (try clear hb2); (try clear hk); (try clear hi); (try clear ho0); (try clear ho1)) | ((with_reducible refine gate_dst (N := 1) rfl ?_); (try (refine gate_guard (by rfl) ?_; dsimp only)); refine box_event zz5 (N := 1) zz5 (cs := #[.slice none 0 0]) (t := 24) zz6 ?_; intro gb771 hg w17 hbox hb; replace HO763 := am (Kd.N_below (Kd.N_elderB (kN HO763.out) gb771 (Nat.le_of_eq hg.symm)) hb); replace HO766 := am (Kd.N_below (Kd.N_elderB (kN HO766.out) gb771 (Nat.le_of_eq hg.symm)) hb); replace HO769 := am (Kd.R_below (kR HO769.out) hb); have BK771 := am (hbox); have GW771 := am ((by rw [hg]; exact (below_size (bw HB.out)) : w.heap.size ≤ gb771)); have GE771 := am ((by rw [hg]; exact (below_size (bw HB.out)) : w.heap.size ≤ gb771)); replace HB := am (below_step (bw HB.out) hb); clear hb hbox hg; obtain ⟨Ao18, co18, eo18⟩ := Kd.N_slice HO766.out; subst eo18; have hcz19_0 : w17.cell? ⟨gb771, 0, none⟩ = some (.slice none 0 0) := (blk_cell BK771.out 0).trans rfl; have hfz19_0 := blk_frozen BK771.out 0) | ((with_reducible refine gate_dst (N := 17) rfl ?_); (try (refine gate_guard (by rfl) ?_; dsimp only)); refine Kd.R_lit (Kd.int .i64) _ 3 zz5 (N := 17) zz5 (xs := ([1] : List Int)) (inner := [.int .i64 1]) (ok := fun _ => True) (okp := fun _ => True) zz6 ?hp (fun _ hk => hk) trivial (Below.refl _ _) (Nat.le_refl _) (by simp) ?_; (case hp => exact (Reps.one (show Kd.M (Kd.int .i64) _ _ _ 1 [.int .i64 1] from rfl) (Reps.none _ _))); intro v773 w20 ho21 hb hg_ hnew_; clear hg_ hnew_; (first | rw [← Ny772.out] at ho21 | (simp only [Int.reduceToNat] at ho21; rw [← Ny772.out] at ho21)); replace HO763 := am (Kd.N_elder' (kN (Kd.N_mono (Kd.N_far (p := ⟨gb771, 0, none⟩) (Kd.N_mono HO763.out (fun k_ hk => (⟨hk, hk.2⟩ : _ ∧ k_ ≠ gb771))) (fun _ hk => hk.2) (.slice Ao18 t764.length co18)) (fun _ h_ => h_.1))) (Kd.R_base ho21) hb); replace HO766 := am (Kd.N_elder' (kN (Kd.N_mono (Kd.N_far (p := ⟨gb771, 0, none⟩) (Kd.N_mono HO766.out (fun k_ hk => (⟨hk, hk.2⟩ : _ ∧ k_ ≠ gb771))) (fun _ hk => hk.2) (.slice Ao18 t764.length co18)) (fun _ h_ => h_.1))) (Kd.R_base ho21) hb); have HO774 := am (Kd.R_lower (Kd.R_new' ho21 (Kd.R_lt (kR (Kd.R_mono (Kd.R_far (p := ⟨gb771, 0, none⟩) (Kd.R_types HO769.out BK771.out (by decide)) (fun _ hk => hk.2) (.slice Ao18 t764.length co18)) (fun _ h_ => h_.1))))) (below_size (bs HB.out))); replace HO769 := am (Kd.R_elder' (kR (Kd.R_mono (Kd.R_far (p := ⟨gb771, 0, none⟩) (Kd.R_types HO769.out BK771.out (by decide)) (fun _ hk => hk.2) (.slice Ao18 t764.length co18)) (fun _ h_ => h_.1))) (Kd.R_base ho21) hb); replace BK771 := am (blk_below (g := gb771) (o := .cells #[.slice Ao18 t764.length co18] 24 (0, 0)) (by (with_reducible repeat (first | refine blk_drewN ?_ _ | refine blk_drew ?_ | refine blk_alloc ?_ _)); refine blk_put (cs := #[.slice none 0 0]) ?_ 0 _ rfl; (with_reducible repeat (first | refine blk_drewN ?_ _ | refine blk_drew ?_ | refine blk_alloc ?_ _)); exact BK771.out) hb); replace HB := am (below_step (bs HB.out) hb); clear hb ho21) | ((with_reducible refine gate_dst (N := 18) rfl ?_); (try (refine gate_guard (by rfl) ?_; dsimp only)); refine Kd.R_lit (Kd.int .i64) _ 3 zz5 (N := 18) zz5 (xs := ([0] : List Int)) (inner := [.int .i64 0]) (ok := fun _ => True) (okp := fun _ => True) zz6 ?hp (fun _ hk => hk) trivial (Below.refl _ _) (Nat.le_refl _) (by simp) ?_; (case hp => exact (Reps.one (show Kd.M (Kd.int .i64) _ _ _ 0 [.int .i64 0] from rfl) (Reps.none _ _))); intro v776 w22 ho23 hb hg_ hnew_; clear hg_ hnew_; (first | rw [← Ny775.out] at ho23 | (simp only [Int.reduceToNat] at ho23; rw [← Ny775.out] at ho23)); replace HO763 := am (Kd.N_elder' (kN HO763.out) (Kd.R_base ho23) hb); replace HO766 := am (Kd.N_elder' (kN HO766.out) (Kd.R_base ho23) hb); have HO777 := am (Kd.R_lower (Kd.R_new' (Kd.R_new' ho23 (Kd.R_lt (kR HO769.out))) (Kd.R_lt (kR HO774.out))) (below_size (bs HB.out))); replace HO769 := am (Kd.R_elder' (kR HO769.out) (Kd.R_base ho23) hb); replace HO774 := am (Kd.R_elder' (kR HO774.out) (Kd.R_base ho23) hb); replace BK771 := am (blk_below (g := gb771) (o := .cells #[.slice Ao18 t764.length co18] 24 (0, 0)) (kb BK771.out) hb); replace HB := am (below_step (bs HB.out) hb); clear hb ho23; obtain ⟨Ao24, co24, eo24⟩ := Kd.R_slice HO774.out; subst eo24; obtain ⟨Ao25, co25, eo25⟩ := Kd.R_slice HO777.out; subst eo25) | ((with_reducible refine gate_dst (N := 19) rfl ?_); (try (refine gate_guard (by rfl) ?_; dsimp only)); refine Kd.N_lit (Kd.slice 3 (Kd.int .i64)) _ 28 zz5 (N' := 19) zz5 (xs := ([y772, y775] : List (List Int))) (inner := [.slice Ao24 y772.length co24, .slice Ao25 y775.length co25]) (ok := (fun k_ => some k_ ≠ (.slice Ao15 y761.length co15 : Value).ownBlock ∧ some k_ ≠ (.slice Ao18 t764.length co18 : Value).ownBlock ∧ some k_ ≠ (v768 : Value).ownBlock ∧ k_ ≠ gb771)) (okp := (fun k_ => some k_ ≠ (.slice Ao15 y761.length co15 : Value).ownBlock ∧ some k_ ≠ (.slice Ao18 t764.length co18 : Value).ownBlock ∧ some k_ ≠ (v768 : Value).ownBlock ∧ k_ ≠ gb771)) zz6 ?hp (fun _ hk => hk) ((show ∀ k_, w22.heap.size ≤ k_ → (fun k_ => some k_ ≠ (.slice Ao15 y761.length co15 : Value).ownBlock ∧ some k_ ≠ (.slice Ao18 t764.length co18 : Value).ownBlock ∧ some k_ ≠ (v768 : Value).ownBlock ∧ k_ ≠ gb771) k_ from fun k_ hk => ⟨Kd.fresh' (Kd.N_lt (kN HO763.out)) k_ hk, Kd.fresh' (Kd.N_lt (kN HO766.out)) k_ hk, Kd.fresh' (Kd.R_lt (kR HO769.out)) k_ hk, Kd.freshB (g := gb771) (o := .cells #[.slice Ao18 t764.length co18] 24 (0, 0)) (kb BK771.out) k_ hk⟩) _ (Nat.le_refl _)) (Below.refl _ _) (Nat.le_refl _) (by simp) ?_; (case hp => exact (Reps.one (show Kd.FK (Kd.slice 3 (Kd.int .i64)) _ _ y772 [.slice Ao24 y772.length co24] from (Kd.FK_slice_mk (Kd.R_reads' (Kd.R_mono (ok' := (fun k_ => some k_ ≠ (.slice Ao15 y761.length co15 : Value).ownBlock ∧ some k_ ≠ (.slice Ao18 t764.length co18 : Value).ownBlock ∧ some k_ ≠ (v768 : Value).ownBlock ∧ k_ ≠ gb771)) (Kd.R_types (Kd.R_apart' (Kd.R_apart' (HO774.out) (Kd.N_typed HO763.out) (by decide)) (Kd.N_typed HO766.out) (by decide)) BK771.out (by decide)) (fun k_ hk => ⟨hk.1.1.2, ⟨hk.1.2, ⟨hk.1.1.1.1.2, hk.2⟩⟩⟩))).2.1 (Kd.R_F (Kd.R_mono (ok' := (fun k_ => some k_ ≠ (.slice Ao15 y761.length co15 : Value).ownBlock ∧ some k_ ≠ (.slice Ao18 t764.length co18 : Value).ownBlock ∧ some k_ ≠ (v768 : Value).ownBlock ∧ k_ ≠ gb771)) (Kd.R_types (Kd.R_apart' (Kd.R_apart' (HO774.out) (Kd.N_typed HO763.out) (by decide)) (Kd.N_typed HO766.out) (by decide)) BK771.out (by decide)) (fun k_ hk => ⟨hk.1.1.2, ⟨hk.1.2, ⟨hk.1.1.1.1.2, hk.2⟩⟩⟩))))) (Reps.one (show Kd.FK (Kd.slice 3 (Kd.int .i64)) _ _ y775 [.slice Ao25 y775.length co25] from (Kd.FK_slice_mk (Kd.R_reads' (Kd.R_mono (ok' := (fun k_ => some k_ ≠ (.slice Ao15 y761.length co15 : Value).ownBlock ∧ some k_ ≠ (.slice Ao18 t764.length co18 : Value).ownBlock ∧ some k_ ≠ (v768 : Value).ownBlock ∧ k_ ≠ gb771)) (Kd.R_types (Kd.R_apart' (Kd.R_apart' (HO777.out) (Kd.N_typed HO763.out) (by decide)) (Kd.N_typed HO766.out) (by decide)) BK771.out (by decide)) (fun k_ hk => ⟨hk.1.1.2, ⟨hk.1.2, ⟨hk.1.1.1.1.2, hk.2⟩⟩⟩))).2.1 (Kd.R_F (Kd.R_mono (ok' := (fun k_ => some k_ ≠ (.slice Ao15 y761.length co15 : Value).ownBlock ∧ some k_ ≠ (.slice Ao18 t764.length co18 : Value).ownBlock ∧ some k_ ≠ (v768 : Value).ownBlock ∧ k_ ≠ gb771)) (Kd.R_types (Kd.R_apart' (Kd.R_apart' (HO777.out) (Kd.N_typed HO763.out) (by decide)) (Kd.N_typed HO766.out) (by decide)) BK771.out (by decide)) (fun k_ hk => ⟨hk.1.1.2, ⟨hk.1.2, ⟨hk.1.1.1.1.2, hk.2⟩⟩⟩))))) (Reps.none _ _)))); intro v779 w26 ho27 hb hg_ hnew_; clear hg_ hnew_; (first | rw [← Ny778.out] at ho27 | (simp only [Int.reduceToNat] at ho27; rw [← Ny778.out] at ho27)); have n0_ := am (Kd.N_elder' (kN HO763.out) (by first | exact Kd.N_base ho27 | exact Kd.S_base ho27 | exact Kd.R_base ho27) hb); have n1_ := am (Kd.N_elder' (kN HO766.out) (by first | exact Kd.N_base ho27 | exact Kd.S_base ho27 | exact Kd.R_base ho27) hb); have n2_ := am (Kd.R_below (kR HO769.out) hb); have n3_ := am (Kd.N_lower ho27 (below_size (bs HB.out))); have n4_ := am (blk_below (g := gb771) (o := .cells #[.slice Ao18 t764.length co18] 24 (0, 0)) (kb BK771.out) hb); have n5_ := am (below_step (bs HB.out) hb); clear HO763; clear HO766; clear HO769; clear BK771; clear HB; clear HO774; clear HO777; have HO763 := n0_; have HO766 := n1_; have HO769 := n2_; have HO780 := n3_; have BK771 := n4_; have HB := n5_; clear n0_ n1_ n2_ n3_ n4_ n5_; clear hb ho27; obtain ⟨Ao28, co28, eo28⟩ := Kd.N_slice HO780.out; subst eo28) | ((with_reducible refine gate_callee (f := 49) rfl ?_); refine goesL_ (some 21) rfl rfl Try.func49 (by kernel_rfl) rfl #[.agg #[.slice Ao28 y778.length co28]] rfl zz1 ?_; (with_reducible refine (color_Road.calls k _ _ y778 t781 t784 t787 _ ?side1 ?side2 A2.out).mono ?_); (case side1 => repeat (first | exact (Kd.N_reads' HO780.out).2.2 | (with_reducible refine Kd.C_alloc ?_ _) | (with_reducible refine Kd.C_drewN ?_ _) | (with_reducible refine Kd.C_drew ?_))); (case side2 => exact (Kd.N_reads' HO780.out).2.1); rintro e w29 ⟨v782, v785, rfl, ho0, ho1, hb⟩; refine ⟨_, rfl, ?_⟩; have HO783 := am (Kd.N_lower (Kd.N_mono (ok' := fun k_ => some k_ ≠ (v785 : Value).ownBlock ∧ some k_ ≠ (.slice Ao15 y761.length co15 : Value).ownBlock ∧ some k_ ≠ (.slice Ao18 t764.length co18 : Value).ownBlock ∧ some k_ ≠ (v768 : Value).ownBlock ∧ some k_ ≠ (.slice Ao28 y778.length co28 : Value).ownBlock ∧ k_ ≠ gb771) (Kd.S_N (Kd.S_bound ho0)) (fun k_ hk_ => ⟨hk_.1, (Kd.fresh' (Kd.N_lt (kN HO763.out)) k_ hk_.2.1), (Kd.fresh' (Kd.N_lt (kN HO766.out)) k_ hk_.2.1), (Kd.fresh' (Kd.R_lt (kR HO769.out)) k_ hk_.2.1), (Kd.fresh' (Kd.N_lt (kN HO780.out)) k_ hk_.2.1), (Kd.freshB (g := gb771) (o := .cells #[.slice Ao18 t764.length co18] 24 (0, 0)) (kb BK771.out) k_ hk_.2.1)⟩)) (below_size (bs HB.out))); replace HO763 := am (Kd.N_mono (Kd.N_told (Kd.N_told (Kd.N_old (kN HO763.out) hb) (by first | exact Kd.N_base ho0 | exact Kd.S_base ho0 | exact Kd.R_base ho0)) (Kd.R_base ho1)) (fun _ h_ => h_.1)); replace HO766 := am (Kd.N_mono (Kd.N_told (Kd.N_told (Kd.N_old (kN HO766.out) hb) (by first | exact Kd.N_base ho0 | exact Kd.S_base ho0 | exact Kd.R_base ho0)) (Kd.R_base ho1)) (fun _ h_ => h_.1)); replace HO780 := am (Kd.N_mono (Kd.N_told (Kd.N_told (Kd.N_old (kN HO780.out) hb) (by first | exact Kd.N_base ho0 | exact Kd.S_base ho0 | exact Kd.R_base ho0)) (Kd.R_base ho1)) (fun _ h_ => h_.1)); have HO786 := am (Kd.R_lower (Kd.R_new' ho1 (Kd.R_lt (kR HO769.out))) (below_size (bs HB.out))); replace HO769 := am (Kd.R_elder' (kR HO769.out) (Kd.R_base ho1) hb); replace BK771 := am (blk_below (g := gb771) (o := .cells #[.slice Ao18 t764.length co18] 24 (0, 0)) (kb BK771.out) hb); replace HB := am (below_step (bs HB.out) hb); (try clear hb); (try clear hb2); (try clear hk); (try clear hi); (try clear ho0); (try clear ho1)) | ((with_reducible refine gate_dst (N := 4) rfl ?_); (try (refine gate_guard (by rfl) ?_; dsimp only)); refine box_event zz5 (N := 4) zz5 (cs := #[.slice none 0 0]) (t := 24) zz6 ?_; intro gb788 hg w30 hbox hb; replace HO763 := am (Kd.N_below (Kd.N_elderB (kN HO763.out) gb788 (Nat.le_of_eq hg.symm)) hb); replace HO766 := am (Kd.N_below (Kd.N_elderB (kN HO766.out) gb788 (Nat.le_of_eq hg.symm)) hb); replace HO769 := am (Kd.R_below (kR HO769.out) hb); replace HO780 := am (Kd.N_below (Kd.N_elderB (kN HO780.out) gb788 (Nat.le_of_eq hg.symm)) hb); replace HO783 := am (Kd.N_below (Kd.N_elderB (kN HO783.out) gb788 (Nat.le_of_eq hg.symm)) hb); replace HO786 := am (Kd.R_below (kR HO786.out) hb); have BK788 := am (hbox); have GW788 := am ((by rw [hg]; exact (below_size (bs HB.out)) : w.heap.size ≤ gb788)); have GE788 := am ((by rw [hg]; exact (below_size (bs HB.out)) : w.heap.size ≤ gb788)); replace HB := am (below_step (bs HB.out) hb); have NB771_788 := am ((by rw [hg]; exact Nat.ne_of_lt (blk_lt (g := gb771) (o := .cells #[.slice Ao18 t764.length co18] 24 (0, 0)) (kb BK771.out)) : gb771 ≠ gb788)); have NB788_771 := am ((by rw [hg]; exact Nat.ne_of_gt (blk_lt (g := gb771) (o := .cells #[.slice Ao18 t764.length co18] 24 (0, 0)) (kb BK771.out)) : gb788 ≠ gb771)); replace BK771 := am (blk_below (g := gb771) (o := .cells #[.slice Ao18 t764.length co18] 24 (0, 0)) (kb BK771.out) hb); clear hb hbox hg; obtain ⟨Ao31, co31, eo31⟩ := Kd.N_slice HO783.out; subst eo31; have hnb32 := NB788_771.out; have hnc32 := NB771_788.out; have hcz33_0 : w30.cell? ⟨gb788, 0, none⟩ = some (.slice none 0 0) := (blk_cell BK788.out 0).trans rfl; have hfz33_0 := blk_frozen BK788.out 0; have hcz34_0 : w30.cell? ⟨gb771, 0, none⟩ = some (.slice Ao18 t764.length co18) := (blk_cell BK771.out 0).trans rfl; have hfz34_0 := blk_frozen BK771.out 0; obtain ⟨Ao35, co35, eo35⟩ := Kd.R_slice HO769.out; subst eo35) | (go_at_call 57; (with_reducible refine (mizmazetop_spread.calls k _ _ t764 _ _ t767 t789 _ ?side1 ?side2 ?side3 ?side4 A5.out).mono ?_); (case side1 => exact (Kd.N_reads' (e := 28) (base := w.heap.size) (n := t764.length) (c := co18) (kN (Kd.N_mono (Kd.N_far (p := ⟨gb788, 0, none⟩) (Kd.N_mono HO766.out (fun k_ hk => (⟨hk, hk.2⟩ : _ ∧ k_ ≠ gb788))) (fun _ hk => hk.2) (.slice Ao31 t781.length co31)) (fun _ h_ => h_.1)))).2.2); (case side2 => exact (Kd.N_reads' HO766.out).2.1); (case side3 => exact (Kd.R_reads' (e := 3) (base := w.heap.size) (n := t767.length) (c := co35) (kR (Kd.R_mono (Kd.R_far (p := ⟨gb788, 0, none⟩) (Kd.R_types HO769.out BK788.out (by decide)) (fun _ hk => hk.2) (.slice Ao31 t781.length co31)) (fun _ h_ => h_.1)))).2.2); (case side4 => exact (Kd.R_reads' HO769.out).2.1); rintro e w36 ⟨rfl, hb⟩; replace HO763 := am (Kd.N_below (kN (Kd.N_mono (Kd.N_far (p := ⟨gb788, 0, none⟩) (Kd.N_mono HO763.out (fun k_ hk => (⟨hk, hk.2⟩ : _ ∧ k_ ≠ gb788))) (fun _ hk => hk.2) (.slice Ao31 t781.length co31)) (fun _ h_ => h_.1))) hb); replace HO766 := am (Kd.N_below (kN (Kd.N_mono (Kd.N_far (p := ⟨gb788, 0, none⟩) (Kd.N_mono HO766.out (fun k_ hk => (⟨hk, hk.2⟩ : _ ∧ k_ ≠ gb788))) (fun _ hk => hk.2) (.slice Ao31 t781.length co31)) (fun _ h_ => h_.1))) hb); replace HO769 := am (Kd.R_below (kR (Kd.R_mono (Kd.R_far (p := ⟨gb788, 0, none⟩) (Kd.R_types HO769.out BK788.out (by decide)) (fun _ hk => hk.2) (.slice Ao31 t781.length co31)) (fun _ h_ => h_.1))) hb); replace HO780 := am (Kd.N_below (kN (Kd.N_mono (Kd.N_far (p := ⟨gb788, 0, none⟩) (Kd.N_mono HO780.out (fun k_ hk => (⟨hk, hk.2⟩ : _ ∧ k_ ≠ gb788))) (fun _ hk => hk.2) (.slice Ao31 t781.length co31)) (fun _ h_ => h_.1))) hb); replace HO783 := am (Kd.N_below (kN (Kd.N_mono (Kd.N_far (p := ⟨gb788, 0, none⟩) (Kd.N_mono HO783.out (fun k_ hk => (⟨hk, hk.2⟩ : _ ∧ k_ ≠ gb788))) (fun _ hk => hk.2) (.slice Ao31 t781.length co31)) (fun _ h_ => h_.1))) hb); replace HO786 := am (Kd.R_below (kR (Kd.R_mono (Kd.R_far (p := ⟨gb788, 0, none⟩) (Kd.R_types HO786.out BK788.out (by decide)) (fun _ hk => hk.2) (.slice Ao31 t781.length co31)) (fun _ h_ => h_.1))) hb); replace BK771 := am (blk_below (g := gb771) (o := .cells #[.slice Ao18 t764.length co18] 24 (0, 0)) (by (with_reducible repeat (first | refine blk_drewN ?_ _ | refine blk_drew ?_ | refine blk_alloc ?_ _)); refine blk_far ?_ NB771_788.out _; (with_reducible repeat (first | refine blk_drewN ?_ _ | refine blk_drew ?_ | refine blk_alloc ?_ _)); exact BK771.out) hb); replace BK788 := am (blk_below (g := gb788) (o := .cells #[.slice Ao31 t781.length co31] 24 (0, 0)) (by (with_reducible repeat (first | refine blk_drewN ?_ _ | refine blk_drew ?_ | refine blk_alloc ?_ _)); refine blk_put (cs := #[.slice none 0 0]) ?_ 0 _ rfl; (with_reducible repeat (first | refine blk_drewN ?_ _ | refine blk_drew ?_ | refine blk_alloc ?_ _)); exact BK788.out) hb); replace HB := am (below_step (bs HB.out) hb); (try clear hb); (try clear hb2); (try clear hk); (try clear hi)))
    go_ret
    exact ⟨by first | rfl | (simp [errW_none, errW_some] <;> rfl) | (simp [*, errW_none, errW_some] <;> rfl), bs HB.out⟩
   ·rw [if_neg c6] at H
    exact absurd H (by simp)
  ·rw [if_neg c4] at H
   exact absurd H (by simp)
 ·rw [if_neg c3] at H
  exact absurd H (by simp)
end Go.Proofs.Ytjgdalhdiohclaa.Q
end
section
namespace Go.Proofs.Ytjgdalhdiohclaa.Q
attribute [local go_sem] max2_int min2_int max_two min_two max_three min_three max_four min_four
mutual
def mizmazetop_TopRoad.j0 : Nat → List Int → List Int → Int → List Int → Int → Bool → List (List Int) → List (List Int) → Option (Bool)
 | 0, _, _, _, _, _, _, _, _ => none
 | k + 1, x1, x2, x8, x10, x11, x37, x840000, x852000 => if x37 = true then (if x8 = 0 then (if x11 = 2 then ((mizmazetop_colours.f k).bind fun t852 => (some t852)) else (none)) else (none)) else ((net_Period.f k x840000).bind fun bt853 => (if bt853.2 = 0 then (mizmazetop_TopRoad.j1 k x1 x2 x10 x11 bt853.1 (decide (bt853.1 < 1)) x840000 x852000) else (mizmazetop_TopRoad.j1 k x1 x2 x10 x11 bt853.1 true x840000 x852000)))
def mizmazetop_TopRoad.j1 : Nat → List Int → List Int → List Int → Int → Int → Bool → List (List Int) → List (List Int) → Option (Bool)
 | 0, _, _, _, _, _, _, _, _ => none
 | k + 1, x1, x2, x10, x11, x12, x57, x840000, x852000 => if x57 = true then (none) else (if x12 > 1 then ((mizmazetop_coloured.f k x840000 x1).bind fun t855 => (if x11 = 4 then ((mizmazetop_proper.f k x840000 x2).bind fun t859 => ((mizmazetop_spread.f k t855 t859).bind fun t862 => (if t862 ≥ x12 then ((mizmazetop_spread.f k t855 ([] : List Int)).bind fun t863 => (if t863 ≥ x12 then ((mizmazetop_colours.f k).bind fun t864 => (some t864)) else (none))) else (none)))) else (none))) else (if x11 = 3 then ((color_Colorings.f k x840000).bind fun bt865 => (if bt865.2 = 3 then ((mizmazetop_colours.f k).bind fun t867 => (some t867)) else (if bt865.1 > 1000000 then ((mizmazetop_colours.f k).bind fun t868 => (some t868)) else (none)))) else (if x11 = 0 then ((mizmazetop_alike.f k x840000 x852000).bind fun t869 => (if t869 = true then ((mizmazetop_right.f k x852000 x10).bind fun t870 => (if t870 = true then (if (wrap64 (6 * (x10.length : Int))) ≤ (wrap64 ((wrap64 ((wrap64 ((x840000.length : Int) * (x840000.length : Int))) * (x840000.length : Int))) - (x840000.length : Int))) then ((mizmazetop_spread.f k x852000 x10).bind fun t871 => (if t871 = 1 then ((mizmazetop_proper.f k x840000 x2).bind fun t872 => ((mizmazetop_joined.f k (([t872, x10] : List (List Int)))).bind fun t878 => ((mizmazetop_spread.f k x852000 t878).bind fun t881 => (if t881 = 1 then ((mizmazetop_colours.f k).bind fun t882 => (some t882)) else (none))))) else (none))) else (none)) else (none))) else (none))) else (none))))
end
def mizmazetop_TopRoad.f (k : Nat) (l0_0 : List (List Int)) (l1 : List Int) (l2 : List Int) : Option (Bool) := (mizmazetop_valid.f k l0_0).bind fun t840 => (if t840 = true then ((net_Connected.f k l0_0).bind fun bt842 => ((color_Road.f k l0_0).bind fun bt844 => (if bt842.2 = 0 then (mizmazetop_TopRoad.j0 k l1 l2 bt842.2 bt844.2.1 bt844.2.2 (!bt842.1) l0_0 bt844.1) else (mizmazetop_TopRoad.j0 k l1 l2 bt842.2 bt844.2.1 bt844.2.2 true l0_0 bt844.1)))) else ((mizmazetop_colours.f k).bind fun t841 => (some t841)))
def mizmazetop_TopRoad.T12 : Bool × List (List Nat × List Nat) := (true, [([], []), ([0], [0]), ([1], [1]), ([2], [2]), ([2], [2]), ([2], [2]), ([4, 5, 2, 2], [2, 4, 5]), ([3, 6, 6, 2], [2, 3, 6]), ([2], [2]), ([7, 8, 2], [2, 7, 8]), ([2, 9], [2, 9]), ([10, 7], [10]), ([11], [11]), ([12, 11, 11], [11, 12]), ([11], [11]), ([13, 14, 11], [11, 13, 14]), ([11, 15], [11, 15]), ([16, 13], [16]), ([17, 17], [17]), ([17, 18], [17, 18]), ([19, 18, 0, 1, 2, 3, 4, 5, 6, 7, 8, 9, 10, 11, 12, 13, 14, 15, 16, 17, 18, 19], [19])])
def mizmazetop_TopRoad.B12 : List Nat := [0, 1, 3, 7, 7, 7, 55, 127, 7, 511, 1023, 2047, 4095, 8191, 4095, 32767, 65535, 131071, 262143, 524287, 1048575]
theorem mizmazetop_TopRoad.tab12 : rtab .any (opsOf Try.f14 12) = mizmazetop_TopRoad.T12 := by kernel_rfl
theorem mizmazetop_TopRoad.bits12 : waitsOk mizmazetop_TopRoad.T12.2 mizmazetop_TopRoad.B12 = true := by kernel_rfl
def mizmazetop_TopRoad.T17 : Bool × List (List Nat × List Nat) := (true, [([], []), ([0], [0]), ([1], [1]), ([2], [2]), ([2], [2]), ([3, 4, 2, 2], [2, 3, 4]), ([2, 5], [2, 5]), ([6, 5], [6]), ([7], [7]), ([7], [7]), ([8, 9, 7, 7], [7, 8, 9]), ([7, 10], [7, 10]), ([11, 10], [11]), ([12], [12]), ([13, 12], [12, 13]), ([14, 12], [12, 14]), ([12], [12]), ([12], [12]), ([16, 17, 12], [12, 16, 17]), ([12], [12]), ([18, 19, 12], [12, 18, 19]), ([12], [12]), ([20, 21, 12], [12, 20, 21]), ([15, 22, 12], [12, 15, 22]), ([12, 23], [12, 23]), ([24, 12], [24]), ([25], [25]), ([25], [25]), ([26, 27, 25, 25], [25, 26, 27]), ([28, 25], [25, 28]), ([25, 29], [25, 29]), ([30, 28], [30]), ([31], [31]), ([31], [31]), ([31], [31]), ([33, 34, 31, 31], [31, 33, 34]), ([31], [31]), ([35, 36, 31], [31, 35, 36]), ([37, 35, 31], [31, 37]), ([32, 38, 38, 31], [31, 32, 38]), ([39, 31], [31, 39]), ([31, 40], [31, 40]), ([41, 39], [41]), ([42, 42], [42]), ([42, 43], [42, 43]), ([44, 43, 0, 1, 2, 3, 4, 5, 6, 7, 8, 9, 10, 11, 12, 13, 14, 15, 16, 17, 18, 19, 20, 21, 22, 23, 24, 25, 26, 27, 28, 29, 30, 31, 32, 33, 34, 35, 36, 37, 38, 39, 40, 41, 42, 43, 44], [44])])
def mizmazetop_TopRoad.B17 : List Nat := [0, 1, 3, 7, 7, 31, 63, 127, 255, 255, 1023, 2047, 4095, 8191, 16383, 32767, 8191, 8191, 204799, 8191, 991231, 8191, 4136959, 8388607, 16777215, 33554431, 67108863, 67108863, 268435455, 536870911, 1073741823, 2147483647, 4294967295, 4294967295, 4294967295, 30064771071, 4294967295, 133143986175, 270582939647, 549755813887, 1099511627775, 2199023255551, 4398046511103, 8796093022207, 17592186044415, 35184372088831]
theorem mizmazetop_TopRoad.tab17 : rtab .any (opsOf Try.f14 17) = mizmazetop_TopRoad.T17 := by kernel_rfl
theorem mizmazetop_TopRoad.bits17 : waitsOk mizmazetop_TopRoad.T17.2 mizmazetop_TopRoad.B17 = true := by kernel_rfl
def ttr0 : Array Bool := #[true, false, false, false, false, false, false, false, false, false, false, false, false, false, false, false, false, false, false, false, false]
def ttr1 : Array Bool := #[true, true, false, false, false, false, false, false, false, false, false, false, false, false, false, false, false, false, false, false, false]
def ttr2 : Array Bool := #[true, true, true, false, false, false, false, false, false, false, false, false, false, false, false, false, false, false, false, false, false]
def ttr3 : Array Bool := #[true, true, true, false, false, true, false, false, false, false, false, false, false, false, false, false, false, false, false, false, false]
def ttr4 : Array Bool := #[true, true, true, false, false, true, false, false, true, false, false, false, false, false, false, false, false, false, false, false, false]
def ttr5 : Array Bool := #[true, true, true, true, false, true, false, false, true, false, false, false, false, false, false, false, false, false, false, false, false]
def ttr6 : Array Bool := #[true, true, true, true, true, true, false, false, true, false, false, false, false, false, false, false, false, false, false, false, false]
def ttr7 : Array Bool := #[true, true, true, true, true, true, true, false, true, false, false, false, false, false, false, false, false, false, false, false, false]
def ttr8 : Array Bool := #[true, true, true, true, true, true, true, true, true, false, false, false, false, false, false, false, false, false, false, false, false]
def ttr9 : Array Bool := #[true, true, true, true, true, true, true, true, true, true, false, false, false, false, false, false, false, false, false, false, false]
def ttr10 : Array Bool := #[true, true, true, true, true, true, true, true, true, true, true, false, false, false, false, false, false, false, false, false, false]
def ttr11 : Array Bool := #[true, true, true, true, true, true, true, true, true, true, true, true, false, false, false, false, false, false, false, false, false]
def ttr12 : Array Bool := #[true, true, true, true, true, true, true, true, true, true, true, true, false, false, true, false, false, false, false, false, false]
def ttr13 : Array Bool := #[true, true, true, true, true, true, true, true, true, true, true, true, true, false, true, false, false, false, false, false, false]
def ttr14 : Array Bool := #[true, true, true, true, true, true, true, true, true, true, true, true, true, true, true, false, false, false, false, false, false]
def ttr15 : Array Bool := #[true, true, true, true, true, true, true, true, true, true, true, true, true, true, true, true, false, false, false, false, false]
def ttr16 : Array Bool := #[true, true, true, true, true, true, true, true, true, true, true, true, true, true, true, true, true, false, false, false, false]
def ttr17 : Array Bool := #[true, true, true, true, true, true, true, true, true, true, true, true, true, true, true, true, true, true, false, false, false]
def ttr18 : Array Bool := #[true, true, true, true, true, true, true, true, true, true, true, true, true, true, true, true, true, true, true, false, false]
def ttr19 : Array Bool := #[true, true, true, true, true, true, true, true, true, true, true, true, true, true, true, true, true, true, true, true, false]
def ttr20 : Array Bool := #[true, true, true, true, true, true, true, true, true, true, true, true, true, true, true, true, true, true, true, true, true]
def ttr21 : Array Bool := #[true, false, false, false, false, false, false, false, false, false, false, false, false, false, false, false, false, false, false, false, false, false, false, false, false, false, false, false, false, false, false, false, false, false, false, false, false, false, false, false, false, false, false, false, false, false]
def ttr22 : Array Bool := #[true, true, false, false, false, false, false, false, false, false, false, false, false, false, false, false, false, false, false, false, false, false, false, false, false, false, false, false, false, false, false, false, false, false, false, false, false, false, false, false, false, false, false, false, false, false]
def ttr23 : Array Bool := #[true, true, true, false, false, false, false, false, false, false, false, false, false, false, false, false, false, false, false, false, false, false, false, false, false, false, false, false, false, false, false, false, false, false, false, false, false, false, false, false, false, false, false, false, false, false]
def ttr24 : Array Bool := #[true, true, true, true, false, false, false, false, false, false, false, false, false, false, false, false, false, false, false, false, false, false, false, false, false, false, false, false, false, false, false, false, false, false, false, false, false, false, false, false, false, false, false, false, false, false]
def ttr25 : Array Bool := #[true, true, true, true, true, false, false, false, false, false, false, false, false, false, false, false, false, false, false, false, false, false, false, false, false, false, false, false, false, false, false, false, false, false, false, false, false, false, false, false, false, false, false, false, false, false]
def ttr26 : Array Bool := #[true, true, true, true, true, true, false, false, false, false, false, false, false, false, false, false, false, false, false, false, false, false, false, false, false, false, false, false, false, false, false, false, false, false, false, false, false, false, false, false, false, false, false, false, false, false]
def ttr27 : Array Bool := #[true, true, true, true, true, true, true, false, false, false, false, false, false, false, false, false, false, false, false, false, false, false, false, false, false, false, false, false, false, false, false, false, false, false, false, false, false, false, false, false, false, false, false, false, false, false]
def ttr28 : Array Bool := #[true, true, true, true, true, true, true, true, false, false, false, false, false, false, false, false, false, false, false, false, false, false, false, false, false, false, false, false, false, false, false, false, false, false, false, false, false, false, false, false, false, false, false, false, false, false]
def ttr29 : Array Bool := #[true, true, true, true, true, true, true, true, false, true, false, false, false, false, false, false, false, false, false, false, false, false, false, false, false, false, false, false, false, false, false, false, false, false, false, false, false, false, false, false, false, false, false, false, false, false]
def ttr30 : Array Bool := #[true, true, true, true, true, true, true, true, true, true, false, false, false, false, false, false, false, false, false, false, false, false, false, false, false, false, false, false, false, false, false, false, false, false, false, false, false, false, false, false, false, false, false, false, false, false]
def ttr31 : Array Bool := #[true, true, true, true, true, true, true, true, true, true, true, false, false, false, false, false, false, false, false, false, false, false, false, false, false, false, false, false, false, false, false, false, false, false, false, false, false, false, false, false, false, false, false, false, false, false]
def ttr32 : Array Bool := #[true, true, true, true, true, true, true, true, true, true, true, true, false, false, false, false, false, false, false, false, false, false, false, false, false, false, false, false, false, false, false, false, false, false, false, false, false, false, false, false, false, false, false, false, false, false]
def ttr33 : Array Bool := #[true, true, true, true, true, true, true, true, true, true, true, true, true, false, false, false, false, false, false, false, false, false, false, false, false, false, false, false, false, false, false, false, false, false, false, false, false, false, false, false, false, false, false, false, false, false]
def ttr34 : Array Bool := #[true, true, true, true, true, true, true, true, true, true, true, true, true, true, false, false, false, false, false, false, false, false, false, false, false, false, false, false, false, false, false, false, false, false, false, false, false, false, false, false, false, false, false, false, false, false]
def ttr35 : Array Bool := #[true, true, true, true, true, true, true, true, true, true, true, true, true, true, true, false, false, false, false, false, false, false, false, false, false, false, false, false, false, false, false, false, false, false, false, false, false, false, false, false, false, false, false, false, false, false]
def ttr36 : Array Bool := #[true, true, true, true, true, true, true, true, true, true, true, true, true, true, true, true, false, false, false, false, false, false, false, false, false, false, false, false, false, false, false, false, false, false, false, false, false, false, false, false, false, false, false, false, false, false]
def ttr37 : Array Bool := #[true, true, true, true, true, true, true, true, true, true, true, true, true, true, true, true, true, false, false, false, false, false, false, false, false, false, false, false, false, false, false, false, false, false, false, false, false, false, false, false, false, false, false, false, false, false]
def ttr38 : Array Bool := #[true, true, true, true, true, true, true, true, true, true, true, true, true, true, true, true, true, true, false, false, false, false, false, false, false, false, false, false, false, false, false, false, false, false, false, false, false, false, false, false, false, false, false, false, false, false]
def ttr39 : Array Bool := #[true, true, true, true, true, true, true, true, true, true, true, true, true, true, true, true, true, true, true, false, false, false, false, false, false, false, false, false, false, false, false, false, false, false, false, false, false, false, false, false, false, false, false, false, false, false]
def ttr40 : Array Bool := #[true, true, true, true, true, true, true, true, true, true, true, true, true, true, true, true, true, true, true, true, false, false, false, false, false, false, false, false, false, false, false, false, false, false, false, false, false, false, false, false, false, false, false, false, false, false]
def ttr41 : Array Bool := #[true, true, true, true, true, true, true, true, true, true, true, true, true, true, true, true, true, true, true, true, true, false, false, false, false, false, false, false, false, false, false, false, false, false, false, false, false, false, false, false, false, false, false, false, false, false]
def ttr42 : Array Bool := #[true, true, true, true, true, true, true, true, true, true, true, true, true, true, true, true, true, true, true, true, true, true, false, false, false, false, false, false, false, false, false, false, false, false, false, false, false, false, false, false, false, false, false, false, false, false]
def ttr43 : Array Bool := #[true, true, true, true, true, true, true, true, true, true, true, true, true, true, true, true, true, true, true, true, true, true, true, false, false, false, false, false, false, false, false, false, false, false, false, false, false, false, false, false, false, false, false, false, false, false]
def ttr44 : Array Bool := #[true, true, true, true, true, true, true, true, true, true, true, true, true, true, true, true, true, true, true, true, true, true, true, true, false, false, false, false, false, false, false, false, false, false, false, false, false, false, false, false, false, false, false, false, false, false]
def ttr45 : Array Bool := #[true, true, true, true, true, true, true, true, true, true, true, true, true, true, true, true, true, true, true, true, true, true, true, true, true, false, false, false, false, false, false, false, false, false, false, false, false, false, false, false, false, false, false, false, false, false]
def ttr46 : Array Bool := #[true, true, true, true, true, true, true, true, true, true, true, true, true, true, true, true, true, true, true, true, true, true, true, true, true, true, false, false, false, false, false, false, false, false, false, false, false, false, false, false, false, false, false, false, false, false]
def ttr47 : Array Bool := #[true, true, true, true, true, true, true, true, true, true, true, true, true, true, true, true, true, true, true, true, true, true, true, true, true, true, false, true, false, false, false, false, false, false, false, false, false, false, false, false, false, false, false, false, false, false]
def ttr48 : Array Bool := #[true, true, true, true, true, true, true, true, true, true, true, true, true, true, true, true, true, true, true, true, true, true, true, true, true, true, true, true, false, false, false, false, false, false, false, false, false, false, false, false, false, false, false, false, false, false]
def ttr49 : Array Bool := #[true, true, true, true, true, true, true, true, true, true, true, true, true, true, true, true, true, true, true, true, true, true, true, true, true, true, true, true, true, false, false, false, false, false, false, false, false, false, false, false, false, false, false, false, false, false]
def ttr50 : Array Bool := #[true, true, true, true, true, true, true, true, true, true, true, true, true, true, true, true, true, true, true, true, true, true, true, true, true, true, true, true, true, true, false, false, false, false, false, false, false, false, false, false, false, false, false, false, false, false]
def ttr51 : Array Bool := #[true, true, true, true, true, true, true, true, true, true, true, true, true, true, true, true, true, true, true, true, true, true, true, true, true, true, true, true, true, true, true, false, false, false, false, false, false, false, false, false, false, false, false, false, false, false]
def ttr52 : Array Bool := #[true, true, true, true, true, true, true, true, true, true, true, true, true, true, true, true, true, true, true, true, true, true, true, true, true, true, true, true, true, true, true, true, false, false, false, false, false, false, false, false, false, false, false, false, false, false]
def ttr53 : Array Bool := #[true, true, true, true, true, true, true, true, true, true, true, true, true, true, true, true, true, true, true, true, true, true, true, true, true, true, true, true, true, true, true, true, false, false, true, false, false, false, false, false, false, false, false, false, false, false]
def ttr54 : Array Bool := #[true, true, true, true, true, true, true, true, true, true, true, true, true, true, true, true, true, true, true, true, true, true, true, true, true, true, true, true, true, true, true, true, false, false, true, false, true, false, false, false, false, false, false, false, false, false]
def ttr55 : Array Bool := #[true, true, true, true, true, true, true, true, true, true, true, true, true, true, true, true, true, true, true, true, true, true, true, true, true, true, true, true, true, true, true, true, true, false, true, false, true, false, false, false, false, false, false, false, false, false]
def ttr56 : Array Bool := #[true, true, true, true, true, true, true, true, true, true, true, true, true, true, true, true, true, true, true, true, true, true, true, true, true, true, true, true, true, true, true, true, true, true, true, false, true, false, false, false, false, false, false, false, false, false]
def ttr57 : Array Bool := #[true, true, true, true, true, true, true, true, true, true, true, true, true, true, true, true, true, true, true, true, true, true, true, true, true, true, true, true, true, true, true, true, true, true, true, true, true, false, false, false, false, false, false, false, false, false]
def ttr58 : Array Bool := #[true, true, true, true, true, true, true, true, true, true, true, true, true, true, true, true, true, true, true, true, true, true, true, true, true, true, true, true, true, true, true, true, true, true, true, true, true, true, false, false, false, false, false, false, false, false]
def ttr59 : Array Bool := #[true, true, true, true, true, true, true, true, true, true, true, true, true, true, true, true, true, true, true, true, true, true, true, true, true, true, true, true, true, true, true, true, true, true, true, true, true, true, true, false, false, false, false, false, false, false]
def ttr60 : Array Bool := #[true, true, true, true, true, true, true, true, true, true, true, true, true, true, true, true, true, true, true, true, true, true, true, true, true, true, true, true, true, true, true, true, true, true, true, true, true, true, true, true, false, false, false, false, false, false]
def ttr61 : Array Bool := #[true, true, true, true, true, true, true, true, true, true, true, true, true, true, true, true, true, true, true, true, true, true, true, true, true, true, true, true, true, true, true, true, true, true, true, true, true, true, true, true, true, false, false, false, false, false]
def ttr62 : Array Bool := #[true, true, true, true, true, true, true, true, true, true, true, true, true, true, true, true, true, true, true, true, true, true, true, true, true, true, true, true, true, true, true, true, true, true, true, true, true, true, true, true, true, true, false, false, false, false]
def ttr63 : Array Bool := #[true, true, true, true, true, true, true, true, true, true, true, true, true, true, true, true, true, true, true, true, true, true, true, true, true, true, true, true, true, true, true, true, true, true, true, true, true, true, true, true, true, true, true, false, false, false]
def ttr64 : Array Bool := #[true, true, true, true, true, true, true, true, true, true, true, true, true, true, true, true, true, true, true, true, true, true, true, true, true, true, true, true, true, true, true, true, true, true, true, true, true, true, true, true, true, true, true, true, false, false]
def ttr65 : Array Bool := #[true, true, true, true, true, true, true, true, true, true, true, true, true, true, true, true, true, true, true, true, true, true, true, true, true, true, true, true, true, true, true, true, true, true, true, true, true, true, true, true, true, true, true, true, true, false]
def ttr66 : Array Bool := #[true, true, true, true, true, true, true, true, true, true, true, true, true, true, true, true, true, true, true, true, true, true, true, true, true, true, true, true, true, true, true, true, true, true, true, true, true, true, true, true, true, true, true, true, true, true]
theorem mizmazetop_TopRoad.calls (k : Nat) (A0_0 : Option Addr) (c0_0 : Nat) (l0_0 : List (List Int)) (A1 : Option Addr) (c1 : Nat) (l1 : List Int) (A2 : Option Addr) (c2 : Nat) (l2 : List Int) (r : Bool) (w : World) (hr0_0 : Kd.C (Kd.slice 3 (Kd.int .i64)) w A0_0 l0_0.length l0_0) (hc0_0 : l0_0.length ≤ c0_0) (hr1 : Kd.C (Kd.int .i64) w A1 l1.length l1) (hc1 : l1.length ≤ c1) (hr2 : Kd.C (Kd.int .i64) w A2 l2.length l2) (hc2 : l2.length ≤ c2) (h : mizmazetop_TopRoad.f k l0_0 l1 l2 = some r) :
    Calls Try.prog 14 #[.agg #[.slice A0_0 l0_0.length c0_0], .slice A1 l1.length c1, .slice A2 l2.length c2] w fun e w' => e = .returned (.bool r) ∧ Below w.heap.size w w' := by
 have hu24 := Try.underlying24
 have HR0_0 := am hr0_0
 have HC0_0 := am hc0_0
 clear hr0_0 hc0_0
 have HR1 := am hr1
 have HC1 := am hc1
 clear hr1 hc1
 have HR2 := am hr2
 have HC2 := am hc2
 clear hr2 hc2
 have HB := am (Below.refl w.heap.size w)
 have H : ((mizmazetop_valid.f k l0_0).bind fun t840 => (if t840 = true then ((net_Connected.f k l0_0).bind fun bt842 => ((color_Road.f k l0_0).bind fun bt844 => (if bt842.2 = 0 then (mizmazetop_TopRoad.j0 k l1 l2 bt842.2 bt844.2.1 bt844.2.2 (!bt842.1) l0_0 bt844.1) else (mizmazetop_TopRoad.j0 k l1 l2 bt842.2 bt844.2.1 bt844.2.2 true l0_0 bt844.1)))) else ((mizmazetop_colours.f k).bind fun t841 => (some t841)))) = some r := h
 clear h
 replace H := Option.bind_eq_some_iff.mp H
 obtain ⟨t840, A40, H⟩ := H
 replace H : (if t840 = true then ((net_Connected.f k l0_0).bind fun bt842 => ((color_Road.f k l0_0).bind fun bt844 => (if bt842.2 = 0 then (mizmazetop_TopRoad.j0 k l1 l2 bt842.2 bt844.2.1 bt844.2.2 (!bt842.1) l0_0 bt844.1) else (mizmazetop_TopRoad.j0 k l1 l2 bt842.2 bt844.2.1 bt844.2.2 true l0_0 bt844.1)))) else ((mizmazetop_colours.f k).bind fun t841 => (some t841))) = some r := H
 have A4 := am A40
 clear A40
 by_cases c5 : t840 = true
 rotate_left
 ·replace c5 := Bool.eq_false_iff.mpr c5
  subst c5
  have H1 : ((mizmazetop_colours.f k).bind fun t841 => (some t841)) = some r := by rw [if_neg (show ¬ (false = true) by decide)] at H; exact H
  clear H
  have H := H1
  clear H1
  replace H := Option.bind_eq_some_iff.mp H
  obtain ⟨t841, A1000, H⟩ := H
  replace H : (some t841) = some r := H
  have A100 := am A1000
  clear A1000
  obtain rfl := Option.some.inj H
  go_enter Try.func14, Try.ntmps14
  go_wp2_with (first | ((with_reducible refine gate_dst (N := 3) rfl ?_); (try (refine gate_guard (by rfl) ?_; dsimp only)); refine box_event zz5 (N := 3) zz5 (cs := #[.slice A0_0 l0_0.length c0_0]) (t := 24) zz6 ?_; intro gb839 hg w101 hbox hb; have BK839 := am (hbox); have GW839 := am ((by rw [hg]; exact (below_size (bw HB.out)) : w.heap.size ≤ gb839)); have GE839 := am ((by rw [hg]; exact (below_size (bw HB.out)) : w.heap.size ≤ gb839)); replace HB := am (below_step (bw HB.out) hb); clear hb hbox hg; have hcz102_0 : w101.cell? ⟨gb839, 0, none⟩ = some (.slice A0_0 l0_0.length c0_0) := (blk_cell BK839.out 0).trans rfl; have hfz102_0 := blk_frozen BK839.out 0) | ((with_reducible refine gate_callee (f := 54) rfl ?_); refine goesL_ (some 18) rfl rfl Try.func54 (by kernel_rfl) rfl #[.agg #[.slice A0_0 l0_0.length c0_0]] rfl zz1 ?_; (with_reducible refine (mizmazetop_valid.calls k _ _ l0_0 false _ ?side1 ?side2 A4.out).mono ?_); (case side1 => exact kc (Kd.C_below HR0_0.out HB.out)); (case side2 => exact HC0_0.out); rintro e w103 ⟨rfl, hb⟩; refine ⟨_, rfl, ?_⟩; replace BK839 := am (blk_below (g := gb839) (o := .cells #[.slice A0_0 l0_0.length c0_0] 24 (0, 0)) (kb BK839.out) hb); replace HB := am (below_step (bs HB.out) hb); (try clear hb); (try clear hb2); (try clear hk); (try clear hi)) | ((with_reducible refine gate_callee (f := 55) rfl ?_); refine goesL_ (some 20) rfl rfl Try.func55 (by kernel_rfl) rfl #[] rfl zz1 ?_; (with_reducible refine (mizmazetop_colours.calls k  t841 _ A100.out).mono ?_); rintro e w104 ⟨rfl, hb⟩; refine ⟨_, rfl, ?_⟩; replace BK839 := am (blk_below (g := gb839) (o := .cells #[.slice A0_0 l0_0.length c0_0] 24 (0, 0)) (kb BK839.out) hb); replace HB := am (below_step (bs HB.out) hb); (try clear hb); (try clear hb2); (try clear hk); (try clear hi)))
  go_ret
  exact ⟨by first | rfl | (simp [errW_none, errW_some] <;> rfl) | (simp [*, errW_none, errW_some] <;> rfl), bs HB.out⟩
 subst c5
 have H1 : ((net_Connected.f k l0_0).bind fun bt842 => ((color_Road.f k l0_0).bind fun bt844 => (if bt842.2 = 0 then (mizmazetop_TopRoad.j0 k l1 l2 bt842.2 bt844.2.1 bt844.2.2 (!bt842.1) l0_0 bt844.1) else (mizmazetop_TopRoad.j0 k l1 l2 bt842.2 bt844.2.1 bt844.2.2 true l0_0 bt844.1)))) = some r := by rw [if_pos rfl] at H; exact H
 clear H
 have H := H1
 clear H1
 replace H := Option.bind_eq_some_iff.mp H
 obtain ⟨⟨t842, t843⟩, A60, H⟩ := H
 replace H : ((color_Road.f k l0_0).bind fun bt844 => (if t843 = 0 then (mizmazetop_TopRoad.j0 k l1 l2 t843 bt844.2.1 bt844.2.2 (!t842) l0_0 bt844.1) else (mizmazetop_TopRoad.j0 k l1 l2 t843 bt844.2.1 bt844.2.2 true l0_0 bt844.1))) = some r := H
 have A6 := am A60
 clear A60
 replace H := Option.bind_eq_some_iff.mp H
 obtain ⟨⟨t844, t847, t850⟩, A70, H⟩ := H
 replace H : (if t843 = 0 then (mizmazetop_TopRoad.j0 k l1 l2 t843 t847 t850 (!t842) l0_0 t844) else (mizmazetop_TopRoad.j0 k l1 l2 t843 t847 t850 true l0_0 t844)) = some r := H
 have A7 := am A70
 clear A70
 have HC8 := am H
 clear H
 go_enter Try.func14, Try.ntmps14
 go_upto_region 5 with (first | ((with_reducible refine gate_dst (N := 3) rfl ?_); (try (refine gate_guard (by rfl) ?_; dsimp only)); refine box_event zz5 (N := 3) zz5 (cs := #[.slice A0_0 l0_0.length c0_0]) (t := 24) zz6 ?_; intro gb839 hg w9 hbox hb; have BK839 := am (hbox); have GW839 := am ((by rw [hg]; exact (below_size (bw HB.out)) : w.heap.size ≤ gb839)); have GE839 := am ((by rw [hg]; exact (below_size (bw HB.out)) : w.heap.size ≤ gb839)); replace HB := am (below_step (bw HB.out) hb); clear hb hbox hg; have hcz10_0 : w9.cell? ⟨gb839, 0, none⟩ = some (.slice A0_0 l0_0.length c0_0) := (blk_cell BK839.out 0).trans rfl; have hfz10_0 := blk_frozen BK839.out 0) | ((with_reducible refine gate_callee (f := 54) rfl ?_); refine goesL_ (some 18) rfl rfl Try.func54 (by kernel_rfl) rfl #[.agg #[.slice A0_0 l0_0.length c0_0]] rfl zz1 ?_; (with_reducible refine (mizmazetop_valid.calls k _ _ l0_0 true _ ?side1 ?side2 A4.out).mono ?_); (case side1 => exact kc (Kd.C_below HR0_0.out HB.out)); (case side2 => exact HC0_0.out); rintro e w11 ⟨rfl, hb⟩; refine ⟨_, rfl, ?_⟩; replace BK839 := am (blk_below (g := gb839) (o := .cells #[.slice A0_0 l0_0.length c0_0] 24 (0, 0)) (kb BK839.out) hb); replace HB := am (below_step (bs HB.out) hb); (try clear hb); (try clear hb2); (try clear hk); (try clear hi); have hcz12_0 : w11.cell? ⟨gb839, 0, none⟩ = some (.slice A0_0 l0_0.length c0_0) := (blk_cell BK839.out 0).trans rfl; have hfz12_0 := blk_frozen BK839.out 0) | ((with_reducible refine gate_callee (f := 16) rfl ?_); refine goesL_ (some 23) rfl rfl Try.func16 (by kernel_rfl) rfl #[.agg #[.slice A0_0 l0_0.length c0_0]] rfl zz1 ?_; (with_reducible refine (net_Connected.calls k _ _ l0_0 t842 t843 _ ?side1 ?side2 A6.out).mono ?_); (case side1 => exact kc (Kd.C_below HR0_0.out HB.out)); (case side2 => exact HC0_0.out); rintro e w13 ⟨rfl, hb⟩; refine ⟨_, rfl, ?_⟩; replace BK839 := am (blk_below (g := gb839) (o := .cells #[.slice A0_0 l0_0.length c0_0] 24 (0, 0)) (kb BK839.out) hb); replace HB := am (below_step (bs HB.out) hb); (try clear hb); (try clear hb2); (try clear hk); (try clear hi); have hcz14_0 : w13.cell? ⟨gb839, 0, none⟩ = some (.slice A0_0 l0_0.length c0_0) := (blk_cell BK839.out 0).trans rfl; have hfz14_0 := blk_frozen BK839.out 0) | ((with_reducible refine gate_callee (f := 49) rfl ?_); refine goesL_ (some 28) rfl rfl Try.func49 (by kernel_rfl) rfl #[.agg #[.slice A0_0 l0_0.length c0_0]] rfl zz1 ?_; (with_reducible refine (color_Road.calls k _ _ l0_0 t844 t847 t850 _ ?side1 ?side2 A7.out).mono ?_); (case side1 => exact kc (Kd.C_below HR0_0.out HB.out)); (case side2 => exact HC0_0.out); rintro e w15 ⟨v845, v848, rfl, ho0, ho1, hb⟩; refine ⟨_, rfl, ?_⟩; have HO846 := am (Kd.N_lower (Kd.N_mono (ok' := fun k_ => some k_ ≠ (v848 : Value).ownBlock ∧ k_ ≠ gb839) (Kd.S_N (Kd.S_bound ho0)) (fun k_ hk_ => ⟨hk_.1, (Kd.freshB (g := gb839) (o := .cells #[.slice A0_0 l0_0.length c0_0] 24 (0, 0)) (kb BK839.out) k_ hk_.2.1)⟩)) (below_size (bs HB.out))); have HO849 := am (Kd.R_lower ho1 (below_size (bs HB.out))); replace BK839 := am (blk_below (g := gb839) (o := .cells #[.slice A0_0 l0_0.length c0_0] 24 (0, 0)) (kb BK839.out) hb); replace HB := am (below_step (bs HB.out) hb); (try clear hb); (try clear hb2); (try clear hk); (try clear hi); (try clear ho0); (try clear ho1)) | ((with_reducible refine gate_dst (N := 9) rfl ?_); (try (refine gate_guard (by rfl) ?_; dsimp only)); refine box_event zz5 (N := 9) zz5 (cs := #[.slice none 0 0]) (t := 24) zz6 ?_; intro gb851 hg w16 hbox hb; replace HO846 := am (Kd.N_below (Kd.N_elderB (kN HO846.out) gb851 (Nat.le_of_eq hg.symm)) hb); replace HO849 := am (Kd.R_below (kR HO849.out) hb); have BK851 := am (hbox); have GW851 := am ((by rw [hg]; exact (below_size (bs HB.out)) : w.heap.size ≤ gb851)); have GE851 := am ((by rw [hg]; exact (below_size (bs HB.out)) : w.heap.size ≤ gb851)); replace HB := am (below_step (bs HB.out) hb); have NB839_851 := am ((by rw [hg]; exact Nat.ne_of_lt (blk_lt (g := gb839) (o := .cells #[.slice A0_0 l0_0.length c0_0] 24 (0, 0)) (kb BK839.out)) : gb839 ≠ gb851)); have NB851_839 := am ((by rw [hg]; exact Nat.ne_of_gt (blk_lt (g := gb839) (o := .cells #[.slice A0_0 l0_0.length c0_0] 24 (0, 0)) (kb BK839.out)) : gb851 ≠ gb839)); replace BK839 := am (blk_below (g := gb839) (o := .cells #[.slice A0_0 l0_0.length c0_0] 24 (0, 0)) (kb BK839.out) hb); clear hb hbox hg; obtain ⟨Ao17, co17, eo17⟩ := Kd.N_slice HO846.out; subst eo17; have hnb18 := NB851_839.out; have hnc18 := NB839_851.out; have hcz19_0 : w16.cell? ⟨gb851, 0, none⟩ = some (.slice none 0 0) := (blk_cell BK851.out 0).trans rfl; have hfz19_0 := blk_frozen BK851.out 0))
 (try simp only [Act.put, List.setIfInBounds_toArray, List.set_cons_zero, List.set_cons_succ])
 go_cut [37] (fun v37 wc => ∃ (kq : Nat) (x37_7 : Bool), v37 = .bool x37_7 ∧ Aside0 (mizmazetop_TopRoad.j0 kq l1 l2 t843 t847 t850 x37_7 l0_0 t844 = some r) ∧ Aside0 (kq ≤ k) ∧ Aside0 (Kd.R (Kd.int .i64) 3 wc w.heap.size (fun _ => True) v848 t847) ∧ Aside0 (Kd.N (Kd.slice 3 (Kd.int .i64)) 28 wc w.heap.size (fun k_ => some k_ ≠ (v848 : Value).ownBlock ∧ k_ ≠ gb839 ∧ k_ ≠ gb851) (.slice Ao17 t844.length co17) t844) ∧ Aside0 (wc.heap[gb839]? = some (.cells #[(.slice A0_0 l0_0.length c0_0)] 24 (0, 0))) ∧ Aside0 (wc.heap[gb851]? = some (.cells #[(.slice Ao17 t844.length co17)] 24 (0, 0))) ∧ Aside0 (Below w.heap.size w wc))
 case first =>
  have H := HC8.out
  clear HC8
  by_cases c20 : t843 = 0
  rotate_left
  ·rw [if_neg c20] at H
   have c20b0 : (t843 == 0) = false := beq_eq_false_iff_ne.mpr c20
   have c20b1 : (t843 != 0) = true := bne_iff_ne.mpr c20
   (first | rw [c20b0] | (simp only [i64_w, i32_w]; rw [c20b0]) | skip)
   have H' := am H
   clear H
   go_wp2
   go_meet
   case rel => exact ⟨_, (true), zz3, H', ⟨by first | omega | exact Nat.le_refl _⟩, ⟨kR (Kd.R_mono (Kd.R_far (p := ⟨gb851, 0, none⟩) (Kd.R_types HO849.out BK851.out (by decide)) (fun _ hk => hk.2) (.slice Ao17 t844.length co17)) (fun _ hk => trivial))⟩, ⟨kN (Kd.N_mono (Kd.N_far (p := ⟨gb851, 0, none⟩) (Kd.N_mono HO846.out (fun k_ hk => (⟨hk, hk.2⟩ : _ ∧ k_ ≠ gb851))) (fun _ hk => hk.2) (.slice Ao17 t844.length co17)) (fun _ hk => ⟨hk.1.1.1, ⟨hk.1.1.2, hk.1.2⟩⟩))⟩, ⟨by (with_reducible repeat (first | refine blk_drewN ?_ _ | refine blk_drew ?_ | refine blk_alloc ?_ _)); refine blk_far ?_ NB839_851.out _; (with_reducible repeat (first | refine blk_drewN ?_ _ | refine blk_drew ?_ | refine blk_alloc ?_ _)); exact BK839.out⟩, ⟨by (with_reducible repeat (first | refine blk_drewN ?_ _ | refine blk_drew ?_ | refine blk_alloc ?_ _)); refine blk_put (cs := #[.slice none 0 0]) ?_ 0 _ rfl; (with_reducible repeat (first | refine blk_drewN ?_ _ | refine blk_drew ?_ | refine blk_alloc ?_ _)); exact BK851.out⟩, ⟨bs HB.out⟩⟩
  rw [if_pos c20] at H
  have c20b0 : (t843 == 0) = true := beq_iff_eq.mpr c20
  have c20b1 : (t843 != 0) = false := bne_eq_false_iff_eq.mpr c20
  clear c20
  (first | rw [c20b0] | (simp only [i64_w, i32_w]; rw [c20b0]) | skip)
  have H' := am H
  clear H
  go_wp2
  go_meet
  case rel => exact ⟨_, (!t842), zz3, H', ⟨by first | omega | exact Nat.le_refl _⟩, ⟨kR (Kd.R_mono (Kd.R_far (p := ⟨gb851, 0, none⟩) (Kd.R_types HO849.out BK851.out (by decide)) (fun _ hk => hk.2) (.slice Ao17 t844.length co17)) (fun _ hk => trivial))⟩, ⟨kN (Kd.N_mono (Kd.N_far (p := ⟨gb851, 0, none⟩) (Kd.N_mono HO846.out (fun k_ hk => (⟨hk, hk.2⟩ : _ ∧ k_ ≠ gb851))) (fun _ hk => hk.2) (.slice Ao17 t844.length co17)) (fun _ hk => ⟨hk.1.1.1, ⟨hk.1.1.2, hk.1.2⟩⟩))⟩, ⟨by (with_reducible repeat (first | refine blk_drewN ?_ _ | refine blk_drew ?_ | refine blk_alloc ?_ _)); refine blk_far ?_ NB839_851.out _; (with_reducible repeat (first | refine blk_drewN ?_ _ | refine blk_drew ?_ | refine blk_alloc ?_ _)); exact BK839.out⟩, ⟨by (with_reducible repeat (first | refine blk_drewN ?_ _ | refine blk_drew ?_ | refine blk_alloc ?_ _)); refine blk_put (cs := #[.slice none 0 0]) ?_ 0 _ rfl; (with_reducible repeat (first | refine blk_drewN ?_ _ | refine blk_drew ?_ | refine blk_alloc ?_ _)); exact BK851.out⟩, ⟨bs HB.out⟩⟩
 case rest =>
  clear HC8
  (try clear c1); (try clear c2); (try clear p2); (try clear c4); (try clear c5); (try clear c14); (try clear c16); (try clear c18); (try clear c20); (try clear c20b0); (try clear c20b1); (try clear hcz10_0); (try clear hcz12_0); (try clear hcz14_0); (try clear hcz19_0); (try clear hfz10_0); (try clear hfz12_0); (try clear hfz14_0); (try clear hfz19_0)
  obtain ⟨kq, x37_7, rfl, HA, HJ7, HO_10, HO_852000, BK839, BK851, HB⟩ := hcut
  cases kq with
  | zero => exact absurd HA.out (by simp [mizmazetop_TopRoad.j0])
  | succ kj7 =>
   have H := HA.out
   clear HA
   simp only [mizmazetop_TopRoad.j0] at H
   by_cases c21 : x37_7 = true
   ·subst c21
    have H1 : (if t843 = 0 then (if t850 = 2 then ((mizmazetop_colours.f kj7).bind fun t852 => (some t852)) else (none)) else (none)) = some r := by rw [if_pos rfl] at H; exact H
    clear H
    have H := H1
    clear H1
    by_cases c22 : t843 = 0
    rotate_left
    ·rw [if_neg c22] at H
     exact absurd H (by simp)
    rw [if_pos c22] at H
    have c22b0 : (t843 == 0) = true := beq_iff_eq.mpr c22
    have c22b1 : (t843 != 0) = false := bne_eq_false_iff_eq.mpr c22
    clear c22
    by_cases c23 : t850 = 2
    rotate_left
    ·rw [if_neg c23] at H
     exact absurd H (by simp)
    rw [if_pos c23] at H
    have c23b0 : (t850 == 2) = true := beq_iff_eq.mpr c23
    have c23b1 : (t850 != 2) = false := bne_eq_false_iff_eq.mpr c23
    clear c23
    replace H := Option.bind_eq_some_iff.mp H
    obtain ⟨t852, A240, H⟩ := H
    replace H : (some t852) = some r := H
    have A24 := am A240
    clear A240
    obtain rfl := Option.some.inj H
    go_wp2_with (first | (go_at_call 55; (with_reducible refine (mizmazetop_colours.calls kj7  t852 _ A24.out).mono ?_); rintro e w25 ⟨rfl, hb⟩; replace HO_10 := am (Kd.R_below (kR HO_10.out) hb); replace HO_852000 := am (Kd.N_below (kN HO_852000.out) hb); replace BK839 := am (blk_below (g := gb839) (o := .cells #[.slice A0_0 l0_0.length c0_0] 24 (0, 0)) (kb BK839.out) hb); replace BK851 := am (blk_below (g := gb851) (o := .cells #[.slice Ao17 t844.length co17] 24 (0, 0)) (kb BK851.out) hb); replace HB := am (below_step (bs HB.out) hb); (try clear hb); (try clear hb2); (try clear hk); (try clear hi)))
    go_ret
    exact ⟨by first | rfl | (simp [errW_none, errW_some] <;> rfl) | (simp [*, errW_none, errW_some] <;> rfl), bs HB.out⟩
   replace c21 := Bool.eq_false_iff.mpr c21
   subst c21
   have H1 : ((net_Period.f kj7 l0_0).bind fun bt853 => (if bt853.2 = 0 then (mizmazetop_TopRoad.j1 kj7 l1 l2 t847 t850 bt853.1 (decide (bt853.1 < 1)) l0_0 t844) else (mizmazetop_TopRoad.j1 kj7 l1 l2 t847 t850 bt853.1 true l0_0 t844))) = some r := by rw [if_neg (show ¬ (false = true) by decide)] at H; exact H
   clear H
   have H := H1
   clear H1
   replace H := Option.bind_eq_some_iff.mp H
   obtain ⟨⟨t853, t854⟩, A260, H⟩ := H
   replace H : (if t854 = 0 then (mizmazetop_TopRoad.j1 kj7 l1 l2 t847 t850 t853 (decide (t853 < 1)) l0_0 t844) else (mizmazetop_TopRoad.j1 kj7 l1 l2 t847 t850 t853 true l0_0 t844)) = some r := H
   have A26 := am A260
   clear A260
   have HC27 := am H
   clear H
   have hnb28 := NB839_851.out
   have hnc28 := NB851_839.out
   have hcz29_0 : wc.cell? ⟨gb839, 0, none⟩ = some (.slice A0_0 l0_0.length c0_0) := (blk_cell BK839.out 0).trans rfl
   have hfz29_0 := blk_frozen BK839.out 0
   go_upto_region 8 with (first | ((with_reducible refine gate_callee (f := 25) rfl ?_); refine goesL_ (some 49) rfl rfl Try.func25 (by kernel_rfl) rfl #[.agg #[.slice A0_0 l0_0.length c0_0]] rfl zz1 ?_; (with_reducible refine (net_Period.calls kj7 _ _ l0_0 t853 t854 _ ?side1 ?side2 A26.out).mono ?_); (case side1 => exact kc (Kd.C_below HR0_0.out HB.out)); (case side2 => exact HC0_0.out); rintro e w30 ⟨rfl, hb⟩; refine ⟨_, rfl, ?_⟩; replace HO_10 := am (Kd.R_below (kR HO_10.out) hb); replace HO_852000 := am (Kd.N_below (kN HO_852000.out) hb); replace BK839 := am (blk_below (g := gb839) (o := .cells #[.slice A0_0 l0_0.length c0_0] 24 (0, 0)) (kb BK839.out) hb); replace BK851 := am (blk_below (g := gb851) (o := .cells #[.slice Ao17 t844.length co17] 24 (0, 0)) (kb BK851.out) hb); replace HB := am (below_step (bs HB.out) hb); (try clear hb); (try clear hb2); (try clear hk); (try clear hi)))
   (try simp only [Act.put, List.setIfInBounds_toArray, List.set_cons_zero, List.set_cons_succ])
   go_cut [57] (fun v57 wc => ∃ (kq : Nat) (x57_26 : Bool), v57 = .bool x57_26 ∧ Aside0 (mizmazetop_TopRoad.j1 kq l1 l2 t847 t850 t853 x57_26 l0_0 t844 = some r) ∧ Aside0 (kq ≤ kj7) ∧ Aside0 (Kd.R (Kd.int .i64) 3 wc w.heap.size (fun _ => True) v848 t847) ∧ Aside0 (Kd.N (Kd.slice 3 (Kd.int .i64)) 28 wc w.heap.size (fun k_ => some k_ ≠ (v848 : Value).ownBlock ∧ k_ ≠ gb839 ∧ k_ ≠ gb851) (.slice Ao17 t844.length co17) t844) ∧ Aside0 (wc.heap[gb839]? = some (.cells #[(.slice A0_0 l0_0.length c0_0)] 24 (0, 0))) ∧ Aside0 (wc.heap[gb851]? = some (.cells #[(.slice Ao17 t844.length co17)] 24 (0, 0))) ∧ Aside0 (Below w.heap.size w wc))
   case first =>
    have H := HC27.out
    clear HC27
    by_cases c31 : t854 = 0
    rotate_left
    ·rw [if_neg c31] at H
     have c31b0 : (t854 == 0) = false := beq_eq_false_iff_ne.mpr c31
     have c31b1 : (t854 != 0) = true := bne_iff_ne.mpr c31
     (first | rw [c31b0] | (simp only [i64_w, i32_w]; rw [c31b0]) | skip)
     have H' := am H
     clear H
     go_wp2
     go_meet
     case rel => exact ⟨_, (true), zz3, H', ⟨by have := HJ7.out; first | omega | exact Nat.le_refl _⟩, ⟨kR HO_10.out⟩, ⟨kN HO_852000.out⟩, ⟨kb BK839.out⟩, ⟨kb BK851.out⟩, ⟨bs HB.out⟩⟩
    rw [if_pos c31] at H
    have c31b0 : (t854 == 0) = true := beq_iff_eq.mpr c31
    have c31b1 : (t854 != 0) = false := bne_eq_false_iff_eq.mpr c31
    clear c31
    (first | rw [c31b0] | (simp only [i64_w, i32_w]; rw [c31b0]) | skip)
    have H' := am H
    clear H
    go_wp2
    go_meet
    case rel => exact ⟨_, (decide (t853 < 1)), zz3, H', ⟨by have := HJ7.out; first | omega | exact Nat.le_refl _⟩, ⟨kR HO_10.out⟩, ⟨kN HO_852000.out⟩, ⟨kb BK839.out⟩, ⟨kb BK851.out⟩, ⟨bs HB.out⟩⟩
   case rest =>
    clear HC27
    (try clear c1); (try clear c2); (try clear p2); (try clear c3); (try clear c4); (try clear c5); (try clear c14); (try clear c16); (try clear c18); (try clear c20); (try clear c20b0); (try clear c20b1); (try clear c21); (try clear c22); (try clear c22b0); (try clear c22b1); (try clear c23); (try clear c23b0); (try clear c23b1); (try clear c25); (try clear c28); (try clear c31); (try clear c31b0); (try clear c31b1); (try clear hcz10_0); (try clear hcz12_0); (try clear hcz14_0); (try clear hcz19_0); (try clear hcz29_0); (try clear hfz10_0); (try clear hfz12_0); (try clear hfz14_0); (try clear hfz19_0); (try clear hfz29_0); (try clear p2)
    obtain ⟨kq, x57_26, rfl, HA, HJ26, HO_10, HO_852000, BK839, BK851, HB⟩ := hcut
    cases kq with
    | zero => exact absurd HA.out (by simp [mizmazetop_TopRoad.j1])
    | succ kj26 =>
     have H := HA.out
     clear HA
     simp only [mizmazetop_TopRoad.j1] at H
     by_cases c32 : x57_26 = true
     ·subst c32
      have H1 : (none) = some r := by rw [if_pos rfl] at H; exact H
      clear H
      have H := H1
      clear H1
      exact absurd H (by simp)
     replace c32 := Bool.eq_false_iff.mpr c32
     subst c32
     have H1 : (if t853 > 1 then ((mizmazetop_coloured.f kj26 l0_0 l1).bind fun t855 => (if t850 = 4 then ((mizmazetop_proper.f kj26 l0_0 l2).bind fun t859 => ((mizmazetop_spread.f kj26 t855 t859).bind fun t862 => (if t862 ≥ t853 then ((mizmazetop_spread.f kj26 t855 ([] : List Int)).bind fun t863 => (if t863 ≥ t853 then ((mizmazetop_colours.f kj26).bind fun t864 => (some t864)) else (none))) else (none)))) else (none))) else (if t850 = 3 then ((color_Colorings.f kj26 l0_0).bind fun bt865 => (if bt865.2 = 3 then ((mizmazetop_colours.f kj26).bind fun t867 => (some t867)) else (if bt865.1 > 1000000 then ((mizmazetop_colours.f kj26).bind fun t868 => (some t868)) else (none)))) else (if t850 = 0 then ((mizmazetop_alike.f kj26 l0_0 t844).bind fun t869 => (if t869 = true then ((mizmazetop_right.f kj26 t844 t847).bind fun t870 => (if t870 = true then (if (wrap64 (6 * (t847.length : Int))) ≤ (wrap64 ((wrap64 ((wrap64 ((l0_0.length : Int) * (l0_0.length : Int))) * (l0_0.length : Int))) - (l0_0.length : Int))) then ((mizmazetop_spread.f kj26 t844 t847).bind fun t871 => (if t871 = 1 then ((mizmazetop_proper.f kj26 l0_0 l2).bind fun t872 => ((mizmazetop_joined.f kj26 (([t872, t847] : List (List Int)))).bind fun t878 => ((mizmazetop_spread.f kj26 t844 t878).bind fun t881 => (if t881 = 1 then ((mizmazetop_colours.f kj26).bind fun t882 => (some t882)) else (none))))) else (none))) else (none)) else (none))) else (none))) else (none)))) = some r := by rw [if_neg (show ¬ (false = true) by decide)] at H; exact H
     clear H
     have H := H1
     clear H1
     by_cases c33 : t853 > 1
     ·rw [if_pos c33] at H
      have c33b0 : decide (1 < t853) = true := decide_eq_true c33
      clear c33
      replace H := Option.bind_eq_some_iff.mp H
      obtain ⟨t855, A340, H⟩ := H
      replace H : (if t850 = 4 then ((mizmazetop_proper.f kj26 l0_0 l2).bind fun t859 => ((mizmazetop_spread.f kj26 t855 t859).bind fun t862 => (if t862 ≥ t853 then ((mizmazetop_spread.f kj26 t855 ([] : List Int)).bind fun t863 => (if t863 ≥ t853 then ((mizmazetop_colours.f kj26).bind fun t864 => (some t864)) else (none))) else (none)))) else (none)) = some r := H
      have A34 := am A340
      clear A340
      by_cases c35 : t850 = 4
      rotate_left
      ·rw [if_neg c35] at H
       have c35b0 : (t850 == 4) = false := beq_eq_false_iff_ne.mpr c35
       have c35b1 : (t850 != 4) = true := bne_iff_ne.mpr c35
       exact absurd H (by simp)
      rw [if_pos c35] at H
      have c35b0 : (t850 == 4) = true := beq_iff_eq.mpr c35
      have c35b1 : (t850 != 4) = false := bne_eq_false_iff_eq.mpr c35
      clear c35
      replace H := Option.bind_eq_some_iff.mp H
      obtain ⟨t859, A360, H⟩ := H
      replace H : ((mizmazetop_spread.f kj26 t855 t859).bind fun t862 => (if t862 ≥ t853 then ((mizmazetop_spread.f kj26 t855 ([] : List Int)).bind fun t863 => (if t863 ≥ t853 then ((mizmazetop_colours.f kj26).bind fun t864 => (some t864)) else (none))) else (none))) = some r := H
      have A36 := am A360
      clear A360
      replace H := Option.bind_eq_some_iff.mp H
      obtain ⟨t862, A370, H⟩ := H
      replace H : (if t862 ≥ t853 then ((mizmazetop_spread.f kj26 t855 ([] : List Int)).bind fun t863 => (if t863 ≥ t853 then ((mizmazetop_colours.f kj26).bind fun t864 => (some t864)) else (none))) else (none)) = some r := H
      have A37 := am A370
      clear A370
      by_cases c38 : t862 ≥ t853
      rotate_left
      ·rw [if_neg c38] at H
       have c38b0 : decide (t853 ≤ t862) = false := decide_eq_false c38
       clear c38
       exact absurd H (by simp)
      rw [if_pos c38] at H
      have c38b0 : decide (t853 ≤ t862) = true := decide_eq_true c38
      clear c38
      replace H := Option.bind_eq_some_iff.mp H
      obtain ⟨t863, A390, H⟩ := H
      replace H : (if t863 ≥ t853 then ((mizmazetop_colours.f kj26).bind fun t864 => (some t864)) else (none)) = some r := H
      have A39 := am A390
      clear A390
      by_cases c40 : t863 ≥ t853
      rotate_left
      ·rw [if_neg c40] at H
       have c40b0 : decide (t853 ≤ t863) = false := decide_eq_false c40
       clear c40
       exact absurd H (by simp)
      rw [if_pos c40] at H
      have c40b0 : decide (t853 ≤ t863) = true := decide_eq_true c40
      clear c40
      replace H := Option.bind_eq_some_iff.mp H
      obtain ⟨t864, A410, H⟩ := H
      replace H : (some t864) = some r := H
      have A41 := am A410
      clear A410
      obtain rfl := Option.some.inj H
      have hnb42 := NB839_851.out
      have hnc42 := NB851_839.out
      have hcz43_0 : wc.cell? ⟨gb839, 0, none⟩ = some (.slice A0_0 l0_0.length c0_0) := (blk_cell BK839.out 0).trans rfl
      have hfz43_0 := blk_frozen BK839.out 0
      try go_wp2_with (first | ((with_reducible refine gate_callee (f := 56) rfl ?_); refine goesL_ (some 62) rfl rfl Try.func56 (by kernel_rfl) rfl #[.agg #[.slice A0_0 l0_0.length c0_0], .slice A1 l1.length c1] rfl zz1 ?_; (with_reducible refine (mizmazetop_coloured.calls kj26 _ _ l0_0 _ _ l1 t855 _ ?side1 ?side2 ?side3 ?side4 A34.out).mono ?_); (case side1 => exact kc (Kd.C_below HR0_0.out HB.out)); (case side2 => exact HC0_0.out); (case side3 => exact kc (Kd.C_below HR1.out HB.out)); (case side4 => exact HC1.out); rintro e w44 ⟨v856, rfl, ho0, hb⟩; refine ⟨_, rfl, ?_⟩; have HO857 := am (Kd.N_lower (Kd.N_mono (ok' := fun k_ => some k_ ≠ (v848 : Value).ownBlock ∧ some k_ ≠ (.slice Ao17 t844.length co17 : Value).ownBlock ∧ k_ ≠ gb839 ∧ k_ ≠ gb851) (Kd.S_N (Kd.S_bound ho0)) (fun k_ hk_ => ⟨(Kd.fresh' (Kd.R_lt (kR HO_10.out)) k_ hk_.2.1), (Kd.fresh' (Kd.N_lt (kN HO_852000.out)) k_ hk_.2.1), (Kd.freshB (g := gb839) (o := .cells #[.slice A0_0 l0_0.length c0_0] 24 (0, 0)) (kb BK839.out) k_ hk_.2.1), (Kd.freshB (g := gb851) (o := .cells #[.slice Ao17 t844.length co17] 24 (0, 0)) (kb BK851.out) k_ hk_.2.1)⟩)) (below_size (bs HB.out))); replace HO_10 := am (Kd.R_below (kR HO_10.out) hb); replace HO_852000 := am (Kd.N_elder' (kN HO_852000.out) (by first | exact Kd.N_base ho0 | exact Kd.S_base ho0 | exact Kd.R_base ho0) hb); replace BK839 := am (blk_below (g := gb839) (o := .cells #[.slice A0_0 l0_0.length c0_0] 24 (0, 0)) (kb BK839.out) hb); replace BK851 := am (blk_below (g := gb851) (o := .cells #[.slice Ao17 t844.length co17] 24 (0, 0)) (kb BK851.out) hb); replace HB := am (below_step (bs HB.out) hb); (try clear hb); (try clear hb2); (try clear hk); (try clear hi); (try clear ho0)) | ((with_reducible refine gate_dst (N := 13) rfl ?_); (try (refine gate_guard (by rfl) ?_; dsimp only)); refine box_event zz5 (N := 13) zz5 (cs := #[.slice none 0 0]) (t := 24) zz6 ?_; intro gb858 hg w45 hbox hb; replace HO_10 := am (Kd.R_below (kR HO_10.out) hb); replace HO_852000 := am (Kd.N_below (Kd.N_elderB (kN HO_852000.out) gb858 (Nat.le_of_eq hg.symm)) hb); replace HO857 := am (Kd.N_below (Kd.N_elderB (kN HO857.out) gb858 (Nat.le_of_eq hg.symm)) hb); have BK858 := am (hbox); have GW858 := am ((by rw [hg]; exact (below_size (bs HB.out)) : w.heap.size ≤ gb858)); have GE858 := am ((by rw [hg]; exact (below_size (bs HB.out)) : w.heap.size ≤ gb858)); replace HB := am (below_step (bs HB.out) hb); have NB839_858 := am ((by rw [hg]; exact Nat.ne_of_lt (blk_lt (g := gb839) (o := .cells #[.slice A0_0 l0_0.length c0_0] 24 (0, 0)) (kb BK839.out)) : gb839 ≠ gb858)); have NB858_839 := am ((by rw [hg]; exact Nat.ne_of_gt (blk_lt (g := gb839) (o := .cells #[.slice A0_0 l0_0.length c0_0] 24 (0, 0)) (kb BK839.out)) : gb858 ≠ gb839)); replace BK839 := am (blk_below (g := gb839) (o := .cells #[.slice A0_0 l0_0.length c0_0] 24 (0, 0)) (kb BK839.out) hb); have NB851_858 := am ((by rw [hg]; exact Nat.ne_of_lt (blk_lt (g := gb851) (o := .cells #[.slice Ao17 t844.length co17] 24 (0, 0)) (kb BK851.out)) : gb851 ≠ gb858)); have NB858_851 := am ((by rw [hg]; exact Nat.ne_of_gt (blk_lt (g := gb851) (o := .cells #[.slice Ao17 t844.length co17] 24 (0, 0)) (kb BK851.out)) : gb858 ≠ gb851)); replace BK851 := am (blk_below (g := gb851) (o := .cells #[.slice Ao17 t844.length co17] 24 (0, 0)) (kb BK851.out) hb); clear hb hbox hg; obtain ⟨Ao46, co46, eo46⟩ := Kd.N_slice HO857.out; subst eo46; have hnb47 := NB858_839.out; have hnc47 := NB839_858.out; have hnb48 := NB858_851.out; have hnc48 := NB851_858.out; have hcz49_0 : w45.cell? ⟨gb858, 0, none⟩ = some (.slice none 0 0) := (blk_cell BK858.out 0).trans rfl; have hfz49_0 := blk_frozen BK858.out 0))
      have n0_ : Aside0 (Kd.R (Kd.int .i64) 3 (w45.setCell ⟨gb858, 0, none⟩ (.slice Ao46 t855.length co46)) w.heap.size (fun _ => True) v848 t847) := ⟨kR (Kd.R_mono (Kd.R_far (p := ⟨gb858, 0, none⟩) (Kd.R_types HO_10.out BK858.out (by decide)) (fun _ hk => hk.2) (.slice Ao46 t855.length co46)) (fun _ hk => trivial))⟩
      have n1_ : Aside0 (Kd.N (Kd.slice 3 (Kd.int .i64)) 28 (w45.setCell ⟨gb858, 0, none⟩ (.slice Ao46 t855.length co46)) w.heap.size (fun k_ => some k_ ≠ (v848 : Value).ownBlock ∧ some k_ ≠ (.slice Ao46 t855.length co46 : Value).ownBlock ∧ k_ ≠ gb839 ∧ k_ ≠ gb851 ∧ k_ ≠ gb858) (.slice Ao17 t844.length co17) t844) := ⟨kN (Kd.N_mono (Kd.N_far (p := ⟨gb858, 0, none⟩) (Kd.N_mono HO_852000.out (fun k_ hk => (⟨hk, hk.2⟩ : _ ∧ k_ ≠ gb858))) (fun _ hk => hk.2) (.slice Ao46 t855.length co46)) (fun _ hk => ⟨hk.1.1.1.1, ⟨hk.1.1.2, ⟨hk.1.1.1.2.1, ⟨hk.1.1.1.2.2, hk.1.2⟩⟩⟩⟩))⟩
      have n2_ : Aside0 (Kd.N (Kd.slice 3 (Kd.int .i64)) 28 (w45.setCell ⟨gb858, 0, none⟩ (.slice Ao46 t855.length co46)) w.heap.size (fun k_ => some k_ ≠ (v848 : Value).ownBlock ∧ some k_ ≠ (.slice Ao17 t844.length co17 : Value).ownBlock ∧ k_ ≠ gb839 ∧ k_ ≠ gb851 ∧ k_ ≠ gb858) (.slice Ao46 t855.length co46) t855) := ⟨kN (Kd.N_mono (Kd.N_far (p := ⟨gb858, 0, none⟩) (Kd.N_mono HO857.out (fun k_ hk => (⟨hk, hk.2⟩ : _ ∧ k_ ≠ gb858))) (fun _ hk => hk.2) (.slice Ao46 t855.length co46)) (fun _ hk => ⟨hk.1.1.1, ⟨hk.1.1.2.1, ⟨hk.1.1.2.2.1, ⟨hk.1.1.2.2.2, hk.1.2⟩⟩⟩⟩))⟩
      have n3_ : Aside0 ((w45.setCell ⟨gb858, 0, none⟩ (.slice Ao46 t855.length co46)).heap[gb839]? = some (.cells #[.slice A0_0 l0_0.length c0_0] 24 (0, 0))) := ⟨by (with_reducible repeat (first | refine blk_drewN ?_ _ | refine blk_drew ?_ | refine blk_alloc ?_ _)); refine blk_far ?_ NB839_858.out _; (with_reducible repeat (first | refine blk_drewN ?_ _ | refine blk_drew ?_ | refine blk_alloc ?_ _)); exact BK839.out⟩
      have n4_ : Aside0 ((w45.setCell ⟨gb858, 0, none⟩ (.slice Ao46 t855.length co46)).heap[gb851]? = some (.cells #[.slice Ao17 t844.length co17] 24 (0, 0))) := ⟨by (with_reducible repeat (first | refine blk_drewN ?_ _ | refine blk_drew ?_ | refine blk_alloc ?_ _)); refine blk_far ?_ NB851_858.out _; (with_reducible repeat (first | refine blk_drewN ?_ _ | refine blk_drew ?_ | refine blk_alloc ?_ _)); exact BK851.out⟩
      have n5_ : Aside0 ((w45.setCell ⟨gb858, 0, none⟩ (.slice Ao46 t855.length co46)).heap[gb858]? = some (.cells #[.slice Ao46 t855.length co46] 24 (0, 0))) := ⟨by (with_reducible repeat (first | refine blk_drewN ?_ _ | refine blk_drew ?_ | refine blk_alloc ?_ _)); refine blk_put (cs := #[.slice none 0 0]) ?_ 0 _ rfl; (with_reducible repeat (first | refine blk_drewN ?_ _ | refine blk_drew ?_ | refine blk_alloc ?_ _)); exact BK858.out⟩
      have n6_ : Aside0 (Below w.heap.size w (w45.setCell ⟨gb858, 0, none⟩ (.slice Ao46 t855.length co46))) := ⟨bs HB.out⟩
      (try clear HO_10)
      (try clear HO_852000)
      (try clear HO857)
      (try clear BK839)
      (try clear BK851)
      (try clear BK858)
      (try clear HB)
      generalize (w45.setCell ⟨gb858, 0, none⟩ (.slice Ao46 t855.length co46)) = w50 at n0_ n1_ n2_ n3_ n4_ n5_ n6_ ⊢
      have HO_10 := n0_
      have HO_852000 := n1_
      have HO857 := n2_
      have BK839 := n3_
      have BK851 := n4_
      have BK858 := n5_
      have HB := n6_
      clear n0_ n1_ n2_ n3_ n4_ n5_ n6_
      replace HO_10 := am (Kd.R_drew HO_10.out)
      replace HO_852000 := am (Kd.N_drew HO_852000.out)
      replace HO857 := am (Kd.N_drew HO857.out)
      replace BK839 := am (blk_drew BK839.out)
      replace BK851 := am (blk_drew BK851.out)
      replace BK858 := am (blk_drew BK858.out)
      replace HB := am (bd HB.out)
      refine start_ (n := 21) (S := fun w' => w'.cell? ⟨gb858, 0, none⟩ = some (.slice Ao46 t855.length co46) ∧ w'.cell? ⟨gb839, 0, none⟩ = some (.slice A0_0 l0_0.length c0_0)) (ds := []) #[false, false, false, false, false, false, false, false, false, false, false, false, false, false, false, false, false, false, false, false, false] (by kernel_rfl) rfl rfl ⟨(blk_cell BK858.out 0).trans rfl, (blk_cell BK839.out 0).trans rfl⟩ (fun hHeld => ?_); refine with_tabW mizmazetop_TopRoad.tab12 mizmazetop_TopRoad.bits12 (fun HT_ HW_ => ?_)
      generalize w50.drew = w51 at HO_10 HO_852000 HO857 BK839 BK851 BK858 HB hHeld ⊢
      refine pv_ 0 63 ttr0 HT_ ?_
      refine pv_ 1 64 ttr1 HT_ ?_
      refine pv_ 2 65 ttr2 HT_ ?_
      refine pv_ 5 68 ttr3 HT_ ?_
      refine pv_ 8 71 ttr4 HT_ ?_
      refine tv_ 3 66 ttr5 HT_ HW_ hHeld ?_
      refine tv_ 4 67 ttr6 HT_ HW_ hHeld ?_
      refine one_ (i := 6) (N := some 69) ttr7 rfl rfl (one_of HT_.out (by kernel_rfl)) (by decide) (fun K hK => ?_)
      refine goes_ Try.func58 (by kernel_rfl) rfl #[.agg #[.slice A0_0 l0_0.length c0_0], .slice A2 l2.length c2] (by rfl) rfl rfl zz1 ?_
      with_reducible refine (mizmazetop_proper.calls kj26 _ _ l0_0 _ _ l2 t859 _ ?side1 ?side2 ?side3 ?side4 A36.out).mono ?_
      (case side1 => exact kc (Kd.C_below HR0_0.out HB.out))
      (case side2 => exact HC0_0.out)
      (case side3 => exact kc (Kd.C_below HR2.out HB.out))
      (case side4 => exact HC2.out)
      rintro e w52 ⟨v860, rfl, ho0, hb⟩
      refine ⟨_, rfl, ?_⟩
      replace HO_852000 := am (Kd.N_elder' (kN HO_852000.out) (Kd.R_base ho0) hb)
      replace HO857 := am (Kd.N_elder' (kN HO857.out) (Kd.R_base ho0) hb)
      have HO861 := am (Kd.R_lower (Kd.R_new' ho0 (Kd.R_lt (kR HO_10.out))) (below_size (bs HB.out)))
      replace HO_10 := am (Kd.R_elder' (kR HO_10.out) (Kd.R_base ho0) hb)
      replace BK839 := am (blk_below (g := gb839) (o := .cells #[.slice A0_0 l0_0.length c0_0] 24 (0, 0)) (kb BK839.out) hb)
      replace BK851 := am (blk_below (g := gb851) (o := .cells #[.slice Ao17 t844.length co17] 24 (0, 0)) (kb BK851.out) hb)
      replace BK858 := am (blk_below (g := gb858) (o := .cells #[.slice Ao46 t855.length co46] 24 (0, 0)) (kb BK858.out) hb)
      replace HB := am (below_step (bs HB.out) hb)
      (try clear hb)
      (try clear hb2)
      (try clear hk)
      (try clear hi)
      (try clear ho0)
      obtain ⟨Ao53, co53, eo53⟩ := Kd.R_slice HO861.out
      (first | subst eo53 | (injection eo53 with f1_ f2_ f3_; have f4_ := f1_.symm; have f5_ := f3_.symm; clear f1_ f2_ f3_; subst f4_; subst f5_))
      refine hK.out _ _ ⟨(blk_cell BK858.out 0).trans rfl, (blk_cell BK839.out 0).trans rfl⟩ (fun hHeld => ?_)
      clear hK K
      refine nm_ 69 ?_
      refine one_ (i := 7) (N := some 70) ttr8 rfl rfl (one_of HT_.out (by kernel_rfl)) (by decide) (fun K hK => ?_)
      refine goes_ Try.func57 (by kernel_rfl) rfl #[.agg #[.slice Ao46 t855.length co46], .slice Ao53 t859.length co53] (by rfl) rfl rfl zz1 ?_
      with_reducible refine (mizmazetop_spread.calls kj26 _ _ t855 _ _ t859 t862 _ ?side1 ?side2 ?side3 ?side4 A37.out).mono ?_
      (case side1 => repeat (first | exact (Kd.N_reads' HO857.out).2.2 | (with_reducible refine Kd.C_alloc ?_ _) | (with_reducible refine Kd.C_drewN ?_ _) | (with_reducible refine Kd.C_drew ?_)))
      (case side2 => exact (Kd.N_reads' HO857.out).2.1)
      (case side3 => repeat (first | exact (Kd.R_reads' HO861.out).2.2 | (with_reducible refine Kd.C_alloc ?_ _) | (with_reducible refine Kd.C_drewN ?_ _) | (with_reducible refine Kd.C_drew ?_)))
      (case side4 => exact (Kd.R_reads' HO861.out).2.1)
      rintro e w54 ⟨rfl, hb⟩
      refine ⟨_, rfl, ?_⟩
      replace HO_10 := am (Kd.R_below (kR HO_10.out) hb)
      replace HO_852000 := am (Kd.N_below (kN HO_852000.out) hb)
      replace HO857 := am (Kd.N_below (kN HO857.out) hb)
      replace HO861 := am (Kd.R_below (kR HO861.out) hb)
      replace BK839 := am (blk_below (g := gb839) (o := .cells #[.slice A0_0 l0_0.length c0_0] 24 (0, 0)) (kb BK839.out) hb)
      replace BK851 := am (blk_below (g := gb851) (o := .cells #[.slice Ao17 t844.length co17] 24 (0, 0)) (kb BK851.out) hb)
      replace BK858 := am (blk_below (g := gb858) (o := .cells #[.slice Ao46 t855.length co46] 24 (0, 0)) (kb BK858.out) hb)
      replace HB := am (below_step (bs HB.out) hb)
      (try clear hb)
      (try clear hb2)
      (try clear hk)
      (try clear hi)
      refine hK.out _ _ ⟨(blk_cell BK858.out 0).trans rfl, (blk_cell BK839.out 0).trans rfl⟩ (fun hHeld => ?_)
      clear hK K
      refine nm_ 70 ?_
      refine pv_ 9 72 ttr9 HT_ ?_
      refine pv_ 10 73 ttr10 HT_ ?_
      refine pv_ 11 74 ttr11 HT_ ?_
      refine pv_ 14 77 ttr12 HT_ ?_
      refine tv_ 12 75 ttr13 HT_ HW_ hHeld ?_
      refine one_ (i := 13) (N := some 76) ttr14 rfl rfl (one_of HT_.out (by kernel_rfl)) (by decide) (fun K hK => ?_)
      refine goes_ Try.func57 (by kernel_rfl) rfl #[.agg #[.slice Ao46 t855.length co46], .slice none 0 0] (by rfl) rfl rfl zz1 ?_
      refine (mizmazetop_spread.calls kj26 _ _ t855 _ _ ([] : List Int) t863 _ ?side1 ?side2 ?side3 ?side4 A39.out).mono ?_
      (case side1 => repeat (first | exact (Kd.N_reads' HO857.out).2.2 | (with_reducible refine Kd.C_alloc ?_ _) | (with_reducible refine Kd.C_drewN ?_ _) | (with_reducible refine Kd.C_drew ?_)))
      (case side2 => exact (Kd.N_reads' HO857.out).2.1)
      (case side3 => exact Kd.C_nil _ _)
      (case side4 => exact Nat.le_refl _)
      rintro e w55 ⟨rfl, hb⟩
      refine ⟨_, rfl, ?_⟩
      replace HO_10 := am (Kd.R_below (kR HO_10.out) hb)
      replace HO_852000 := am (Kd.N_below (kN HO_852000.out) hb)
      replace HO857 := am (Kd.N_below (kN HO857.out) hb)
      replace HO861 := am (Kd.R_below (kR HO861.out) hb)
      replace BK839 := am (blk_below (g := gb839) (o := .cells #[.slice A0_0 l0_0.length c0_0] 24 (0, 0)) (kb BK839.out) hb)
      replace BK851 := am (blk_below (g := gb851) (o := .cells #[.slice Ao17 t844.length co17] 24 (0, 0)) (kb BK851.out) hb)
      replace BK858 := am (blk_below (g := gb858) (o := .cells #[.slice Ao46 t855.length co46] 24 (0, 0)) (kb BK858.out) hb)
      replace HB := am (below_step (bs HB.out) hb)
      (try clear hb)
      (try clear hb2)
      (try clear hk)
      (try clear hi)
      refine hK.out _ _ ⟨(blk_cell BK858.out 0).trans rfl, (blk_cell BK839.out 0).trans rfl⟩ (fun hHeld => ?_)
      clear hK K
      refine nm_ 76 ?_
      refine pv_ 15 78 ttr15 HT_ ?_
      refine pv_ 16 79 ttr16 HT_ ?_
      refine pv_ 17 80 ttr17 HT_ ?_
      refine one_ (i := 18) (N := some 81) ttr18 rfl rfl (one_of HT_.out (by kernel_rfl)) (by decide) (fun K hK => ?_)
      refine goes_ Try.func55 (by kernel_rfl) rfl #[] (by rfl) rfl rfl zz1 ?_
      with_reducible refine (mizmazetop_colours.calls kj26  t864 _ A41.out).mono ?_
      rintro e w56 ⟨rfl, hb⟩
      refine ⟨_, rfl, ?_⟩
      replace HO_10 := am (Kd.R_below (kR HO_10.out) hb)
      replace HO_852000 := am (Kd.N_below (kN HO_852000.out) hb)
      replace HO857 := am (Kd.N_below (kN HO857.out) hb)
      replace HO861 := am (Kd.R_below (kR HO861.out) hb)
      replace BK839 := am (blk_below (g := gb839) (o := .cells #[.slice A0_0 l0_0.length c0_0] 24 (0, 0)) (kb BK839.out) hb)
      replace BK851 := am (blk_below (g := gb851) (o := .cells #[.slice Ao17 t844.length co17] 24 (0, 0)) (kb BK851.out) hb)
      replace BK858 := am (blk_below (g := gb858) (o := .cells #[.slice Ao46 t855.length co46] 24 (0, 0)) (kb BK858.out) hb)
      replace HB := am (below_step (bs HB.out) hb)
      (try clear hb)
      (try clear hb2)
      (try clear hk)
      (try clear hi)
      refine hK.out _ _ ⟨(blk_cell BK858.out 0).trans rfl, (blk_cell BK839.out 0).trans rfl⟩ (fun hHeld => ?_)
      clear hK K
      refine nm_ 81 ?_
      refine pv_ 19 82 ttr19 HT_ ?_
      refine pv_ 20 6 ttr20 HT_ ?_
      refine done_ (done_of HT_.out (by kernel_rfl)) ?_
      try go_wp2
      go_ret
      exact ⟨by first | rfl | (simp [errW_none, errW_some] <;> rfl) | (simp [*, errW_none, errW_some] <;> rfl), bs HB.out⟩
     rw [if_neg c33] at H
     have c33b0 : decide (1 < t853) = false := decide_eq_false c33
     clear c33
     by_cases c57 : t850 = 3
     ·rw [if_pos c57] at H
      have c57b0 : (t850 == 3) = true := beq_iff_eq.mpr c57
      have c57b1 : (t850 != 3) = false := bne_eq_false_iff_eq.mpr c57
      clear c57
      replace H := Option.bind_eq_some_iff.mp H
      obtain ⟨⟨t865, t866⟩, A580, H⟩ := H
      replace H : (if t866 = 3 then ((mizmazetop_colours.f kj26).bind fun t867 => (some t867)) else (if t865 > 1000000 then ((mizmazetop_colours.f kj26).bind fun t868 => (some t868)) else (none))) = some r := H
      have A58 := am A580
      clear A580
      by_cases c59 : t866 = 3
      ·rw [if_pos c59] at H
       have c59b0 : (t866 == 3) = true := beq_iff_eq.mpr c59
       have c59b1 : (t866 != 3) = false := bne_eq_false_iff_eq.mpr c59
       clear c59
       replace H := Option.bind_eq_some_iff.mp H
       obtain ⟨t867, A600, H⟩ := H
       replace H : (some t867) = some r := H
       have A60 := am A600
       clear A600
       obtain rfl := Option.some.inj H
       have hnb61 := NB839_851.out
       have hnc61 := NB851_839.out
       have hcz62_0 : wc.cell? ⟨gb839, 0, none⟩ = some (.slice A0_0 l0_0.length c0_0) := (blk_cell BK839.out 0).trans rfl
       have hfz62_0 := blk_frozen BK839.out 0
       go_wp2_with (first | ((with_reducible refine gate_callee (f := 47) rfl ?_); refine goesL_ (some 87) rfl rfl Try.func47 (by kernel_rfl) rfl #[.agg #[.slice A0_0 l0_0.length c0_0]] rfl zz1 ?_; (with_reducible refine (color_Colorings.calls kj26 _ _ l0_0 t865 t866 _ ?side1 ?side2 A58.out).mono ?_); (case side1 => exact kc (Kd.C_below HR0_0.out HB.out)); (case side2 => exact HC0_0.out); rintro e w63 ⟨rfl, hb⟩; refine ⟨_, rfl, ?_⟩; replace HO_10 := am (Kd.R_below (kR HO_10.out) hb); replace HO_852000 := am (Kd.N_below (kN HO_852000.out) hb); replace BK839 := am (blk_below (g := gb839) (o := .cells #[.slice A0_0 l0_0.length c0_0] 24 (0, 0)) (kb BK839.out) hb); replace BK851 := am (blk_below (g := gb851) (o := .cells #[.slice Ao17 t844.length co17] 24 (0, 0)) (kb BK851.out) hb); replace HB := am (below_step (bs HB.out) hb); (try clear hb); (try clear hb2); (try clear hk); (try clear hi)) | (go_at_call 55; (with_reducible refine (mizmazetop_colours.calls kj26  t867 _ A60.out).mono ?_); rintro e w64 ⟨rfl, hb⟩; replace HO_10 := am (Kd.R_below (kR HO_10.out) hb); replace HO_852000 := am (Kd.N_below (kN HO_852000.out) hb); replace BK839 := am (blk_below (g := gb839) (o := .cells #[.slice A0_0 l0_0.length c0_0] 24 (0, 0)) (kb BK839.out) hb); replace BK851 := am (blk_below (g := gb851) (o := .cells #[.slice Ao17 t844.length co17] 24 (0, 0)) (kb BK851.out) hb); replace HB := am (below_step (bs HB.out) hb); (try clear hb); (try clear hb2); (try clear hk); (try clear hi)))
       go_ret
       exact ⟨by first | rfl | (simp [errW_none, errW_some] <;> rfl) | (simp [*, errW_none, errW_some] <;> rfl), bs HB.out⟩
      rw [if_neg c59] at H
      have c59b0 : (t866 == 3) = false := beq_eq_false_iff_ne.mpr c59
      have c59b1 : (t866 != 3) = true := bne_iff_ne.mpr c59
      by_cases c65 : t865 > 1000000
      rotate_left
      ·rw [if_neg c65] at H
       exact absurd H (by simp)
      rw [if_pos c65] at H
      have c65b0 : decide (1000000 < t865) = true := decide_eq_true c65
      clear c65
      replace H := Option.bind_eq_some_iff.mp H
      obtain ⟨t868, A660, H⟩ := H
      replace H : (some t868) = some r := H
      have A66 := am A660
      clear A660
      obtain rfl := Option.some.inj H
      have hnb67 := NB839_851.out
      have hnc67 := NB851_839.out
      have hcz68_0 : wc.cell? ⟨gb839, 0, none⟩ = some (.slice A0_0 l0_0.length c0_0) := (blk_cell BK839.out 0).trans rfl
      have hfz68_0 := blk_frozen BK839.out 0
      go_wp2_with (first | ((with_reducible refine gate_callee (f := 47) rfl ?_); refine goesL_ (some 87) rfl rfl Try.func47 (by kernel_rfl) rfl #[.agg #[.slice A0_0 l0_0.length c0_0]] rfl zz1 ?_; (with_reducible refine (color_Colorings.calls kj26 _ _ l0_0 t865 t866 _ ?side1 ?side2 A58.out).mono ?_); (case side1 => exact kc (Kd.C_below HR0_0.out HB.out)); (case side2 => exact HC0_0.out); rintro e w69 ⟨rfl, hb⟩; refine ⟨_, rfl, ?_⟩; replace HO_10 := am (Kd.R_below (kR HO_10.out) hb); replace HO_852000 := am (Kd.N_below (kN HO_852000.out) hb); replace BK839 := am (blk_below (g := gb839) (o := .cells #[.slice A0_0 l0_0.length c0_0] 24 (0, 0)) (kb BK839.out) hb); replace BK851 := am (blk_below (g := gb851) (o := .cells #[.slice Ao17 t844.length co17] 24 (0, 0)) (kb BK851.out) hb); replace HB := am (below_step (bs HB.out) hb); (try clear hb); (try clear hb2); (try clear hk); (try clear hi)) | (go_at_call 55; (with_reducible refine (mizmazetop_colours.calls kj26  t868 _ A66.out).mono ?_); rintro e w70 ⟨rfl, hb⟩; replace HO_10 := am (Kd.R_below (kR HO_10.out) hb); replace HO_852000 := am (Kd.N_below (kN HO_852000.out) hb); replace BK839 := am (blk_below (g := gb839) (o := .cells #[.slice A0_0 l0_0.length c0_0] 24 (0, 0)) (kb BK839.out) hb); replace BK851 := am (blk_below (g := gb851) (o := .cells #[.slice Ao17 t844.length co17] 24 (0, 0)) (kb BK851.out) hb); replace HB := am (below_step (bs HB.out) hb); (try clear hb); (try clear hb2); (try clear hk); (try clear hi)))
      go_ret
      exact ⟨by first | rfl | (simp [errW_none, errW_some] <;> rfl) | (simp [*, errW_none, errW_some] <;> rfl), bs HB.out⟩
     rw [if_neg c57] at H
     have c57b0 : (t850 == 3) = false := beq_eq_false_iff_ne.mpr c57
     have c57b1 : (t850 != 3) = true := bne_iff_ne.mpr c57
     by_cases c71 : t850 = 0
     rotate_left
     ·rw [if_neg c71] at H
      have c71b0 : (t850 == 0) = false := beq_eq_false_iff_ne.mpr c71
      have c71b1 : (t850 != 0) = true := bne_iff_ne.mpr c71
      exact absurd H (by simp)
     rw [if_pos c71] at H
     have c71b0 : (t850 == 0) = true := beq_iff_eq.mpr c71
     have c71b1 : (t850 != 0) = false := bne_eq_false_iff_eq.mpr c71
     clear c71
     replace H := Option.bind_eq_some_iff.mp H
     obtain ⟨t869, A720, H⟩ := H
     replace H : (if t869 = true then ((mizmazetop_right.f kj26 t844 t847).bind fun t870 => (if t870 = true then (if (wrap64 (6 * (t847.length : Int))) ≤ (wrap64 ((wrap64 ((wrap64 ((l0_0.length : Int) * (l0_0.length : Int))) * (l0_0.length : Int))) - (l0_0.length : Int))) then ((mizmazetop_spread.f kj26 t844 t847).bind fun t871 => (if t871 = 1 then ((mizmazetop_proper.f kj26 l0_0 l2).bind fun t872 => ((mizmazetop_joined.f kj26 (([t872, t847] : List (List Int)))).bind fun t878 => ((mizmazetop_spread.f kj26 t844 t878).bind fun t881 => (if t881 = 1 then ((mizmazetop_colours.f kj26).bind fun t882 => (some t882)) else (none))))) else (none))) else (none)) else (none))) else (none)) = some r := H
     have A72 := am A720
     clear A720
     by_cases c73 : t869 = true
     rotate_left
     ·replace c73 := Bool.eq_false_iff.mpr c73
      subst c73
      have H1 : (none) = some r := by rw [if_neg (show ¬ (false = true) by decide)] at H; exact H
      clear H
      have H := H1
      clear H1
      exact absurd H (by simp)
     subst c73
     have H1 : ((mizmazetop_right.f kj26 t844 t847).bind fun t870 => (if t870 = true then (if (wrap64 (6 * (t847.length : Int))) ≤ (wrap64 ((wrap64 ((wrap64 ((l0_0.length : Int) * (l0_0.length : Int))) * (l0_0.length : Int))) - (l0_0.length : Int))) then ((mizmazetop_spread.f kj26 t844 t847).bind fun t871 => (if t871 = 1 then ((mizmazetop_proper.f kj26 l0_0 l2).bind fun t872 => ((mizmazetop_joined.f kj26 (([t872, t847] : List (List Int)))).bind fun t878 => ((mizmazetop_spread.f kj26 t844 t878).bind fun t881 => (if t881 = 1 then ((mizmazetop_colours.f kj26).bind fun t882 => (some t882)) else (none))))) else (none))) else (none)) else (none))) = some r := by rw [if_pos rfl] at H; exact H
     clear H
     have H := H1
     clear H1
     replace H := Option.bind_eq_some_iff.mp H
     obtain ⟨t870, A740, H⟩ := H
     replace H : (if t870 = true then (if (wrap64 (6 * (t847.length : Int))) ≤ (wrap64 ((wrap64 ((wrap64 ((l0_0.length : Int) * (l0_0.length : Int))) * (l0_0.length : Int))) - (l0_0.length : Int))) then ((mizmazetop_spread.f kj26 t844 t847).bind fun t871 => (if t871 = 1 then ((mizmazetop_proper.f kj26 l0_0 l2).bind fun t872 => ((mizmazetop_joined.f kj26 (([t872, t847] : List (List Int)))).bind fun t878 => ((mizmazetop_spread.f kj26 t844 t878).bind fun t881 => (if t881 = 1 then ((mizmazetop_colours.f kj26).bind fun t882 => (some t882)) else (none))))) else (none))) else (none)) else (none)) = some r := H
     have A74 := am A740
     clear A740
     by_cases c75 : t870 = true
     rotate_left
     ·replace c75 := Bool.eq_false_iff.mpr c75
      subst c75
      have H1 : (none) = some r := by rw [if_neg (show ¬ (false = true) by decide)] at H; exact H
      clear H
      have H := H1
      clear H1
      exact absurd H (by simp)
     subst c75
     have H1 : (if (wrap64 (6 * (t847.length : Int))) ≤ (wrap64 ((wrap64 ((wrap64 ((l0_0.length : Int) * (l0_0.length : Int))) * (l0_0.length : Int))) - (l0_0.length : Int))) then ((mizmazetop_spread.f kj26 t844 t847).bind fun t871 => (if t871 = 1 then ((mizmazetop_proper.f kj26 l0_0 l2).bind fun t872 => ((mizmazetop_joined.f kj26 (([t872, t847] : List (List Int)))).bind fun t878 => ((mizmazetop_spread.f kj26 t844 t878).bind fun t881 => (if t881 = 1 then ((mizmazetop_colours.f kj26).bind fun t882 => (some t882)) else (none))))) else (none))) else (none)) = some r := by rw [if_pos rfl] at H; exact H
     clear H
     have H := H1
     clear H1
     by_cases c76 : (wrap64 (6 * (t847.length : Int))) ≤ (wrap64 ((wrap64 ((wrap64 ((l0_0.length : Int) * (l0_0.length : Int))) * (l0_0.length : Int))) - (l0_0.length : Int)))
     rotate_left
     ·rw [if_neg c76] at H
      have c76b0 : decide ((wrap64 (6 * (t847.length : Int))) ≤ (wrap64 ((wrap64 ((wrap64 ((l0_0.length : Int) * (l0_0.length : Int))) * (l0_0.length : Int))) - (l0_0.length : Int)))) = false := decide_eq_false c76
      clear c76
      exact absurd H (by simp)
     rw [if_pos c76] at H
     have c76b0 : decide ((wrap64 (6 * (t847.length : Int))) ≤ (wrap64 ((wrap64 ((wrap64 ((l0_0.length : Int) * (l0_0.length : Int))) * (l0_0.length : Int))) - (l0_0.length : Int)))) = true := decide_eq_true c76
     clear c76
     replace H := Option.bind_eq_some_iff.mp H
     obtain ⟨t871, A770, H⟩ := H
     replace H : (if t871 = 1 then ((mizmazetop_proper.f kj26 l0_0 l2).bind fun t872 => ((mizmazetop_joined.f kj26 (([t872, t847] : List (List Int)))).bind fun t878 => ((mizmazetop_spread.f kj26 t844 t878).bind fun t881 => (if t881 = 1 then ((mizmazetop_colours.f kj26).bind fun t882 => (some t882)) else (none))))) else (none)) = some r := H
     have A77 := am A770
     clear A770
     by_cases c78 : t871 = 1
     rotate_left
     ·rw [if_neg c78] at H
      have c78b0 : (t871 == 1) = false := beq_eq_false_iff_ne.mpr c78
      have c78b1 : (t871 != 1) = true := bne_iff_ne.mpr c78
      exact absurd H (by simp)
     rw [if_pos c78] at H
     have c78b0 : (t871 == 1) = true := beq_iff_eq.mpr c78
     have c78b1 : (t871 != 1) = false := bne_eq_false_iff_eq.mpr c78
     clear c78
     replace H := Option.bind_eq_some_iff.mp H
     obtain ⟨t872, A790, H⟩ := H
     replace H : ((mizmazetop_joined.f kj26 (([t872, t847] : List (List Int)))).bind fun t878 => ((mizmazetop_spread.f kj26 t844 t878).bind fun t881 => (if t881 = 1 then ((mizmazetop_colours.f kj26).bind fun t882 => (some t882)) else (none)))) = some r := H
     have A79 := am A790
     clear A790
     obtain ⟨y875, hy875⟩ : ∃ y_ : List (List Int), y_ = (([t872, t847] : List (List Int))) := ⟨_, rfl⟩
     replace H : ((mizmazetop_joined.f kj26 y875).bind fun t878 => ((mizmazetop_spread.f kj26 t844 t878).bind fun t881 => (if t881 = 1 then ((mizmazetop_colours.f kj26).bind fun t882 => (some t882)) else (none)))) = some r := by first | (rw [hy875]; with_reducible exact H) | (have H2_ := (Option.bind_some _ _).symm.trans H; rw [hy875]; with_reducible exact H2_) | (have H2_ := (Option.bind_some _ _).symm.trans H; with_reducible exact H2_) | with_reducible exact H | (rw [hy875]; exact H) | exact H
     have Ny875 := am hy875
     clear hy875
     replace H := Option.bind_eq_some_iff.mp H
     obtain ⟨t878, A800, H⟩ := H
     replace H : ((mizmazetop_spread.f kj26 t844 t878).bind fun t881 => (if t881 = 1 then ((mizmazetop_colours.f kj26).bind fun t882 => (some t882)) else (none))) = some r := H
     have A80 := am A800
     clear A800
     replace H := Option.bind_eq_some_iff.mp H
     obtain ⟨t881, A810, H⟩ := H
     replace H : (if t881 = 1 then ((mizmazetop_colours.f kj26).bind fun t882 => (some t882)) else (none)) = some r := H
     have A81 := am A810
     clear A810
     by_cases c82 : t881 = 1
     rotate_left
     ·rw [if_neg c82] at H
      have c82b0 : (t881 == 1) = false := beq_eq_false_iff_ne.mpr c82
      have c82b1 : (t881 != 1) = true := bne_iff_ne.mpr c82
      exact absurd H (by simp)
     rw [if_pos c82] at H
     have c82b0 : (t881 == 1) = true := beq_iff_eq.mpr c82
     have c82b1 : (t881 != 1) = false := bne_eq_false_iff_eq.mpr c82
     clear c82
     replace H := Option.bind_eq_some_iff.mp H
     obtain ⟨t882, A830, H⟩ := H
     replace H : (some t882) = some r := H
     have A83 := am A830
     clear A830
     obtain rfl := Option.some.inj H
     have hnb84 := NB839_851.out
     have hnc84 := NB851_839.out
     have hcz85_0 : wc.cell? ⟨gb839, 0, none⟩ = some (.slice A0_0 l0_0.length c0_0) := (blk_cell BK839.out 0).trans rfl
     have hfz85_0 := blk_frozen BK839.out 0
     try go_wp2
     replace HO_10 := am (Kd.R_drew HO_10.out)
     replace HO_852000 := am (Kd.N_drew HO_852000.out)
     replace BK839 := am (blk_drew BK839.out)
     replace BK851 := am (blk_drew BK851.out)
     replace HB := am (bd HB.out)
     refine start_ (n := 46) (S := fun w' => w'.cell? ⟨gb839, 0, none⟩ = some (.slice A0_0 l0_0.length c0_0) ∧ w'.cell? ⟨gb851, 0, none⟩ = some (.slice Ao17 t844.length co17)) (ds := []) #[false, false, false, false, false, false, false, false, false, false, false, false, false, false, false, false, false, false, false, false, false, false, false, false, false, false, false, false, false, false, false, false, false, false, false, false, false, false, false, false, false, false, false, false, false, false] (by kernel_rfl) rfl rfl ⟨(blk_cell BK839.out 0).trans rfl, (blk_cell BK851.out 0).trans rfl⟩ (fun hHeld => ?_); refine with_tabW mizmazetop_TopRoad.tab17 mizmazetop_TopRoad.bits17 (fun HT_ HW_ => ?_)
     generalize wc.drew = w86 at HO_10 HO_852000 BK839 BK851 HB hHeld ⊢
     refine pv_ 0 102 ttr21 HT_ ?_
     refine pv_ 1 103 ttr22 HT_ ?_
     refine pv_ 2 104 ttr23 HT_ ?_
     refine tv_ 3 105 ttr24 HT_ HW_ hHeld ?_
     refine tv_ 4 106 ttr25 HT_ HW_ hHeld ?_
     refine one_ (i := 5) (N := some 107) ttr26 rfl rfl (one_of HT_.out (by kernel_rfl)) (by decide) (fun K hK => ?_)
     refine goes_ Try.func59 (by kernel_rfl) rfl #[.agg #[.slice A0_0 l0_0.length c0_0], .agg #[.slice Ao17 t844.length co17]] (by rfl) rfl rfl zz1 ?_
     with_reducible refine (mizmazetop_alike.calls kj26 _ _ l0_0 _ _ t844 true _ ?side1 ?side2 ?side3 ?side4 A72.out).mono ?_
     (case side1 => exact kc (Kd.C_below HR0_0.out HB.out))
     (case side2 => exact HC0_0.out)
     (case side3 => repeat (first | exact (Kd.N_reads' HO_852000.out).2.2 | (with_reducible refine Kd.C_alloc ?_ _) | (with_reducible refine Kd.C_drewN ?_ _) | (with_reducible refine Kd.C_drew ?_)))
     (case side4 => exact (Kd.N_reads' HO_852000.out).2.1)
     rintro e w87 ⟨rfl, hb⟩
     refine ⟨_, rfl, ?_⟩
     replace HO_10 := am (Kd.R_below (kR HO_10.out) hb)
     replace HO_852000 := am (Kd.N_below (kN HO_852000.out) hb)
     replace BK839 := am (blk_below (g := gb839) (o := .cells #[.slice A0_0 l0_0.length c0_0] 24 (0, 0)) (kb BK839.out) hb)
     replace BK851 := am (blk_below (g := gb851) (o := .cells #[.slice Ao17 t844.length co17] 24 (0, 0)) (kb BK851.out) hb)
     replace HB := am (below_step (bs HB.out) hb)
     (try clear hb)
     (try clear hb2)
     (try clear hk)
     (try clear hi)
     obtain ⟨Ao88, co88, eo88⟩ := Kd.R_slice HO_10.out
     (first | subst eo88 | (injection eo88 with f1_ f2_ f3_; have f4_ := f1_.symm; have f5_ := f3_.symm; clear f1_ f2_ f3_; subst f4_; subst f5_))
     refine hK.out _ _ ⟨(blk_cell BK839.out 0).trans rfl, (blk_cell BK851.out 0).trans rfl⟩ (fun hHeld => ?_)
     clear hK K
     refine nm_ 107 ?_
     refine pv_ 6 108 ttr27 HT_ ?_
     refine pv_ 7 109 ttr28 HT_ ?_
     refine pv_ 9 111 ttr29 HT_ ?_
     refine tv_ 8 110 ttr30 HT_ HW_ hHeld ?_
     refine one_ (i := 10) (N := some 112) ttr31 rfl rfl (one_of HT_.out (by kernel_rfl)) (by decide) (fun K hK => ?_)
     refine goes_ Try.func60 (by kernel_rfl) rfl #[.agg #[.slice Ao17 t844.length co17], .slice Ao88 t847.length co88] (by rfl) rfl rfl zz1 ?_
     with_reducible refine (mizmazetop_right.calls kj26 _ _ t844 _ _ t847 true _ ?side1 ?side2 ?side3 ?side4 A74.out).mono ?_
     (case side1 => repeat (first | exact (Kd.N_reads' HO_852000.out).2.2 | (with_reducible refine Kd.C_alloc ?_ _) | (with_reducible refine Kd.C_drewN ?_ _) | (with_reducible refine Kd.C_drew ?_)))
     (case side2 => exact (Kd.N_reads' HO_852000.out).2.1)
     (case side3 => repeat (first | exact (Kd.R_reads' HO_10.out).2.2 | (with_reducible refine Kd.C_alloc ?_ _) | (with_reducible refine Kd.C_drewN ?_ _) | (with_reducible refine Kd.C_drew ?_)))
     (case side4 => exact (Kd.R_reads' HO_10.out).2.1)
     rintro e w89 ⟨rfl, hb⟩
     refine ⟨_, rfl, ?_⟩
     replace HO_10 := am (Kd.R_below (kR HO_10.out) hb)
     replace HO_852000 := am (Kd.N_below (kN HO_852000.out) hb)
     replace BK839 := am (blk_below (g := gb839) (o := .cells #[.slice A0_0 l0_0.length c0_0] 24 (0, 0)) (kb BK839.out) hb)
     replace BK851 := am (blk_below (g := gb851) (o := .cells #[.slice Ao17 t844.length co17] 24 (0, 0)) (kb BK851.out) hb)
     replace HB := am (below_step (bs HB.out) hb)
     (try clear hb)
     (try clear hb2)
     (try clear hk)
     (try clear hi)
     refine hK.out _ _ ⟨(blk_cell BK839.out 0).trans rfl, (blk_cell BK851.out 0).trans rfl⟩ (fun hHeld => ?_)
     clear hK K
     refine nm_ 112 ?_
     refine pv_ 11 113 ttr32 HT_ ?_
     refine pv_ 12 114 ttr33 HT_ ?_
     refine pv_ 13 115 ttr34 HT_ ?_
     refine pv_ 14 116 ttr35 HT_ ?_
     refine pv_ 15 117 ttr36 HT_ ?_
     refine pv_ 16 118 ttr37 HT_ ?_
     refine pv_ 17 119 ttr38 HT_ ?_
     refine pv_ 18 120 ttr39 HT_ ?_
     refine pv_ 19 121 ttr40 HT_ ?_
     refine pv_ 20 122 ttr41 HT_ ?_
     refine pv_ 21 123 ttr42 HT_ ?_
     refine pv_ 22 124 ttr43 HT_ ?_
     refine pv_ 23 125 ttr44 HT_ ?_
     refine pv_ 24 126 ttr45 HT_ ?_
     refine pv_ 25 127 ttr46 HT_ ?_
     refine pv_ 27 129 ttr47 HT_ ?_
     refine tv_ 26 128 ttr48 HT_ HW_ hHeld ?_
     refine one_ (i := 28) (N := some 130) ttr49 rfl rfl (one_of HT_.out (by kernel_rfl)) (by decide) (fun K hK => ?_)
     refine goes_ Try.func57 (by kernel_rfl) rfl #[.agg #[.slice Ao17 t844.length co17], .slice Ao88 t847.length co88] (by rfl) rfl rfl zz1 ?_
     with_reducible refine (mizmazetop_spread.calls kj26 _ _ t844 _ _ t847 t871 _ ?side1 ?side2 ?side3 ?side4 A77.out).mono ?_
     (case side1 => repeat (first | exact (Kd.N_reads' HO_852000.out).2.2 | (with_reducible refine Kd.C_alloc ?_ _) | (with_reducible refine Kd.C_drewN ?_ _) | (with_reducible refine Kd.C_drew ?_)))
     (case side2 => exact (Kd.N_reads' HO_852000.out).2.1)
     (case side3 => repeat (first | exact (Kd.R_reads' HO_10.out).2.2 | (with_reducible refine Kd.C_alloc ?_ _) | (with_reducible refine Kd.C_drewN ?_ _) | (with_reducible refine Kd.C_drew ?_)))
     (case side4 => exact (Kd.R_reads' HO_10.out).2.1)
     rintro e w90 ⟨rfl, hb⟩
     refine ⟨_, rfl, ?_⟩
     replace HO_10 := am (Kd.R_below (kR HO_10.out) hb)
     replace HO_852000 := am (Kd.N_below (kN HO_852000.out) hb)
     replace BK839 := am (blk_below (g := gb839) (o := .cells #[.slice A0_0 l0_0.length c0_0] 24 (0, 0)) (kb BK839.out) hb)
     replace BK851 := am (blk_below (g := gb851) (o := .cells #[.slice Ao17 t844.length co17] 24 (0, 0)) (kb BK851.out) hb)
     replace HB := am (below_step (bs HB.out) hb)
     (try clear hb)
     (try clear hb2)
     (try clear hk)
     (try clear hi)
     refine hK.out _ _ ⟨(blk_cell BK839.out 0).trans rfl, (blk_cell BK851.out 0).trans rfl⟩ (fun hHeld => ?_)
     clear hK K
     refine nm_ 130 ?_
     refine pv_ 29 131 ttr50 HT_ ?_
     refine pv_ 30 132 ttr51 HT_ ?_
     refine pv_ 31 133 ttr52 HT_ ?_
     refine pv_ 34 136 ttr53 HT_ ?_
     refine pv_ 36 138 ttr54 HT_ ?_
     refine tv_ 32 134 ttr55 HT_ HW_ hHeld ?_
     refine tv_ 33 135 ttr56 HT_ HW_ hHeld ?_
     refine one_ (i := 35) (N := some 137) ttr57 rfl rfl (one_of HT_.out (by kernel_rfl)) (by decide) (fun K hK => ?_)
     refine goes_ Try.func58 (by kernel_rfl) rfl #[.agg #[.slice A0_0 l0_0.length c0_0], .slice A2 l2.length c2] (by rfl) rfl rfl zz1 ?_
     with_reducible refine (mizmazetop_proper.calls kj26 _ _ l0_0 _ _ l2 t872 _ ?side1 ?side2 ?side3 ?side4 A79.out).mono ?_
     (case side1 => exact kc (Kd.C_below HR0_0.out HB.out))
     (case side2 => exact HC0_0.out)
     (case side3 => exact kc (Kd.C_below HR2.out HB.out))
     (case side4 => exact HC2.out)
     rintro e w91 ⟨v873, rfl, ho0, hb⟩
     refine ⟨_, rfl, ?_⟩
     replace HO_852000 := am (Kd.N_elder' (kN HO_852000.out) (Kd.R_base ho0) hb)
     have HO874 := am (Kd.R_lower (Kd.R_new' ho0 (Kd.R_lt (kR HO_10.out))) (below_size (bs HB.out)))
     replace HO_10 := am (Kd.R_elder' (kR HO_10.out) (Kd.R_base ho0) hb)
     replace BK839 := am (blk_below (g := gb839) (o := .cells #[.slice A0_0 l0_0.length c0_0] 24 (0, 0)) (kb BK839.out) hb)
     replace BK851 := am (blk_below (g := gb851) (o := .cells #[.slice Ao17 t844.length co17] 24 (0, 0)) (kb BK851.out) hb)
     replace HB := am (below_step (bs HB.out) hb)
     (try clear hb)
     (try clear hb2)
     (try clear hk)
     (try clear hi)
     (try clear ho0)
     obtain ⟨Ao92, co92, eo92⟩ := Kd.R_slice HO874.out
     (first | subst eo92 | (injection eo92 with f1_ f2_ f3_; have f4_ := f1_.symm; have f5_ := f3_.symm; clear f1_ f2_ f3_; subst f4_; subst f5_))
     refine hK.out _ _ ⟨(blk_cell BK839.out 0).trans rfl, (blk_cell BK851.out 0).trans rfl⟩ (fun hHeld => ?_)
     clear hK K
     refine nm_ 137 ?_
     refine one_ (i := 37) (N := some 139) ttr58 rfl rfl (one_of HT_.out (by kernel_rfl)) (by decide) (fun K hK => ?_)
     refine Kd.N_lit_step (Kd.slice 3 (Kd.int .i64)) _ 28 zz5 (N' := 139) zz5 (xs := ([t872, t847] : List (List Int))) (inner := [.slice Ao92 t872.length co92, .slice Ao88 t847.length co88]) (ok := (fun k_ => some k_ ≠ (.slice Ao17 t844.length co17 : Value).ownBlock ∧ k_ ≠ gb839 ∧ k_ ≠ gb851)) (okp := (fun k_ => some k_ ≠ (.slice Ao17 t844.length co17 : Value).ownBlock ∧ k_ ≠ gb839 ∧ k_ ≠ gb851)) zz6 ?hp (fun _ hk => hk) ((show ∀ k_, w91.heap.size ≤ k_ → (fun k_ => some k_ ≠ (.slice Ao17 t844.length co17 : Value).ownBlock ∧ k_ ≠ gb839 ∧ k_ ≠ gb851) k_ from fun k_ hk => ⟨Kd.fresh' (Kd.N_lt (kN HO_852000.out)) k_ hk, Kd.freshB (g := gb839) (o := .cells #[.slice A0_0 l0_0.length c0_0] 24 (0, 0)) (kb BK839.out) k_ hk, Kd.freshB (g := gb851) (o := .cells #[.slice Ao17 t844.length co17] 24 (0, 0)) (kb BK851.out) k_ hk⟩) _ (Nat.le_refl _)) (Below.refl _ _) (Nat.le_refl _) (by simp) ?_; (case hp => exact (Reps.one (show Kd.FK (Kd.slice 3 (Kd.int .i64)) _ _ t872 [.slice Ao92 t872.length co92] from (Kd.FK_slice_mk (Kd.R_reads' (Kd.R_mono (ok' := (fun k_ => some k_ ≠ (.slice Ao17 t844.length co17 : Value).ownBlock ∧ k_ ≠ gb839 ∧ k_ ≠ gb851)) (Kd.R_types (Kd.R_types (Kd.R_apart' (HO874.out) (Kd.N_typed HO_852000.out) (by decide)) BK839.out (by decide)) BK851.out (by decide)) (fun k_ hk => ⟨hk.1.1.2, ⟨hk.1.2, hk.2⟩⟩))).2.1 (Kd.R_F (Kd.R_mono (ok' := (fun k_ => some k_ ≠ (.slice Ao17 t844.length co17 : Value).ownBlock ∧ k_ ≠ gb839 ∧ k_ ≠ gb851)) (Kd.R_types (Kd.R_types (Kd.R_apart' (HO874.out) (Kd.N_typed HO_852000.out) (by decide)) BK839.out (by decide)) BK851.out (by decide)) (fun k_ hk => ⟨hk.1.1.2, ⟨hk.1.2, hk.2⟩⟩))))) (Reps.one (show Kd.FK (Kd.slice 3 (Kd.int .i64)) _ _ t847 [.slice Ao88 t847.length co88] from (Kd.FK_slice_mk (Kd.R_reads' (Kd.R_mono (ok' := (fun k_ => some k_ ≠ (.slice Ao17 t844.length co17 : Value).ownBlock ∧ k_ ≠ gb839 ∧ k_ ≠ gb851)) (Kd.R_types (Kd.R_types (Kd.R_apart' (HO_10.out) (Kd.N_typed HO_852000.out) (by decide)) BK839.out (by decide)) BK851.out (by decide)) (fun k_ hk => ⟨hk.1.1.2, ⟨hk.1.2, hk.2⟩⟩))).2.1 (Kd.R_F (Kd.R_mono (ok' := (fun k_ => some k_ ≠ (.slice Ao17 t844.length co17 : Value).ownBlock ∧ k_ ≠ gb839 ∧ k_ ≠ gb851)) (Kd.R_types (Kd.R_types (Kd.R_apart' (HO_10.out) (Kd.N_typed HO_852000.out) (by decide)) BK839.out (by decide)) BK851.out (by decide)) (fun k_ hk => ⟨hk.1.1.2, ⟨hk.1.2, hk.2⟩⟩))))) (Reps.none _ _))))
     intro v876 w93 ho94 hb hg_ hnew_
     clear hg_ hnew_
     (first | rw [← Ny875.out] at ho94 | (simp only [Int.reduceToNat] at ho94; rw [← Ny875.out] at ho94))
     have n0_ := am (Kd.N_elder' (kN HO_852000.out) (by first | exact Kd.N_base ho94 | exact Kd.S_base ho94 | exact Kd.R_base ho94) hb)
     have n1_ := am (Kd.N_lower ho94 (below_size (bs HB.out)))
     have n2_ := am (blk_below (g := gb839) (o := .cells #[.slice A0_0 l0_0.length c0_0] 24 (0, 0)) (kb BK839.out) hb)
     have n3_ := am (blk_below (g := gb851) (o := .cells #[.slice Ao17 t844.length co17] 24 (0, 0)) (kb BK851.out) hb)
     have n4_ := am (below_step (bs HB.out) hb)
     clear HO_852000
     clear BK839
     clear BK851
     clear HB
     clear HO874
     clear HO_10
     have HO_852000 := n0_
     have HO877 := n1_
     have BK839 := n2_
     have BK851 := n3_
     have HB := n4_
     clear n0_ n1_ n2_ n3_ n4_
     clear hb ho94
     obtain ⟨Ao95, co95, eo95⟩ := Kd.N_slice HO877.out
     (first | subst eo95 | (injection eo95 with f1_ f2_ f3_; have f4_ := f1_.symm; have f5_ := f3_.symm; clear f1_ f2_ f3_; subst f4_; subst f5_))
     refine hK.out _ _ ⟨(blk_cell BK839.out 0).trans rfl, (blk_cell BK851.out 0).trans rfl⟩ (fun hHeld => ?_)
     clear hK K
     refine nm_ 139 ?_
     refine one_ (i := 38) (N := some 140) ttr59 rfl rfl (one_of HT_.out (by kernel_rfl)) (by decide) (fun K hK => ?_)
     refine goes_ Try.func61 (by kernel_rfl) rfl #[.slice Ao95 y875.length co95] (by rfl) rfl rfl zz1 ?_
     with_reducible refine (mizmazetop_joined.calls kj26 _ _ y875 t878 _ ?side1 ?side2 A80.out).mono ?_
     (case side1 => repeat (first | exact (Kd.N_reads' HO877.out).2.2 | (with_reducible refine Kd.C_alloc ?_ _) | (with_reducible refine Kd.C_drewN ?_ _) | (with_reducible refine Kd.C_drew ?_)))
     (case side2 => exact (Kd.N_reads' HO877.out).2.1)
     rintro e w96 ⟨v879, rfl, ho0, hb⟩
     refine ⟨_, rfl, ?_⟩
     replace HO_852000 := am (Kd.N_elder' (kN HO_852000.out) (Kd.R_base ho0) hb)
     replace HO877 := am (Kd.N_elder' (kN HO877.out) (Kd.R_base ho0) hb)
     have HO880 := am (Kd.R_lower ho0 (below_size (bs HB.out)))
     replace BK839 := am (blk_below (g := gb839) (o := .cells #[.slice A0_0 l0_0.length c0_0] 24 (0, 0)) (kb BK839.out) hb)
     replace BK851 := am (blk_below (g := gb851) (o := .cells #[.slice Ao17 t844.length co17] 24 (0, 0)) (kb BK851.out) hb)
     replace HB := am (below_step (bs HB.out) hb)
     (try clear hb)
     (try clear hb2)
     (try clear hk)
     (try clear hi)
     (try clear ho0)
     obtain ⟨Ao97, co97, eo97⟩ := Kd.R_slice HO880.out
     (first | subst eo97 | (injection eo97 with f1_ f2_ f3_; have f4_ := f1_.symm; have f5_ := f3_.symm; clear f1_ f2_ f3_; subst f4_; subst f5_))
     refine hK.out _ _ ⟨(blk_cell BK839.out 0).trans rfl, (blk_cell BK851.out 0).trans rfl⟩ (fun hHeld => ?_)
     clear hK K
     refine nm_ 140 ?_
     refine one_ (i := 39) (N := some 141) ttr60 rfl rfl (one_of HT_.out (by kernel_rfl)) (by decide) (fun K hK => ?_)
     refine goes_ Try.func57 (by kernel_rfl) rfl #[.agg #[.slice Ao17 t844.length co17], .slice Ao97 t878.length co97] (by rfl) rfl rfl zz1 ?_
     with_reducible refine (mizmazetop_spread.calls kj26 _ _ t844 _ _ t878 t881 _ ?side1 ?side2 ?side3 ?side4 A81.out).mono ?_
     (case side1 => repeat (first | exact (Kd.N_reads' HO_852000.out).2.2 | (with_reducible refine Kd.C_alloc ?_ _) | (with_reducible refine Kd.C_drewN ?_ _) | (with_reducible refine Kd.C_drew ?_)))
     (case side2 => exact (Kd.N_reads' HO_852000.out).2.1)
     (case side3 => repeat (first | exact (Kd.R_reads' HO880.out).2.2 | (with_reducible refine Kd.C_alloc ?_ _) | (with_reducible refine Kd.C_drewN ?_ _) | (with_reducible refine Kd.C_drew ?_)))
     (case side4 => exact (Kd.R_reads' HO880.out).2.1)
     rintro e w98 ⟨rfl, hb⟩
     refine ⟨_, rfl, ?_⟩
     replace HO_852000 := am (Kd.N_below (kN HO_852000.out) hb)
     replace HO877 := am (Kd.N_below (kN HO877.out) hb)
     replace HO880 := am (Kd.R_below (kR HO880.out) hb)
     replace BK839 := am (blk_below (g := gb839) (o := .cells #[.slice A0_0 l0_0.length c0_0] 24 (0, 0)) (kb BK839.out) hb)
     replace BK851 := am (blk_below (g := gb851) (o := .cells #[.slice Ao17 t844.length co17] 24 (0, 0)) (kb BK851.out) hb)
     replace HB := am (below_step (bs HB.out) hb)
     (try clear hb)
     (try clear hb2)
     (try clear hk)
     (try clear hi)
     refine hK.out _ _ ⟨(blk_cell BK839.out 0).trans rfl, (blk_cell BK851.out 0).trans rfl⟩ (fun hHeld => ?_)
     clear hK K
     refine nm_ 141 ?_
     refine pv_ 40 142 ttr61 HT_ ?_
     refine pv_ 41 143 ttr62 HT_ ?_
     refine pv_ 42 144 ttr63 HT_ ?_
     refine one_ (i := 43) (N := some 145) ttr64 rfl rfl (one_of HT_.out (by kernel_rfl)) (by decide) (fun K hK => ?_)
     refine goes_ Try.func55 (by kernel_rfl) rfl #[] (by rfl) rfl rfl zz1 ?_
     with_reducible refine (mizmazetop_colours.calls kj26  t882 _ A83.out).mono ?_
     rintro e w99 ⟨rfl, hb⟩
     refine ⟨_, rfl, ?_⟩
     replace HO_852000 := am (Kd.N_below (kN HO_852000.out) hb)
     replace HO877 := am (Kd.N_below (kN HO877.out) hb)
     replace HO880 := am (Kd.R_below (kR HO880.out) hb)
     replace BK839 := am (blk_below (g := gb839) (o := .cells #[.slice A0_0 l0_0.length c0_0] 24 (0, 0)) (kb BK839.out) hb)
     replace BK851 := am (blk_below (g := gb851) (o := .cells #[.slice Ao17 t844.length co17] 24 (0, 0)) (kb BK851.out) hb)
     replace HB := am (below_step (bs HB.out) hb)
     (try clear hb)
     (try clear hb2)
     (try clear hk)
     (try clear hi)
     refine hK.out _ _ ⟨(blk_cell BK839.out 0).trans rfl, (blk_cell BK851.out 0).trans rfl⟩ (fun hHeld => ?_)
     clear hK K
     refine nm_ 145 ?_
     refine pv_ 44 146 ttr65 HT_ ?_
     refine pv_ 45 6 ttr66 HT_ ?_
     refine done_ (done_of HT_.out (by kernel_rfl)) ?_
     try go_wp2
     go_ret
     exact ⟨by first | rfl | (simp [errW_none, errW_some] <;> rfl) | (simp [*, errW_none, errW_some] <;> rfl), bs HB.out⟩
end Go.Proofs.Ytjgdalhdiohclaa.Q
end
