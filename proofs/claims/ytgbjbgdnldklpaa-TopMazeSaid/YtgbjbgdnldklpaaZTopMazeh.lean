/- One word for all mazes: the word that is found for some numbers of rooms and doors visits all rooms of whatever connected maze with at most this number of rooms, also with doors before it and after it; it is proved for every input, without conditions. (text 8 of 31) -/
import Derived.Test.YtgbjbgdnldklpaaZTopMazeg
import Derived.Test.YtgbjbgdnldklpaaZTopMazec
/-! Part XSee -/
section
namespace Go.Proofs.Ytgbjbgdnldklpaa.Q
open Go.RowKit Go.Proofs.YtgbjbgdnldklpaaW.PrintWords Go.Proofs.YtgbjbgdnldklpaaW.PrintLast Go.Proofs.YtgbjbgdnldklpaaW.PrintMore
set_option linter.unusedVariables false
set_option linter.unusedSimpArgs false
/-! ### the reference's visitor: see -/
/-- The visitor's block. -/
def VB (W : World) (V : Nat) (wk : Bool) (A : Option Addr) (n c : Nat) (all con : Int) : Prop := W.heap[V]? = some (.cells #[.bool wk, .slice A n c, .int .i64 all, .int .i64 con] 69 (0, 0))
/-- The world behind a visitor: its word, its block, the maze. -/
structure SV (w0 : World) (V : Nat) (wk : Bool) (A : Option Addr) (c : Nat) (l : List Int) (base : Nat) (ok : Nat → Prop) (v : Value) (W : World) (g : List (List S44)) (all con : Int) : Prop where
 word : Kd.C (Kd.int .i64) w0 A l.length l
 wc : l.length ≤ c
 old : Below w0.heap.size w0 W
 hV : w0.heap.size ≤ V
 vb : VB W V wk A l.length c all con
 S : Kd.S (Kd.slice 44 k44) 40 W base ok v g
 hb0 : w0.heap.size ≤ base
section
variable {w0 : World} {V : Nat} {wk : Bool} {A : Option Addr} {c : Nat} {l : List Int} {base : Nat} {ok : Nat → Prop} {v : Value} {W W1 : World} {g : List (List S44)} {all con : Int}
theorem below_setS {w W : World} (hB : Below w.heap.size w W) {V : Nat} (hV : w.heap.size ≤ V) (j : Nat) (u : Value) : Below w.heap.size w (W.setCell ⟨V, j, none⟩ u) :=
 ⟨hB.os, hB.tape, hB.output, Nat.le_trans hB.size (by simp [World.setCell]), fun b hb => (Below.heap_setCell W ⟨V, j, none⟩ u b (show b ≠ V by omega)).trans (hB.block b hb)⟩
theorem SV.below (h : SV w0 V wk A c l base ok v W g all con) (hb : Below W.heap.size W W1) : SV w0 V wk A c l base ok v W1 g all con :=
 ⟨h.word, h.wc, below_step h.old hb, h.hV, blk_below h.vb hb, Kd.S_below h.S hb, h.hb0⟩
theorem SV.putAll (h : SV w0 V wk A c l base ok v W g all con) (z : Int) : SV w0 V wk A c l base ok v (W.setCell ⟨V, 2, none⟩ (.int .i64 z)) g z con :=
 ⟨h.word, h.wc, below_setS h.old h.hV _ _, h.hV, blk_put h.vb 2 _ rfl, Kd.S_set h.S h.vb (by decide) _ _, h.hb0⟩
theorem SV.gC {A0 : Option Addr} {n0 c0 : Nat} (h : SV w0 V wk A c l base ok (.slice A0 n0 c0) W g all con) : n0 = g.length ∧ g.length ≤ c0 ∧ Kd.C (Kd.slice 44 k44) W A0 g.length g := by
 obtain ⟨h1, h2, h3⟩ := Kd.S_reads' h.S
 exact ⟨h1, by omega, h3⟩
end
end Go.Proofs.Ytgbjbgdnldklpaa.Q
end
/-! Part XFill -/
section
namespace Go.Proofs.Ytgbjbgdnldklpaa.Q
open Go.RowKit Go.Proofs.YtgbjbgdnldklpaaW.PrintWords Go.Proofs.YtgbjbgdnldklpaaW.PrintLast Go.Proofs.YtgbjbgdnldklpaaW.PrintMore
set_option linter.unusedVariables false
set_option linter.unusedSimpArgs false
/-! ### the reference's visitor: fill -/
abbrev Grid := List (List S44)
def setG (d : Nat) (g : Grid) (p : Nat) (x : S44) : Grid := g.set (p / d) ((rd_L4 g ((p / d : Nat) : Int)).set (p % d) x)
def atG (d : Nat) (g : Grid) (p : Nat) : S44 := rd_T44 (rd_L4 g ((p / d : Nat) : Int)) ((p % d : Nat) : Int)
def noD : S44 := ⟨-1, 0⟩
def doorN (a b : Nat) : S44 := ⟨(a : Int), (b : Int)⟩
structure ShG (n d : Nat) (g : Grid) : Prop where
 len : g.length = n
 n1 : 1 ≤ n
 d1 : 1 ≤ d
 nd : n * d ≤ 12
 row : ∀ r : Nat, r < n → (rd_L4 g (r : Int)).length = d
theorem ShG.cell {n d : Nat} {g : Grid} (h : ShG n d g) {p : Nat} (hp : p < n * d) : p / d < n ∧ p % d < d := by
 have := h.d1
 exact ⟨(Nat.div_lt_iff_lt_mul (by omega)).2 hp, Nat.mod_lt _ (by omega)⟩
theorem ShG.set {n d : Nat} {g : Grid} (h : ShG n d g) (p : Nat) (x : S44) : ShG n d (setG d g p x) := by
 refine ⟨by unfold setG; rw [List.length_set]; exact h.len, h.n1, h.d1, h.nd, fun r hr => ?_⟩
 unfold setG
 have hl := h.len
 show ((g.set (p / d) _).getD r []).length = d
 rw [List.getD_eq_getElem?_getD, List.getElem?_set]
 by_cases e : p / d = r
 ·rw [if_pos e, if_pos (by omega)]
  show (List.set _ _ _).length = d
  rw [List.length_set, e]
  exact h.row r hr
 ·rw [if_neg e, ← List.getD_eq_getElem?_getD]
  exact h.row r hr
section
variable {w0 : World} {V : Nat} {wk : Bool} {A : Option Addr} {c : Nat} {l : List Int} {base : Nat} {ok : Nat → Prop} {W : World} {g : Grid} {all con : Int} {ad : Addr} {n d c0 : Nat}
theorem SV.put (h : SV w0 V wk A c l base ok (.slice (some ad) n c0) W g all con) (hG : ShG n d g) {p : Nat} (hp : p < n * d) (x : S44) :
  ∃ gi ci, W.cell? (ad.add (p / d)) = some (.slice (some ⟨gi, 0, none⟩) d ci) ∧ SV w0 V wk A c l base ok (.slice (some ad) n c0) (W.setCells gi (p % d * 2) (doorCells x)) (setG d g p x) all con ∧ KeptBut (fun b => ok b) W (W.setCells gi (p % d * 2) (doorCells x)) ∧ (∃ cells, W.heap[gi]? = some (.cells cells 44 (0, 0))) ∧ ok gi ∧
   (Instr.storeAt 44 (.pointer (some ⟨gi, p % d * 2, none⟩)) (.agg #[.int .i64 x.f0, .int .i64 x.f1])).run Try.prog W = .ok () (W.setCells gi (p % d * 2) (doorCells x)) := by
 obtain ⟨h1, h2⟩ := hG.cell hp
 have hrow := hG.row _ h1
 obtain ⟨gi, ci, e1, e2, e3, e4, e5, e6⟩ := grid_put (Kd.S_bound h.S) ((p / d : Nat) : Int) ((p % d : Nat) : Int) (Int.natCast_nonneg _) (Int.ofNat_lt.2 (by rw [← hG.len] at h1; have := h.gC.1; omega)) (Int.natCast_nonneg _) (Int.ofNat_lt.2 (by rw [hrow]; exact h2)) x
 rw [hrow] at e1
 simp only [Int.toNat_natCast] at e1 e4 e5 e6
 have hgb : base ≤ gi := e2.2.1
 have hgV : gi ≠ V := by
  rintro rfl
  obtain ⟨cells, hc⟩ := e3
  have := h.vb
  unfold VB at this
  rw [hc] at this
  have := Option.some.inj this
  injection this with _ ht
  exact absurd ht (by decide)
 refine ⟨gi, ci, e1, ⟨h.word, h.wc, ?_, h.hV, ?_, Kd.S_mono e4 fun k hk => hk.1, h.hb0⟩, KeptBut.of_grown e5 (fun b hb => by injection hb with hb; subst hb; exact e2.1), e3, e2.1, e6⟩
 ·have hb := h.hb0
  exact ⟨e5.os.trans h.old.os, e5.tape.trans h.old.tape, e5.output.trans h.old.output, Nat.le_trans h.old.size e5.size, fun b hlt => (e5.block b (Nat.lt_of_lt_of_le hlt h.old.size) (fun e => by injection e with e; omega)).trans (h.old.block b hlt)⟩
 ·exact (e5.block V (blk_lt h.vb) (fun e => by injection e with e; exact hgV e.symm)).trans h.vb
theorem SV.mono {ok' : Nat → Prop} {v : Value} (h : SV w0 V wk A c l base ok v W g all con) (hk : ∀ b, ok b → ok' b) : SV w0 V wk A c l base ok' v W g all con := ⟨h.word, h.wc, h.old, h.hV, h.vb, Kd.S_mono h.S hk, h.hb0⟩
/-- A door that is read. -/
theorem SV.get (h : SV w0 V wk A c l base ok (.slice (some ad) n c0) W g all con) (hG : ShG n d g) {p : Nat} (hp : p < n * d) :
  ∃ gi ci, W.cell? (ad.add (p / d)) = some (.slice (some gi) d ci) ∧ W.cell? (gi.add (p % d * 2)) = some (.int .i64 (atG d g p).f0) := by
 obtain ⟨h1, h2⟩ := hG.cell hp
 have hrow := hG.row _ h1
 obtain ⟨_, _, hC⟩ := h.gC
 obtain ⟨ad', A0, c1, e, hc, hl, hr⟩ := at_L4 hC ((p / d : Nat) : Int) (Int.natCast_nonneg _) (Int.ofNat_lt.2 (by rw [hG.len]; exact h1))
 injection e with e
 subst e
 obtain ⟨gi, e1, e2, _⟩ := at_T44 hr ((p % d : Nat) : Int) (Int.natCast_nonneg _) (Int.ofNat_lt.2 (by rw [hrow]; exact h2))
 subst e1
 rw [hrow] at hc
 simp only [Int.toNat_natCast] at hc e2
 exact ⟨gi, c1, hc, e2⟩
end
end Go.Proofs.Ytgbjbgdnldklpaa.Q
end
