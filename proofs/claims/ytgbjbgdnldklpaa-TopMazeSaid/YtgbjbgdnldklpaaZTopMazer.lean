/- One word for all mazes: the word that is found for some numbers of rooms and doors visits all rooms of whatever connected maze with at most this number of rooms, also with doors before it and after it; it is proved for every input, without conditions. (text 18 of 31) -/
import Derived.Test.YtgbjbgdnldklpaaZTopMazeq
import Derived.Test.YtgbjbgdnldklpaaZTopMazel
/-! Part XWay -/
section
namespace Go.Proofs.Ytgbjbgdnldklpaa.Q
open Go.RowKit Go.Proofs.YtgbjbgdnldklpaaW.PrintWords Go.Proofs.YtgbjbgdnldklpaaW.PrintLast Go.Proofs.YtgbjbgdnldklpaaW.PrintMore
set_option linter.unusedVariables false
set_option linter.unusedSimpArgs false
/-! ### a walker's first shortest way -/
def oneU (met t : Int) : Bool := Go.bits .and .u16 (met / 2 ^ min t.toNat 16) 1 == 1
mutual
def maze_way.l0 : Nat → Int → List Int → Int → List Int → List (List Int) → Int → Int → Option (List Int)
 | 0, _, _, _, _, _, _, _ => none
 | k + 1, d, rs, met0, list, words, met, i => if i < (list.length : Int) then maze_way.l1 k d rs met0 list words met i 0 else some []
def maze_way.l1 : Nat → Int → List Int → Int → List Int → List (List Int) → Int → Int → Int → Option (List Int)
 | 0, _, _, _, _, _, _, _, _ => none
 | k + 1, d, rs, met0, list, words, met, i, x => if x < d then (if 0 ≤ i then (if i < (list.length : Int) then (if 0 ≤ portU (rd list i) d x then (if portU (rd list i) d x < 12 then (if 0 ≤ rd rs (portU (rd list i) d x) then
   (if oneU met (rd rs (portU (rd list i) d x)) = true then maze_way.l1 k d rs met0 list words met i (wrap64 (x + 1)) else
    (if i < (words.length : Int) then (if list.length < 1000000 then (if words.length < 1000000 then (if (rd_L1 words i).length < 1000000 then
     (if hasU met0 (rd rs (portU (rd list i) d x)) = true then some (rd_L1 words i ++ [x]) else
      maze_way.l1 k d rs met0 (list ++ [rd rs (portU (rd list i) d x)]) (words ++ [rd_L1 words i ++ [x]]) (addU met (rd rs (portU (rd list i) d x))) i (wrap64 (x + 1))) else none) else none) else none) else none)) else none) else none) else none) else none) else none) else maze_way.l0 k d rs met0 list words met (wrap64 (i + 1))
end
def setU (t : Int) : Int := IntKind.u16.wrap (2 ^ min t.toNat 16)
def maze_way.f (k : Nat) (d : Int) (rs : List Int) (at_ met0 : Int) : Option (List Int) := if 0 ≤ at_ then maze_way.l0 k d rs met0 [at_] [[]] (setU at_) 0 else none
theorem maze_way.mono_l : ∀ k, (∀ y0 y1 y2 y3 y4 y5 y6, LeO (maze_way.l0 k y0 y1 y2 y3 y4 y5 y6) (maze_way.l0 (k + 1) y0 y1 y2 y3 y4 y5 y6)) ∧ (∀ y0 y1 y2 y3 y4 y5 y6 y7, LeO (maze_way.l1 k y0 y1 y2 y3 y4 y5 y6 y7) (maze_way.l1 (k + 1) y0 y1 y2 y3 y4 y5 y6 y7))
 | 0 => ⟨fun _ _ _ _ _ _ _ r h => by simp [maze_way.l0] at h, fun _ _ _ _ _ _ _ _ r h => by simp [maze_way.l1] at h⟩
 | k + 1 => by
  obtain ⟨ih0, ih1⟩ := maze_way.mono_l k
  refine ⟨?_, ?_⟩
  ·intro y0 y1 y2 y3 y4 y5 y6
   unfold maze_way.l0
   repeat' first
   | (with_reducible exact ih1 _ _ _ _ _ _ _ _)
   | (with_reducible exact LeO.refl _)
   | (with_reducible exact LeO.none _)
   | (with_reducible refine LeO.ite ?_ ?_)
  ·intro y0 y1 y2 y3 y4 y5 y6 y7
   unfold maze_way.l1
   repeat' first
   | (with_reducible exact ih0 _ _ _ _ _ _ _)
   | (with_reducible exact ih1 _ _ _ _ _ _ _ _)
   | (with_reducible exact LeO.refl _)
   | (with_reducible exact LeO.none _)
   | (with_reducible refine LeO.ite ?_ ?_)
theorem maze_way.mono (d : Int) (rs : List Int) (at_ met0 : Int) (k : Nat) : LeO (maze_way.f k d rs at_ met0) (maze_way.f (k + 1) d rs at_ met0) := LeO.ite ((maze_way.mono_l k).1 _ _ _ _ _ _ _) (LeO.refl _)
theorem append_run {α : Type} {P : Program} (d : Kd α) {W : World} (base : Nat) (t e o : TypeId) (z : Value) (bytes : Nat) (ht : P.underlying t = some (.slice e)) (hinfo : (P.info? e).map (fun i => (i.zero, i.size, i.bytes)) = some (some z, d.sz, bytes)) (hz : z.cells.size = d.sz) (hs0 : 0 < d.sz) (hb0 : 0 < bytes)
  (v : Value) (xs : List α) (p : α) (cs : List Value) (ok okp : Nat → Prop) (ad : Addr) (c : Nat) (HO : d.R e W base ok v xs) (hp : d.M W base okp p cs) (hokp : ∀ k, okp k → ok k ∧ some k ≠ v.ownBlock) (hfresh : ∀ k, W.heap.size ≤ k → ok k) (hc : ∀ j u, cs[j]? = some u → W.cell? (ad.add j) = some u) (hbase : base ≤ W.heap.size) (hl : (xs.length + 1) * bytes ≤ 140737488355328) :
  ∃ v1 w1, (Builtin.append_ #[t, t] o #[v, .slice (some ad) 1 c]).run P W = .ok v1 w1 ∧ d.R e w1 base ok v1 (xs ++ [p]) ∧ W.grownBy w1 v.ownBlock ∧ (v1.ownBlock = v.ownBlock ∨ ∃ b, v1.ownBlock = some b ∧ W.heap.size ≤ b) := by
 obtain ⟨i0, hi, hzz⟩ := Option.map_eq_some_iff.1 hinfo
 simp only [Prod.mk.injEq] at hzz
 obtain ⟨hz0, hz1, hz2⟩ := hzz
 have hlen : xs.length + 1 ≤ 140737488355328 := Nat.le_trans (Nat.le_mul_of_pos_right _ hb0) hl
 obtain ⟨hok, inner, hown, hr⟩ := HO
 have hK := d.K_of_M hp
 obtain ⟨v1, w1, hrun, h2, hg, _, hat⟩ := run_append_own_at (P := P) W base t o e i0 z d.sz bytes ht hi hz0 hz1 hz2 hz hs0 v xs.length inner hown ad 1 c cs (by rw [d.K_len hK, Nat.one_mul]) hc (d.K_one hK) (by simp only [maxLen]; omega) hl hbase
 have hat' : v1.ownBlock = v.ownBlock ∨ ∃ b, v1.ownBlock = some b ∧ W.heap.size ≤ b := by
  rcases hat with hat | hat
  ·exact .inl hat
  ·exact .inr ⟨_, hat, Nat.le_refl _⟩
 exact ⟨v1, w1, hrun, Kd.R_appended hok hr hp hokp hfresh h2 hg hat', hg, hat'⟩
theorem lit_cells {W : World} {b : Nat} {cs : Array Value} {t : TypeId} (h : W.heap[b]? = some (.cells cs t (0, 0))) : ∀ (j : Nat) (u : Value), cs.toList[j]? = some u → W.cell? ((⟨b, 0, none⟩ : Addr).add j) = some u := by
 intro j u hu
 rw [add_plain]
 exact (blk_cell h j).trans (by simpa using hu)
theorem run_append_op {P : Program} {a : Act} {o : Oper} {W w1 : World} {s x : Operand} {t : TypeId} {v y v1 : Value} (ho : o.op = .call { callee := .builtin .append, args := #[s, x], argTypes := #[t, t] }) (hs : a.eval s = v) (hx : a.eval x = y) (h : (Builtin.append_ #[t, t] o.type #[v, y]).run P W = .ok v1 w1) : (execOp a.eval o).run P W = .ok (.value v1) w1 := by
 simp [execOp, ho, resolve, invoke, builtin, hs, hx, h]
theorem info_ints : (Try.prog.info? 30).map (fun i => (i.zero, i.size, i.bytes)) = some (some (.slice none 0 0), 1, 24) := by kernel_rfl
theorem below_rowR {w W W1 : World} {row : Option Nat} (hb : Below w.heap.size w W) (hg : W.grownBy W1 row) (hr : ∀ k, row = some k → w.heap.size ≤ k) : Below w.heap.size w W1 :=
 ⟨hg.os.trans hb.os, hg.tape.trans hb.tape, hg.output.trans hb.output, Nat.le_trans hb.size hg.size, fun b hlt => (hg.block b (Nat.lt_of_lt_of_le hlt hb.size) (fun e => by have := hr b e.symm; omega)).trans (hb.block b hlt)⟩
/-- The memory of a way: the walker's box, the list of rooms, their words. -/
structure WY (w : World) (G Z : Nat) (at_ met0 : Int) (W : World) (vL : Value) (list : List Int) (vW : Value) (words : List (List Int)) : Prop where
 below : Below w.heap.size w W
 box : WaB W G Z at_ met0
 lst : Kd.R (Kd.int .u8) 5 W w.heap.size (fun _ => True) vL list
 wds : Kd.R (Kd.slice 3 (Kd.int .i64)) 30 W w.heap.size (fun _ => True) vW words
structure WR (w : World) (G Z : Nat) (at_ met0 : Int) (N0 gW : Nat) (cs : Array Value) (W : World) (vL : Value) (list : List Int) (cw : Nat) (words : List (List Int)) (Ai : Option Addr) (ci : Nat) (wi : List Int) : Prop where
 below : Below w.heap.size w W
 box : WaB W G Z at_ met0
 lst : Kd.R (Kd.int .u8) 5 W w.heap.size (fun _ => True) vL list
 wds : Kd.R (Kd.slice 3 (Kd.int .i64)) 30 W w.heap.size (fun k => k < N0) (.slice (some ⟨gW, 0, none⟩) words.length cw) words
 hw : W.heap[gW]? = some (.cells cs 30 (0, 0))
 inn : Kd.R (Kd.int .i64) 3 W w.heap.size (fun k => k < N0) (.slice Ai wi.length ci) wi
 n0 : N0 ≤ W.heap.size
 gN : G < N0
 gWN : gW < N0
 wN : w.heap.size ≤ N0
section
variable {w : World} {G Z : Nat} {at_ met0 : Int} {N0 gW : Nat} {cs : Array Value} {W W1 : World} {vL vW vq : Value} {list list' : List Int} {cw : Nat} {words words' : List (List Int)} {Ai : Option Addr} {ci : Nat} {wi : List Int}
theorem WY.next (h : WY w G Z at_ met0 W vL list vW words) (hb : Below W.heap.size W W1) : WY w G Z at_ met0 W1 vL list vW words :=
 ⟨below_step h.below hb, blk_below h.box hb, Kd.R_below h.lst hb, Kd.R_below h.wds hb⟩
theorem WR.next (h : WR w G Z at_ met0 N0 gW cs W vL list cw words Ai ci wi) (hb : Below W.heap.size W W1) : WR w G Z at_ met0 N0 gW cs W1 vL list cw words Ai ci wi :=
 ⟨below_step h.below hb, blk_below h.box hb, Kd.R_below h.lst hb, Kd.R_below h.wds hb, blk_below h.hw hb, Kd.R_below h.inn hb, Nat.le_trans h.n0 hb.size, h.gN, h.gWN, h.wN⟩
theorem WR.listTo (h : WR w G Z at_ met0 N0 gW cs W vL list cw words Ai ci wi) (hg : W.grownBy W1 vL.ownBlock) (hR : Kd.R (Kd.int .u8) 5 W1 w.heap.size (fun _ => True) vq list') : WR w G Z at_ met0 N0 gW cs W1 vq list' cw words Ai ci wi :=
 ⟨below_rowR h.below hg (Kd.R_base h.lst), blk_grown h.box hg (Kd.R_ne h.lst h.box (by decide)), hR, Kd.R_over' h.wds (Kd.R_typed h.lst) (by decide) hg, blk_grown h.hw hg (Kd.R_ne h.lst h.hw (by decide)), Kd.R_over' h.inn (Kd.R_typed h.lst) (by decide) hg, Nat.le_trans h.n0 hg.size, h.gN, h.gWN, h.wN⟩
theorem WR.other (h : WR w G Z at_ met0 N0 gW cs W vL list cw words Ai ci wi) (hg : W.grownBy W1 vq.ownBlock) (hbase : ∀ k, vq.ownBlock = some k → N0 ≤ k) (hty : ∀ k, vq.ownBlock = some k → ∃ cells, W.heap[k]? = some (.cells cells 3 (0, 0))) : WR w G Z at_ met0 N0 gW cs W1 vL list cw words Ai ci wi :=
 ⟨below_rowR h.below hg (fun k hk => Nat.le_trans h.wN (hbase k hk)), blk_grown h.box hg (fun e => by have := hbase G e.symm; have := h.gN; omega), Kd.R_over' h.lst hty (by decide) hg, Kd.R_grown h.wds hg (fun k hk e => by have := hbase k e.symm; omega), blk_grown h.hw hg (fun e => by have := hbase gW e.symm; have := h.gWN; omega), Kd.R_grown h.inn hg (fun k hk e => by have := hbase k e.symm; omega), Nat.le_trans h.n0 hg.size, h.gN, h.gWN, h.wN⟩
theorem WR.wordsTo (h : WR w G Z at_ met0 N0 gW cs W vL list cw words Ai ci wi) (hg : W.grownBy W1 (Value.slice (some ⟨gW, 0, none⟩) words.length cw).ownBlock) (hR : Kd.R (Kd.slice 3 (Kd.int .i64)) 30 W1 w.heap.size (fun _ => True) vq words') : WY w G Z at_ met0 W1 vL list vq words' :=
 ⟨below_rowR h.below hg (Kd.R_base h.wds), blk_grown h.box hg (Kd.R_ne h.wds h.box (by decide)), Kd.R_over' h.lst (Kd.R_typed h.wds) (by decide) hg, hR⟩
theorem WR.wdsT (h : WR w G Z at_ met0 N0 gW cs W vL list cw words Ai ci wi) : Kd.R (Kd.slice 3 (Kd.int .i64)) 30 W w.heap.size (fun _ => True) (.slice (some ⟨gW, 0, none⟩) words.length cw) words := Kd.R_mono h.wds (fun _ _ => trivial)
theorem WR.apart {v : Value} {l : List Int} (h : WR w G Z at_ met0 N0 gW cs W vL list cw words Ai ci wi) (hR : Kd.R (Kd.int .i64) 3 W N0 (fun _ => True) v l) : Kd.R (Kd.int .i64) 3 W w.heap.size (fun k => some k ≠ (Value.slice (some ⟨gW, 0, none⟩) words.length cw).ownBlock) v l :=
 Kd.R_mono (Kd.R_apart' (Kd.R_lower hR h.wN) (Kd.R_typed h.wds) (by decide)) (fun _ hk => hk.2)
theorem WR.held {j : Nat} {u : Value} (h : WR w G Z at_ met0 N0 gW cs W vL list cw words Ai ci wi) (hj : cs[j]? = some u) : W.cell? ⟨gW, j, none⟩ = some u := (blk_cell h.hw j).trans hj
end
theorem WY.enter {w : World} {G Z : Nat} {at_ met0 : Int} {W : World} {vL vW : Value} {list : List Int} {words : List (List Int)} (h : WY w G Z at_ met0 W vL list vW words) (i : Int) (h0 : 0 ≤ i) (h1 : i < (words.length : Int)) :
  ∃ gW cs cw Ai ci, vW = .slice (some ⟨gW, 0, none⟩) words.length cw ∧ cs[i.toNat]? = some (.slice Ai (rd_L1 words i).length ci) ∧ WR w G Z at_ met0 W.heap.size gW cs W vL list cw words Ai ci (rd_L1 words i) := by
 obtain ⟨gW, cw, rfl, _, hlt, cs, hcs⟩ := Kd.R_form h.wds (by omega)
 obtain ⟨c, hc1, ⟨v, rfl, hR⟩, hc3, _⟩ := Kd.R_elem h.wds ([] : List Int) i h0 h1
 obtain ⟨Ai, ci, rfl⟩ := Kd.R_slice hR
 have h9 := hc3 0 _ rfl
 rw [show i.toNat * (Kd.slice 3 (Kd.int .i64)).sz + 0 = i.toNat from Nat.mul_one _] at h9
 exact ⟨gW, cs, cw, Ai, ci, rfl, (blk_cell hcs i.toNat).symm.trans h9, h.below, h.box, h.lst, Kd.R_mono (Kd.R_bound h.wds) (fun k hk => hk.2.2.1), hcs, Kd.R_mono (Kd.R_bound hR) (fun k hk => hk.2.2.1), Nat.le_refl _, blk_lt h.box, hlt, h.below.size⟩
theorem WY.last {w : World} {G Z : Nat} {at_ met0 : Int} {W : World} {vL vW : Value} {list : List Int} {words : List (List Int)} {row : List Int} (h : WY w G Z at_ met0 W vL list vW (words ++ [row])) :
  ∃ gq cq Ai ci, vW = .slice (some ⟨gq, 0, none⟩) (words.length + 1) cq ∧ W.cell? ⟨gq, words.length, none⟩ = some (.slice Ai row.length ci) ∧ Kd.R (Kd.int .i64) 3 W w.heap.size (fun _ => True) (.slice Ai row.length ci) row := by
 have hl : (words ++ [row]).length = words.length + 1 := by simp
 obtain ⟨gW, cw, e, _, hlt, cs, hcs⟩ := Kd.R_form h.wds (by omega)
 have hwds := h.wds
 rw [hl] at e
 subst e
 obtain ⟨c, hc1, ⟨v, rfl, hR⟩, hc3, _⟩ := Kd.R_elem hwds ([] : List Int) ((words.length : Nat) : Int) (Int.natCast_nonneg _) (Int.ofNat_lt.2 (Nat.lt_succ_self _))
 have er : (words ++ [row]).getD ((words.length : Nat) : Int).toNat [] = row := by simp
 rw [er] at hR
 obtain ⟨Ai, ci, rfl⟩ := Kd.R_slice hR
 have h9 := hc3 0 _ rfl
 rw [show ((words.length : Nat) : Int).toNat * (Kd.slice 3 (Kd.int .i64)).sz + 0 = words.length from by rw [Int.toNat_natCast]; exact Nat.mul_one _] at h9
 exact ⟨_, cw, Ai, ci, rfl, h9, Kd.R_mono hR (fun _ _ => trivial)⟩
theorem lit_u8 (W : World) (t : Int) : Kd.R (Kd.int .u8) 5 (W.alloc (.cells #[.int .u8 t] 5)) W.heap.size (fun _ => True) (.slice (some ⟨W.heap.size, 0, none⟩) 1 1) [t] := by
 refine ⟨fun _ _ => trivial, [.int .u8 t], ?_, ?_⟩
 ·have h2 := World.ownsRow_lit (base := W.heap.size) (e := 5) (size := 1) W #[.int .u8 t] 1 (Nat.le_refl _) (by decide) (by simp [Value.oneCell'])
  have e : (Kd.int .u8).sz = 1 := rfl
  rw [e]
  simpa using h2
 ·refine ⟨rfl, fun j p hj => ?_⟩
  match j, hj with
  | 0, hj =>
   injection hj with hj
   subst hj
   rfl
theorem lit_nil (W : World) : Kd.R (Kd.int .i64) 3 (W.alloc (.cells #[] 3)) W.heap.size (fun _ => True) (.slice (some ⟨W.heap.size, 0, none⟩) 0 0) [] := by
 refine ⟨fun _ _ => trivial, [], ?_, ?_⟩
 ·have h2 := World.ownsRow_lit (base := W.heap.size) (e := 3) (size := 1) W #[] 0 (Nat.le_refl _) (by decide) (by decide)
  have e : (Kd.int .i64).sz = 1 := rfl
  rw [e]
  simpa using h2
 ·exact ⟨rfl, fun j p hj => by simp at hj⟩
theorem lit_rows (W : World) {v : Value} {base : Nat} (hb : base ≤ W.heap.size) (h : Kd.R (Kd.int .i64) 3 W base (fun _ => True) v []) : Kd.R (Kd.slice 3 (Kd.int .i64)) 30 (W.alloc (.cells #[v] 30)) base (fun _ => True) (.slice (some ⟨W.heap.size, 0, none⟩) 1 1) [[]] := by
 have hv := (Kd.R_val h).2
 refine ⟨fun _ _ => trivial, [v], ?_, ?_⟩
 ·have h2 := World.ownsRow_lit (base := base) (e := 30) (size := 1) W #[v] 1 hb (by decide) (by simp [hv])
  have e : (Kd.slice 3 (Kd.int .i64)).sz = 1 := rfl
  rw [e]
  simpa using h2
 ·refine ⟨rfl, fun j p hj => ?_⟩
  match j, hj with
  | 0, hj =>
   injection hj with hj
   subst hj
   refine ⟨v, rfl, Kd.R_mono (ok' := _) (Kd.R_alloc (Kd.R_bound h) _) fun k hk => ?_⟩
   refine ⟨trivial, fun e => ?_⟩
   have e2 : k = W.heap.size := Option.some.inj e
   have h9 := hk.2.2.1
   rw [e2] at h9
   exact absurd h9 (Nat.lt_irrefl _)
theorem way_start (w : World) (Z : Nat) (at_ met0 : Int) : WY w w.heap.size Z at_ met0 ((((w.alloc (.cells #[.pointer (some ⟨Z, 0, none⟩), .int .u8 at_, .int .u16 met0] 81)).alloc (.cells #[.int .u8 at_] 5)).alloc (.cells #[] 3)).alloc (.cells #[.slice (some ⟨w.heap.size + 1 + 1, 0, none⟩) 0 0] 30)) (.slice (some ⟨w.heap.size + 1, 0, none⟩) 1 1) [at_] (.slice (some ⟨w.heap.size + 1 + 1 + 1, 0, none⟩) 1 1) [[]] := by
 have s1 : ∀ (W : World) (o : Obj), (W.alloc o).heap.size = W.heap.size + 1 := fun W o => World.size_alloc W o
 have h1 := lit_u8 (w.alloc (.cells #[.pointer (some ⟨Z, 0, none⟩), .int .u8 at_, .int .u16 met0] 81)) at_
 have h2 := lit_nil ((w.alloc (.cells #[.pointer (some ⟨Z, 0, none⟩), .int .u8 at_, .int .u16 met0] 81)).alloc (.cells #[.int .u8 at_] 5))
 have h3 := lit_rows (base := w.heap.size) (((w.alloc (.cells #[.pointer (some ⟨Z, 0, none⟩), .int .u8 at_, .int .u16 met0] 81)).alloc (.cells #[.int .u8 at_] 5)).alloc (.cells #[] 3)) (by rw [s1, s1, s1]; omega) (Kd.R_lower h2 (by rw [s1, s1]; omega))
 simp only [s1] at h1 h2 h3
 refine ⟨below_alloc (below_alloc (below_alloc (below_alloc (Below.refl _ _) _) _) _) _, blk_alloc (blk_alloc (blk_alloc (blk_new _ _) _) _) _, Kd.R_lower (Kd.R_alloc (Kd.R_alloc h1 _) _) (by omega), h3⟩
def maze_way.T12 : Bool × List (List Nat × List Nat) := (true, [([], []), ([], []), ([1], [1]), ([0, 2], [0, 2]), ([], []), ([], []), ([], []), ([5, 6], [5, 6]), ([7], [7]), ([8, 3], [8]), ([], []), ([10], [10]), ([9, 11, 9], [9, 11]), ([12], [12]), ([4, 13, 12], [4, 13]), ([3, 14, 0, 1, 2, 3], [0, 3]), ([14, 15, 0, 1, 2, 3, 4, 5, 6, 7, 8, 9, 10, 11, 12, 13, 14, 15], [4, 5, 14])])
def maze_way.B12 : List Nat := [0, 0, 2, 7, 0, 0, 0, 96, 224, 495, 0, 1024, 4079, 8175, 16383, 32767, 65535]
theorem maze_way.tab12 : rtab .any (opsOf Try.f46 12) = maze_way.T12 := by kernel_rfl
theorem maze_way.bits12 : waitsOk maze_way.T12.2 maze_way.B12 = true := by kernel_rfl
set_option maxHeartbeats 1000000 in
set_option maxRecDepth 100000 in
theorem way_calls (k : Nat) (n d : Int) (rs : List Int) (at_ met0 : Int) (r : List Int) (w : World) (Z : Nat) (hZ : SmB w Z n d rs) (h : maze_way.f k d rs at_ met0 = some r) :
  Calls Try.prog 46 #[.agg #[.pointer (some ⟨Z, 0, none⟩), .int .u8 at_, .int .u16 met0]] w fun e w' => ∃ v, e = .returned v ∧ Kd.R (Kd.int .i64) 3 w' w.heap.size (fun _ => True) v r ∧ Below w.heap.size w w' := by
 have HZ := Aside0.mk hZ
 unfold maze_way.f at h
 by_cases d0 : 0 ≤ at_
 ·rw [if_pos d0] at h
  have H' := Aside0.mk h
  have p0 := eq_true d0
  have hbx := below_alloc (Below.refl w.heap.size w) (.cells #[.pointer (some ⟨Z, 0, none⟩), .int .u8 at_, .int .u16 met0] 81)
  have HG := Aside0.mk (show WaB (w.alloc (.cells #[.pointer (some ⟨Z, 0, none⟩), .int .u8 at_, .int .u16 met0] 81)) w.heap.size Z at_ met0 from blk_new _ _)
  have HBX := Aside0.mk hbx
  clear h hZ d0 hbx
  go_enter Try.func46, Try.ntmps46
  go_wp2_with fail
  have HY := Aside0.mk (way_start w Z at_ met0)
  generalize (Value.slice (some ⟨w.heap.size + 1, 0, none⟩) 1 1) = vL0 at HY ⊢
  generalize (Value.slice (some ⟨w.heap.size + 1 + 1 + 1, 0, none⟩) 1 1) = vW0 at HY ⊢
  generalize ((((w.alloc (.cells #[.pointer (some ⟨Z, 0, none⟩), .int .u8 at_, .int .u16 met0] 81)).alloc (.cells #[.int .u8 at_] 5)).alloc (.cells #[] 3)).alloc (.cells #[.slice (some ⟨w.heap.size + 1 + 1, 0, none⟩) 0 0] 30)) = wz at HY ⊢
  clear HG HBX
  go_loopg [3, 4, 5, 6] k (fun kq v3 v4 v5 v6 w' => ∃ (i met : Int) (list : List Int) (words : List (List Int)), v5 = .int .u16 met ∧ v6 = .int .i64 i ∧ Aside0 (maze_way.l0 kq d rs met0 list words met i = some r) ∧ Aside0 (kq ≤ k) ∧ Aside0 (WY w w.heap.size Z at_ met0 w' v3 list v4 words))
  case atStart => exact ⟨0, setU at_, [at_], [[]], rfl, rfl, H', ⟨Nat.le_refl _⟩, HY⟩
  case round =>
   clear H' HY
   obtain ⟨i, met, list, words, rfl, rfl, HA, HK, HY⟩ := hrel
   cases gk with
   | zero => exact absurd HA.out (by simp [maze_way.l0])
   | succ k1 =>
    have H := HA.out
    clear HA
    simp only [maze_way.l0] at H
    obtain ⟨A3, c3, e3⟩ := Kd.R_slice HY.out.lst
    subst e3
    have HZr : Aside0 (SmB wr Z n d rs) := ⟨⟨blk_below HZ.out.1 HY.out.below, HZ.out.2⟩⟩
    have hcd := HZr.out.d
    have hg0 : wr.cell? ⟨w.heap.size, 0, none⟩ = some (.pointer (some ⟨Z, 0, none⟩)) := (blk_cell HY.out.box 0).trans rfl
    by_cases d1 : i < (list.length : Int)
    ·rw [if_pos d1] at H
     have H' := Aside0.mk H
     clear H
     have d1b := decide_eq_true d1
     clear d1
     go_wp2_with fail
     go_loopg [3, 4, 5, 28] k1 (fun kq v3 v4 v5 v28 w' => ∃ (x met : Int) (list : List Int) (words : List (List Int)), v5 = .int .u16 met ∧ v28 = .int .i64 x ∧ Aside0 (maze_way.l1 kq d rs met0 list words met i x = some r) ∧ Aside0 (kq ≤ k1) ∧ Aside0 (WY w w.heap.size Z at_ met0 w' v3 list v4 words))
     case atStart => exact ⟨0, met, list, words, rfl, rfl, H', ⟨Nat.le_refl _⟩, HY⟩
     case round =>
      clear H' HY HZr hcd hg0 d1b
      rename World => wi_
      obtain ⟨x, met2, list2, words2, rfl, rfl, HA, HK2, HY⟩ := hrel
      cases gk with
      | zero => exact absurd HA.out (by simp [maze_way.l1])
      | succ k2 =>
       have H := HA.out
       clear HA
       simp only [maze_way.l1] at H
       by_cases d2 : x < d
       ·rw [if_pos d2] at H
        have d2b := decide_eq_true d2
        by_cases d3 : 0 ≤ i
        ·rw [if_pos d3] at H
         by_cases d4 : i < (list2.length : Int)
         ·rw [if_pos d4] at H
          obtain ⟨idx, hidx⟩ : ∃ z, portU (rd list2 i) d x = z := ⟨_, rfl⟩
          rw [hidx] at H
          unfold portU at hidx
          by_cases d5 : 0 ≤ idx
          ·rw [if_pos d5] at H
           by_cases d6 : idx < 12
           ·rw [if_pos d6] at H
            obtain ⟨ad, c, e4, hx⟩ : ∃ ad c, u3 = Value.slice (some ad) list2.length c ∧ wi_.cell? (ad.add i.toNat) = some (.int .u8 (rd list2 i)) := by
             obtain ⟨A, c, e, _, hC⟩ := Kd.R_reads HY.out.lst
             obtain ⟨ad, cs, e2, _, hK, hc0⟩ := Kd.C_get hC 0 i d3 d4
             subst e2
             have hK2 : cs = [.int .u8 (rd list2 i)] := hK
             subst hK2
             exact ⟨ad, c, e, by have h9 := hc0 0 _ rfl; rw [show (Kd.int .u8).sz = 1 from rfl] at h9; simpa using h9⟩
            subst e4
            have HZr : Aside0 (SmB wi_ Z n d rs) := ⟨⟨blk_below HZ.out.1 HY.out.below, HZ.out.2⟩⟩
            have hcd := HZr.out.d
            have hg0 : wi_.cell? ⟨w.heap.size, 0, none⟩ = some (.pointer (some ⟨Z, 0, none⟩)) := (blk_cell HY.out.box 0).trans rfl
            have hci := HZr.out.at_ idx d5 d6
            obtain ⟨tt, hto⟩ : ∃ z, rd rs idx = z := ⟨_, rfl⟩
            rw [hto] at hci H
            by_cases d7 : 0 ≤ tt
            ·rw [if_pos d7] at H
             have D3 := Aside0.mk d3
             have q3 := eq_true d3
             have q4 := eq_true d4
             have q5 := eq_true d5
             have q6 := eq_true d6
             have q7 := eq_true d7
             clear d2 d3 d4 d5 d6 d7 hto HZr
             by_cases d8 : oneU met2 tt = true
             ·rw [if_pos d8] at H
              have H' := Aside0.mk H
              have d8b : (Go.bits .and .u16 (met2 / 2 ^ min tt.toNat 16) 1 == 1) = true := d8
              clear H d8
              go_wp2_with fail
              go_quiet (fail)
              have HYq := Aside0.mk (HY.out.next (pw_below_drewN (Below.refl wi_.heap.size wi_) nq))
              go_wp2_with fail
              go_roundg k2
              case measure => omega
              case rel => exact ⟨_, _, _, _, rfl, rfl, H', ⟨by have := HK2.out; omega⟩, HYq⟩
             ·rw [if_neg d8] at H
              have d8b : (Go.bits .and .u16 (met2 / 2 ^ min tt.toNat 16) 1 == 1) = false := by simpa [oneU] using d8
              clear d8
              by_cases d9 : i < (words2.length : Int)
              ·rw [if_pos d9] at H
               by_cases d10 : list2.length < 1000000
               ·rw [if_pos d10] at H
                by_cases d11 : words2.length < 1000000
                ·rw [if_pos d11] at H
                 by_cases d12 : (rd_L1 words2 i).length < 1000000
                 ·rw [if_pos d12] at H
                  have D9 := Aside0.mk d10
                  have D10 := Aside0.mk d11
                  have HCL := Aside0.mk d12
                  have HI := Aside0.mk d9
                  have q9 := eq_true d9
                  have H' := Aside0.mk H
                  clear H d9 d10 d11 d12
                  go_wp2_with fail
                  go_quiet (fail)
                  have HYq := Aside0.mk (HY.out.next (pw_below_drewN (Below.refl wi_.heap.size wi_) nq))
                  clear HY hcd hg0 hci hx
                  generalize wi_.drewN nq = wn0 at HYq ⊢
                  go_wp2_with fail
                  have HYd := Aside0.mk (HYq.out.next (below_drew (Below.refl wn0.heap.size wn0)))
                  clear HYq
                  obtain ⟨gW, cs, cw, Ai, ci, e5, hcsi, hR⟩ := HYd.out.enter i D3.out HI.out
                  subst e5
                  generalize rd_L1 words2 i = wi at hR hcsi HCL H'
                  have HR := Aside0.mk hR
                  have HCS := Aside0.mk hcsi
                  have HCF : Aside0 (slices_Clone_int_int.f wi = some wi) := ⟨by unfold slices_Clone_int_int.f; rw [if_pos (by have := HCL.out; omega)]⟩
                  refine start_ (n := 17) (S := fun w' : World => w'.cell? ⟨gW, i.toNat, none⟩ = some (.slice Ai wi.length ci)) (ds := [14]) #[false, false, false, false, false, false, false, false, false, false, false, false, false, false, false, false, false] (by kernel_rfl) rfl rfl (hR.held hcsi) (fun hHeld => ?_); refine with_tabW maze_way.tab12 maze_way.bits12 (fun HT_ HW_ => ?_)
                  clear hR hcsi HYd
                  generalize wn0.drew.heap.size = N0 at HR
                  generalize wn0.drew = wd at HR hHeld ⊢
                  refine pure_ (i := 0) (N := some 59) (v := ?_) (a' := ?_) #[true, false, false, false, false, false, false, false, false, false, false, false, false, false, false, false, false] rfl rfl (any_of HT_.out (by kernel_rfl)) (fun _ _ _ h => h) (Or.inl ⟨by rfl, ?_⟩) ?_ ?_
                  rotate_left
                  ·intro w'
                   go_simp
                   (try with_reducible rfl)
                  rotate_left
                  ·simp only [Act.put, List.setIfInBounds_toArray, List.set_cons_zero, List.set_cons_succ, i64_w, i32_w]
                   rfl
                  refine pure_ (i := 1) (N := some 60) (v := ?_) (a' := ?_) #[true, true, false, false, false, false, false, false, false, false, false, false, false, false, false, false, false] rfl rfl (any_of HT_.out (by kernel_rfl)) (fun _ _ _ h => h) (Or.inl ⟨by rfl, ?_⟩) ?_ ?_
                  rotate_left
                  ·intro w'
                   go_simp
                   (try with_reducible rfl)
                  rotate_left
                  ·simp only [Act.put, List.setIfInBounds_toArray, List.set_cons_zero, List.set_cons_succ, i64_w, i32_w]
                   rfl
                  refine pure_ (i := 4) (N := some 63) (v := ?_) (a' := ?_) #[true, true, false, false, true, false, false, false, false, false, false, false, false, false, false, false, false] rfl rfl (any_of HT_.out (by kernel_rfl)) (fun _ _ _ h => h) (Or.inl ⟨by rfl, ?_⟩) ?_ ?_
                  rotate_left
                  ·intro w'
                   go_simp
                   (try with_reducible rfl)
                  rotate_left
                  ·simp only [Act.put, List.setIfInBounds_toArray, List.set_cons_zero, List.set_cons_succ, i64_w, i32_w]
                   rfl
                  refine pure_ (i := 5) (N := some 64) (v := ?_) (a' := ?_) #[true, true, false, false, true, true, false, false, false, false, false, false, false, false, false, false, false] rfl rfl (any_of HT_.out (by kernel_rfl)) (fun _ _ _ h => h) (Or.inl ⟨by rfl, ?_⟩) ?_ ?_
                  rotate_left
                  ·intro w'
                   go_simp
                   (try with_reducible rfl)
                  rotate_left
                  ·simp only [Act.put, List.setIfInBounds_toArray, List.set_cons_zero, List.set_cons_succ, i64_w, i32_w]
                   rfl
                  refine pure_ (i := 6) (N := some 65) (v := ?_) (a' := ?_) #[true, true, false, false, true, true, true, false, false, false, false, false, false, false, false, false, false] rfl rfl (any_of HT_.out (by kernel_rfl)) (fun _ _ _ h => h) (Or.inl ⟨by rfl, ?_⟩) ?_ ?_
                  rotate_left
                  ·intro w'
                   go_simp
                   (try with_reducible rfl)
                  rotate_left
                  ·simp only [Act.put, List.setIfInBounds_toArray, List.set_cons_zero, List.set_cons_succ, i64_w, i32_w]
                   rfl
                  refine pure_ (i := 7) (N := some 66) (v := ?_) (a' := ?_) #[true, true, false, false, true, true, true, true, false, false, false, false, false, false, false, false, false] rfl rfl (any_of HT_.out (by kernel_rfl)) (fun _ _ _ h => h) (Or.inl ⟨by rfl, ?_⟩) ?_ ?_
                  rotate_left
                  ·intro w'
                   go_simp
                   (try with_reducible rfl)
                  rotate_left
                  ·simp only [Act.put, List.setIfInBounds_toArray, List.set_cons_zero, List.set_cons_succ, i64_w, i32_w]
                   rfl
                  refine pure_ (i := 10) (N := some 69) (v := ?_) (a' := ?_) #[true, true, false, false, true, true, true, true, false, false, true, false, false, false, false, false, false] rfl rfl (any_of HT_.out (by kernel_rfl)) (fun _ _ _ h => h) (Or.inl ⟨by rfl, ?_⟩) ?_ ?_
                  rotate_left
                  ·intro w'
                   go_simp
                   (try with_reducible rfl)
                  rotate_left
                  ·simp only [Act.put, List.setIfInBounds_toArray, List.set_cons_zero, List.set_cons_succ, i64_w, i32_w]
                   rfl
                  refine take_ (i := 8) (N := some 67) (v := ?_) (a' := ?_) #[true, true, false, false, true, true, true, true, true, false, true, false, false, false, false, false, false] rfl rfl (take_ofW HT_.out HW_.out (by kernel_rfl)) (fun _ _ _ h => h) (Or.inl ⟨by rfl, ?_⟩) hHeld ?_ ?_
                  rotate_left
                  ·intro w' s0
                   go_simp
                   (try with_reducible rfl)
                  rotate_left
                  ·simp only [Act.put, List.setIfInBounds_toArray, List.set_cons_zero, List.set_cons_succ, i64_w, i32_w]
                   rfl
                  refine two_ (i := 2) (j := 11) (Ni := some 61) (Nj := some 70) #[true, true, true, false, true, true, true, true, true, false, true, false, false, false, false, false, false] #[true, true, false, false, true, true, true, true, true, false, true, true, false, false, false, false, false] rfl rfl rfl rfl (two_of HT_.out (by kernel_rfl)) (by decide) (by decide) (fun K hK => ?_) (fun K hK => ?_)
                  ·refine value_ (v := .slice (some ⟨wd.heap.size, 0, none⟩) 1 1) (w1 := wd.alloc (.cells #[.int .u8 tt] 5)) (by rfl) rfl (by first | (go_simp; done) | (go_simp; rfl)) ?_
                   have hb_ := below_alloc (Below.refl _ wd) (.cells #[.int .u8 tt] 5)
                   have HL1 := Aside0.mk (blk_new wd (.cells #[.int .u8 tt] 5))
                   have HR := Aside0.mk (HR.out.next hb_)
                   clear hb_
                   generalize wd.heap.size = b1 at HL1 ⊢
                   generalize wd.alloc (.cells #[.int .u8 tt] 5) = wda at HL1 HR ⊢
                   refine hK.out _ _ (HR.out.held HCS.out) (fun hHeld => ?_)
                   clear hK K
                   refine norm_ (a' := ?_) ?_ ?_
                   rotate_left
                   ·show Act.put _ (some 61) _ = _
                    simp only [Act.put, List.setIfInBounds_toArray, List.set_cons_zero, List.set_cons_succ, i64_w, i32_w]
                    rfl
                   refine two_ (i := 3) (j := 11) (Ni := some 62) (Nj := some 70) #[true, true, true, true, true, true, true, true, true, false, true, false, false, false, false, false, false] #[true, true, true, false, true, true, true, true, true, false, true, true, false, false, false, false, false] rfl rfl rfl rfl (two_of HT_.out (by kernel_rfl)) (by decide) (by decide) (fun K hK => ?_) (fun K hK => ?_)
                   ·obtain ⟨vn, wn, hrn, hRn, hgn, hatn⟩ := append_run (P := Try.prog) (Kd.int .u8) w.heap.size 89 5 89 (.int .u8 0) 1 Try.underlying89 info_u8 rfl (by decide) (by decide) (.slice (some ad) list2.length c) list2 tt [.int .u8 tt] (fun _ => True) (fun _ => False) ⟨b1, 0, none⟩ 1 HR.out.lst rfl (fun _ h => h.elim) (fun _ _ => trivial) (lit_cells HL1.out) HR.out.below.size (by have := D9.out; omega)
                    refine value_ (v := vn) (w1 := wn) (by rfl) rfl (run_append_op rfl (by rfl) (by rfl) hrn) ?_
                    clear hrn
                    have HR := Aside0.mk (HR.out.listTo hgn hRn)
                    clear hgn hRn hatn HL1
                    refine hK.out _ _ (HR.out.held HCS.out) (fun hHeld => ?_)
                    clear hK K
                    refine norm_ (a' := ?_) ?_ ?_
                    rotate_left
                    ·show Act.put _ (some 62) _ = _
                     simp only [Act.put, List.setIfInBounds_toArray, List.set_cons_zero, List.set_cons_succ, i64_w, i32_w]
                     rfl
                    refine two_ (i := 9) (j := 11) (Ni := some 68) (Nj := some 70) #[true, true, true, true, true, true, true, true, true, true, true, false, false, false, false, false, false] #[true, true, true, true, true, true, true, true, true, false, true, true, false, false, false, false, false] rfl rfl rfl rfl (two_of HT_.out (by kernel_rfl)) (by decide) (by decide) (fun K hK => ?_) (fun K hK => ?_)
                    ·refine goes_ Try.func58 (by kernel_rfl) rfl #[.slice Ai wi.length ci] (by rfl) rfl rfl (by (try simp only [List.map_toArray, List.map_cons, List.map_nil]); first | done | rfl) ?_
                     refine (slices_Clone_int_int.calls Ai ci wi wi wn (Kd.R_reads' HR.out.inn).2.2 (Kd.R_reads' HR.out.inn).2.1 HCF.out).mono ?_
                     rintro e w9 ⟨v68, rfl, hR9, hb9⟩
                     refine ⟨_, rfl, ?_⟩
                     have HC := Aside0.mk (Kd.R_lower hR9 HR.out.n0)
                     have HR := Aside0.mk (HR.out.next hb9)
                     clear hR9 hb9
                     refine hK.out _ _ (HR.out.held HCS.out) (fun hHeld => ?_)
                     clear hK K
                     refine norm_ (a' := ?_) ?_ ?_
                     rotate_left
                     ·show Act.put _ (some 68) _ = _
                      simp only [Act.put, List.setIfInBounds_toArray, List.set_cons_zero, List.set_cons_succ, i64_w, i32_w]
                      rfl
                     refine one_ (i := 11) (N := some 70) #[true, true, true, true, true, true, true, true, true, true, true, true, false, false, false, false, false] rfl rfl (one_of HT_.out (by kernel_rfl)) (by decide) (fun K hK => ?_)
                     refine value_ (v := .slice (some ⟨w9.heap.size, 0, none⟩) 1 1) (w1 := w9.alloc (.cells #[.int .i64 x] 3)) (by rfl) rfl (by first | (go_simp; done) | (go_simp; rfl)) ?_
                     have hb_ := below_alloc (Below.refl _ w9) (.cells #[.int .i64 x] 3)
                     have HL2 := Aside0.mk (blk_new w9 (.cells #[.int .i64 x] 3))
                     have HC := Aside0.mk (Kd.R_below HC.out hb_)
                     have HR := Aside0.mk (HR.out.next hb_)
                     clear hb_
                     generalize w9.heap.size = b2 at HL2 ⊢
                     generalize w9.alloc (.cells #[.int .i64 x] 3) = w9b at HC HL2 HR ⊢
                     refine hK.out _ _ (HR.out.held HCS.out) (fun hHeld => ?_)
                     clear hK K
                     refine norm_ (a' := ?_) ?_ ?_
                     rotate_left
                     ·show Act.put _ (some 70) _ = _
                      simp only [Act.put, List.setIfInBounds_toArray, List.set_cons_zero, List.set_cons_succ, i64_w, i32_w]
                      rfl
                     refine one_ (i := 12) (N := some 71) #[true, true, true, true, true, true, true, true, true, true, true, true, true, false, false, false, false] rfl rfl (one_of HT_.out (by kernel_rfl)) (by decide) (fun K hK => ?_)
                     obtain ⟨vm, wm, hrm, hRm, hgm, hatm⟩ := append_run (P := Try.prog) (Kd.int .i64) N0 30 3 30 (.int .i64 0) 8 Try.underlying30 info3 rfl (by decide) (by decide) v68 wi x [.int .i64 x] (fun _ => True) (fun _ => False) ⟨b2, 0, none⟩ 1 HC.out rfl (fun _ h => h.elim) (fun _ _ => trivial) (lit_cells HL2.out) HR.out.n0 (by have := HCL.out; omega)
                     refine value_ (v := vm) (w1 := wm) (by rfl) rfl (run_append_op rfl (by rfl) (by rfl) hrm) ?_
                     clear hrm
                     have HR := Aside0.mk (HR.out.other hgm (Kd.R_base HC.out) (Kd.R_typed HC.out))
                     have HC := Aside0.mk hRm
                     clear hgm hRm hatm HL2
                     refine hK.out _ _ (HR.out.held HCS.out) (fun hHeld => ?_)
                     clear hK K
                     refine norm_ (a' := ?_) ?_ ?_
                     rotate_left
                     ·show Act.put _ (some 71) _ = _
                      simp only [Act.put, List.setIfInBounds_toArray, List.set_cons_zero, List.set_cons_succ, i64_w, i32_w]
                      rfl
                     refine one_ (i := 13) (N := some 72) #[true, true, true, true, true, true, true, true, true, true, true, true, true, true, false, false, false] rfl rfl (one_of HT_.out (by kernel_rfl)) (by decide) (fun K hK => ?_)
                     obtain ⟨Am, cm, em⟩ := Kd.R_slice HC.out
                     subst em
                     refine value_ (v := .slice (some ⟨wm.heap.size, 0, none⟩) 1 1) (w1 := wm.alloc (.cells #[.slice Am (wi ++ [x]).length cm] 30)) (by rfl) rfl (by first | (go_simp; done) | (go_simp; rfl)) ?_
                     have hb_ := below_alloc (Below.refl _ wm) (.cells #[.slice Am (wi ++ [x]).length cm] 30)
                     have HL3 := Aside0.mk (blk_new wm (.cells #[.slice Am (wi ++ [x]).length cm] 30))
                     have HC := Aside0.mk (Kd.R_below HC.out hb_)
                     have HR := Aside0.mk (HR.out.next hb_)
                     clear hb_
                     generalize wm.heap.size = b3 at HL3 ⊢
                     generalize wm.alloc (.cells #[.slice Am (wi ++ [x]).length cm] 30) = wp at HL3 HC HR ⊢
                     refine hK.out _ _ (HR.out.held HCS.out) (fun hHeld => ?_)
                     clear hK K
                     refine norm_ (a' := ?_) ?_ ?_
                     rotate_left
                     ·show Act.put _ (some 72) _ = _
                      simp only [Act.put, List.setIfInBounds_toArray, List.set_cons_zero, List.set_cons_succ, i64_w, i32_w]
                      rfl
                     refine last_ (i := 14) (N := some 73) #[true, true, true, true, true, true, true, true, true, true, true, true, true, true, true, false, false] rfl rfl (one_of HT_.out (by kernel_rfl)) (by decide) (fun K hK => ?_)
                     obtain ⟨vq, wq, hrq, hRq, hgq, hatq⟩ := append_run (P := Try.prog) (Kd.slice 3 (Kd.int .i64)) w.heap.size 86 30 86 (.slice none 0 0) 24 Try.underlying86 info_ints rfl (by decide) (by decide) (.slice (some ⟨gW, 0, none⟩) words2.length cw) words2 (wi ++ [x]) [.slice Am (wi ++ [x]).length cm] (fun _ => True) (fun k => some k ≠ (Value.slice (some ⟨gW, 0, none⟩) words2.length cw).ownBlock) ⟨b3, 0, none⟩ 1 HR.out.wdsT ⟨_, rfl, HR.out.apart HC.out⟩ (fun _ h => ⟨trivial, h⟩) (fun _ _ => trivial) (lit_cells HL3.out) HR.out.below.size (by have := D10.out; omega)
                     refine value_ (v := vq) (w1 := wq) (by rfl) rfl (run_append_op rfl (by rfl) (by rfl) hrq) ?_
                     clear hrq
                     have HY := Aside0.mk (HR.out.wordsTo hgq hRq)
                     clear hgq hRq hatq HL3 HC HR
                     refine hK.out _ _ ?_
                     clear hK K
                     refine norm_ (a' := ?_) ?_ ?_
                     rotate_left
                     ·show Act.put _ (some 73) _ = _
                      simp only [Act.put, List.setIfInBounds_toArray, List.set_cons_zero, List.set_cons_succ, i64_w, i32_w]
                      rfl
                     refine pure_ (i := 15) (N := some 3) (v := ?_) (a' := ?_) #[true, true, true, true, true, true, true, true, true, true, true, true, true, true, true, true, false] rfl rfl (any_of HT_.out (by kernel_rfl)) (fun _ _ _ h => h) (Or.inl ⟨by rfl, ?_⟩) ?_ ?_
                     rotate_left
                     ·intro w'
                      go_simp
                      (try with_reducible rfl)
                     rotate_left
                     ·simp only [Act.put, List.setIfInBounds_toArray, List.set_cons_zero, List.set_cons_succ, i64_w, i32_w]
                      rfl
                     refine pure_ (i := 16) (N := some 4) (v := ?_) (a' := ?_) #[true, true, true, true, true, true, true, true, true, true, true, true, true, true, true, true, true] rfl rfl (any_of HT_.out (by kernel_rfl)) (fun _ _ _ h => h) (Or.inl ⟨by rfl, ?_⟩) ?_ ?_
                     rotate_left
                     ·intro w'
                      go_simp
                      (try with_reducible rfl)
                     rotate_left
                     ·simp only [Act.put, List.setIfInBounds_toArray, List.set_cons_zero, List.set_cons_succ, i64_w, i32_w]
                      rfl
                     refine done_ (done_of HT_.out (by kernel_rfl)) ?_
                     clear HT_ HW_
                     have hg2 : wq.cell? ⟨w.heap.size, 2, none⟩ = some (.int .u16 met0) := (blk_cell HY.out.box 2).trans rfl
                     by_cases d13 : hasU met0 tt = true
                     ·have d13b : (Go.bits .and .u16 (met0 / 2 ^ min tt.toNat 16) 1 == 0) = true := d13
                      have H2 := H'.out
                      rw [if_pos d13] at H2
                      obtain rfl := Option.some.inj H2
                      obtain ⟨gq, cq, Al, cl, e6, hcl, hRl⟩ := HY.out.last
                      subst e6
                      rw [show (wi ++ [x]).length = wi.length + 1 by simp] at hRl hcl
                      have HRL := Aside0.mk hRl
                      have w1 : wrap64 (((words2.length + 1 : Nat) : Int) - 1) = ((words2.length : Nat) : Int) := by have := D10.out; unfold wrap64; omega
                      have w2 : wrap64 ((words2.length : Int) + 1 - 1) = ((words2.length : Nat) : Int) := by have := D10.out; unfold wrap64; omega
                      have w3 : wrap64 ((words2.length : Nat) : Int) = ((words2.length : Nat) : Int) := by have := D10.out; unfold wrap64; omega
                      have z1 : ((0 : Int) ≤ ((words2.length : Nat) : Int)) = True := eq_true (Int.natCast_nonneg _)
                      have z2 : (((words2.length : Nat) : Int) < ((words2.length + 1 : Nat) : Int)) = True := eq_true (by omega)
                      clear H2 H' d13 hRl
                      go_wp2_with fail
                      go_ret
                      exact ⟨_, rfl, HRL.out, HY.out.below⟩
                     ·have d13b : (Go.bits .and .u16 (met0 / 2 ^ min tt.toNat 16) 1 == 0) = false := by simpa [hasU] using d13
                      have H2 := H'.out
                      rw [if_neg d13] at H2
                      have H3 := Aside0.mk H2
                      clear H2 H' d13
                      go_wp2_with fail
                      go_roundg k2
                      case measure => omega
                      case rel => exact ⟨_, _, _, _, rfl, rfl, H3, ⟨by have := HK2.out; omega⟩, HY⟩
                    ·refine value_ (v := .slice (some ⟨wn.heap.size, 0, none⟩) 1 1) (w1 := wn.alloc (.cells #[.int .i64 x] 3)) (by rfl) rfl (by first | (go_simp; done) | (go_simp; rfl)) ?_
                     have hb_ := below_alloc (Below.refl _ wn) (.cells #[.int .i64 x] 3)
                     have HL2 := Aside0.mk (blk_new wn (.cells #[.int .i64 x] 3))
                     have HR := Aside0.mk (HR.out.next hb_)
                     clear hb_
                     generalize wn.heap.size = b2 at HL2 ⊢
                     generalize wn.alloc (.cells #[.int .i64 x] 3) = wnb at HL2 HR ⊢
                     refine hK.out _ _ (HR.out.held HCS.out) (fun hHeld => ?_)
                     clear hK K
                     refine norm_ (a' := ?_) ?_ ?_
                     rotate_left
                     ·show Act.put _ (some 70) _ = _
                      simp only [Act.put, List.setIfInBounds_toArray, List.set_cons_zero, List.set_cons_succ, i64_w, i32_w]
                      rfl
                     refine one_ (i := 9) (N := some 68) #[true, true, true, true, true, true, true, true, true, true, true, true, false, false, false, false, false] rfl rfl (one_of HT_.out (by kernel_rfl)) (by decide) (fun K hK => ?_)
                     refine goes_ Try.func58 (by kernel_rfl) rfl #[.slice Ai wi.length ci] (by rfl) rfl rfl (by (try simp only [List.map_toArray, List.map_cons, List.map_nil]); first | done | rfl) ?_
                     refine (slices_Clone_int_int.calls Ai ci wi wi wnb (Kd.R_reads' HR.out.inn).2.2 (Kd.R_reads' HR.out.inn).2.1 HCF.out).mono ?_
                     rintro e w9 ⟨v68, rfl, hR9, hb9⟩
                     refine ⟨_, rfl, ?_⟩
                     have HC := Aside0.mk (Kd.R_lower hR9 HR.out.n0)
                     have HL2 := Aside0.mk (blk_below HL2.out hb9)
                     have HR := Aside0.mk (HR.out.next hb9)
                     clear hR9 hb9
                     refine hK.out _ _ (HR.out.held HCS.out) (fun hHeld => ?_)
                     clear hK K
                     refine norm_ (a' := ?_) ?_ ?_
                     rotate_left
                     ·show Act.put _ (some 68) _ = _
                      simp only [Act.put, List.setIfInBounds_toArray, List.set_cons_zero, List.set_cons_succ, i64_w, i32_w]
                      rfl
                     refine one_ (i := 12) (N := some 71) #[true, true, true, true, true, true, true, true, true, true, true, true, true, false, false, false, false] rfl rfl (one_of HT_.out (by kernel_rfl)) (by decide) (fun K hK => ?_)
                     obtain ⟨vm, wm, hrm, hRm, hgm, hatm⟩ := append_run (P := Try.prog) (Kd.int .i64) N0 30 3 30 (.int .i64 0) 8 Try.underlying30 info3 rfl (by decide) (by decide) v68 wi x [.int .i64 x] (fun _ => True) (fun _ => False) ⟨b2, 0, none⟩ 1 HC.out rfl (fun _ h => h.elim) (fun _ _ => trivial) (lit_cells HL2.out) HR.out.n0 (by have := HCL.out; omega)
                     refine value_ (v := vm) (w1 := wm) (by rfl) rfl (run_append_op rfl (by rfl) (by rfl) hrm) ?_
                     clear hrm
                     have HR := Aside0.mk (HR.out.other hgm (Kd.R_base HC.out) (Kd.R_typed HC.out))
                     have HC := Aside0.mk hRm
                     clear hgm hRm hatm HL2
                     refine hK.out _ _ (HR.out.held HCS.out) (fun hHeld => ?_)
                     clear hK K
                     refine norm_ (a' := ?_) ?_ ?_
                     rotate_left
                     ·show Act.put _ (some 71) _ = _
                      simp only [Act.put, List.setIfInBounds_toArray, List.set_cons_zero, List.set_cons_succ, i64_w, i32_w]
                      rfl
                     refine one_ (i := 13) (N := some 72) #[true, true, true, true, true, true, true, true, true, true, true, true, true, true, false, false, false] rfl rfl (one_of HT_.out (by kernel_rfl)) (by decide) (fun K hK => ?_)
                     obtain ⟨Am, cm, em⟩ := Kd.R_slice HC.out
                     subst em
                     refine value_ (v := .slice (some ⟨wm.heap.size, 0, none⟩) 1 1) (w1 := wm.alloc (.cells #[.slice Am (wi ++ [x]).length cm] 30)) (by rfl) rfl (by first | (go_simp; done) | (go_simp; rfl)) ?_
                     have hb_ := below_alloc (Below.refl _ wm) (.cells #[.slice Am (wi ++ [x]).length cm] 30)
                     have HL3 := Aside0.mk (blk_new wm (.cells #[.slice Am (wi ++ [x]).length cm] 30))
                     have HC := Aside0.mk (Kd.R_below HC.out hb_)
                     have HR := Aside0.mk (HR.out.next hb_)
                     clear hb_
                     generalize wm.heap.size = b3 at HL3 ⊢
                     generalize wm.alloc (.cells #[.slice Am (wi ++ [x]).length cm] 30) = wp at HL3 HC HR ⊢
                     refine hK.out _ _ (HR.out.held HCS.out) (fun hHeld => ?_)
                     clear hK K
                     refine norm_ (a' := ?_) ?_ ?_
                     rotate_left
                     ·show Act.put _ (some 72) _ = _
                      simp only [Act.put, List.setIfInBounds_toArray, List.set_cons_zero, List.set_cons_succ, i64_w, i32_w]
                      rfl
                     refine last_ (i := 14) (N := some 73) #[true, true, true, true, true, true, true, true, true, true, true, true, true, true, true, false, false] rfl rfl (one_of HT_.out (by kernel_rfl)) (by decide) (fun K hK => ?_)
                     obtain ⟨vq, wq, hrq, hRq, hgq, hatq⟩ := append_run (P := Try.prog) (Kd.slice 3 (Kd.int .i64)) w.heap.size 86 30 86 (.slice none 0 0) 24 Try.underlying86 info_ints rfl (by decide) (by decide) (.slice (some ⟨gW, 0, none⟩) words2.length cw) words2 (wi ++ [x]) [.slice Am (wi ++ [x]).length cm] (fun _ => True) (fun k => some k ≠ (Value.slice (some ⟨gW, 0, none⟩) words2.length cw).ownBlock) ⟨b3, 0, none⟩ 1 HR.out.wdsT ⟨_, rfl, HR.out.apart HC.out⟩ (fun _ h => ⟨trivial, h⟩) (fun _ _ => trivial) (lit_cells HL3.out) HR.out.below.size (by have := D10.out; omega)
                     refine value_ (v := vq) (w1 := wq) (by rfl) rfl (run_append_op rfl (by rfl) (by rfl) hrq) ?_
                     clear hrq
                     have HY := Aside0.mk (HR.out.wordsTo hgq hRq)
                     clear hgq hRq hatq HL3 HC HR
                     refine hK.out _ _ ?_
                     clear hK K
                     refine norm_ (a' := ?_) ?_ ?_
                     rotate_left
                     ·show Act.put _ (some 73) _ = _
                      simp only [Act.put, List.setIfInBounds_toArray, List.set_cons_zero, List.set_cons_succ, i64_w, i32_w]
                      rfl
                     refine pure_ (i := 15) (N := some 3) (v := ?_) (a' := ?_) #[true, true, true, true, true, true, true, true, true, true, true, true, true, true, true, true, false] rfl rfl (any_of HT_.out (by kernel_rfl)) (fun _ _ _ h => h) (Or.inl ⟨by rfl, ?_⟩) ?_ ?_
                     rotate_left
                     ·intro w'
                      go_simp
                      (try with_reducible rfl)
                     rotate_left
                     ·simp only [Act.put, List.setIfInBounds_toArray, List.set_cons_zero, List.set_cons_succ, i64_w, i32_w]
                      rfl
                     refine pure_ (i := 16) (N := some 4) (v := ?_) (a' := ?_) #[true, true, true, true, true, true, true, true, true, true, true, true, true, true, true, true, true] rfl rfl (any_of HT_.out (by kernel_rfl)) (fun _ _ _ h => h) (Or.inl ⟨by rfl, ?_⟩) ?_ ?_
                     rotate_left
                     ·intro w'
                      go_simp
                      (try with_reducible rfl)
                     rotate_left
                     ·simp only [Act.put, List.setIfInBounds_toArray, List.set_cons_zero, List.set_cons_succ, i64_w, i32_w]
                      rfl
                     refine done_ (done_of HT_.out (by kernel_rfl)) ?_
                     clear HT_ HW_
                     have hg2 : wq.cell? ⟨w.heap.size, 2, none⟩ = some (.int .u16 met0) := (blk_cell HY.out.box 2).trans rfl
                     by_cases d13 : hasU met0 tt = true
                     ·have d13b : (Go.bits .and .u16 (met0 / 2 ^ min tt.toNat 16) 1 == 0) = true := d13
                      have H2 := H'.out
                      rw [if_pos d13] at H2
                      obtain rfl := Option.some.inj H2
                      obtain ⟨gq, cq, Al, cl, e6, hcl, hRl⟩ := HY.out.last
                      subst e6
                      rw [show (wi ++ [x]).length = wi.length + 1 by simp] at hRl hcl
                      have HRL := Aside0.mk hRl
                      have w1 : wrap64 (((words2.length + 1 : Nat) : Int) - 1) = ((words2.length : Nat) : Int) := by have := D10.out; unfold wrap64; omega
                      have w2 : wrap64 ((words2.length : Int) + 1 - 1) = ((words2.length : Nat) : Int) := by have := D10.out; unfold wrap64; omega
                      have w3 : wrap64 ((words2.length : Nat) : Int) = ((words2.length : Nat) : Int) := by have := D10.out; unfold wrap64; omega
                      have z1 : ((0 : Int) ≤ ((words2.length : Nat) : Int)) = True := eq_true (Int.natCast_nonneg _)
                      have z2 : (((words2.length : Nat) : Int) < ((words2.length + 1 : Nat) : Int)) = True := eq_true (by omega)
                      clear H2 H' d13 hRl
                      go_wp2_with fail
                      go_ret
                      exact ⟨_, rfl, HRL.out, HY.out.below⟩
                     ·have d13b : (Go.bits .and .u16 (met0 / 2 ^ min tt.toNat 16) 1 == 0) = false := by simpa [hasU] using d13
                      have H2 := H'.out
                      rw [if_neg d13] at H2
                      have H3 := Aside0.mk H2
                      clear H2 H' d13
                      go_wp2_with fail
                      go_roundg k2
                      case measure => omega
                      case rel => exact ⟨_, _, _, _, rfl, rfl, H3, ⟨by have := HK2.out; omega⟩, HY⟩
                   ·refine value_ (v := .slice (some ⟨wda.heap.size, 0, none⟩) 1 1) (w1 := wda.alloc (.cells #[.int .i64 x] 3)) (by rfl) rfl (by first | (go_simp; done) | (go_simp; rfl)) ?_
                    have hb_ := below_alloc (Below.refl _ wda) (.cells #[.int .i64 x] 3)
                    have HL2 := Aside0.mk (blk_new wda (.cells #[.int .i64 x] 3))
                    have HL1 := Aside0.mk (blk_below HL1.out hb_)
                    have HR := Aside0.mk (HR.out.next hb_)
                    clear hb_
                    generalize wda.heap.size = b2 at HL2 ⊢
                    generalize wda.alloc (.cells #[.int .i64 x] 3) = wdab at HL1 HL2 HR ⊢
                    refine hK.out _ _ (HR.out.held HCS.out) (fun hHeld => ?_)
                    clear hK K
                    refine norm_ (a' := ?_) ?_ ?_
                    rotate_left
                    ·show Act.put _ (some 70) _ = _
                     simp only [Act.put, List.setIfInBounds_toArray, List.set_cons_zero, List.set_cons_succ, i64_w, i32_w]
                     rfl
                    refine one_ (i := 3) (N := some 62) #[true, true, true, true, true, true, true, true, true, false, true, true, false, false, false, false, false] rfl rfl (one_of HT_.out (by kernel_rfl)) (by decide) (fun K hK => ?_)
                    obtain ⟨vn, wn, hrn, hRn, hgn, hatn⟩ := append_run (P := Try.prog) (Kd.int .u8) w.heap.size 89 5 89 (.int .u8 0) 1 Try.underlying89 info_u8 rfl (by decide) (by decide) (.slice (some ad) list2.length c) list2 tt [.int .u8 tt] (fun _ => True) (fun _ => False) ⟨b1, 0, none⟩ 1 HR.out.lst rfl (fun _ h => h.elim) (fun _ _ => trivial) (lit_cells HL1.out) HR.out.below.size (by have := D9.out; omega)
                    refine value_ (v := vn) (w1 := wn) (by rfl) rfl (run_append_op rfl (by rfl) (by rfl) hrn) ?_
                    clear hrn
                    have HL2 := Aside0.mk (blk_grown HL2.out hgn (Kd.R_ne HR.out.lst HL2.out (by decide)))
                    have HR := Aside0.mk (HR.out.listTo hgn hRn)
                    clear hgn hRn hatn HL1
                    refine hK.out _ _ (HR.out.held HCS.out) (fun hHeld => ?_)
                    clear hK K
                    refine norm_ (a' := ?_) ?_ ?_
                    rotate_left
                    ·show Act.put _ (some 62) _ = _
                     simp only [Act.put, List.setIfInBounds_toArray, List.set_cons_zero, List.set_cons_succ, i64_w, i32_w]
                     rfl
                    refine one_ (i := 9) (N := some 68) #[true, true, true, true, true, true, true, true, true, true, true, true, false, false, false, false, false] rfl rfl (one_of HT_.out (by kernel_rfl)) (by decide) (fun K hK => ?_)
                    refine goes_ Try.func58 (by kernel_rfl) rfl #[.slice Ai wi.length ci] (by rfl) rfl rfl (by (try simp only [List.map_toArray, List.map_cons, List.map_nil]); first | done | rfl) ?_
                    refine (slices_Clone_int_int.calls Ai ci wi wi wn (Kd.R_reads' HR.out.inn).2.2 (Kd.R_reads' HR.out.inn).2.1 HCF.out).mono ?_
                    rintro e w9 ⟨v68, rfl, hR9, hb9⟩
                    refine ⟨_, rfl, ?_⟩
                    have HC := Aside0.mk (Kd.R_lower hR9 HR.out.n0)
                    have HL2 := Aside0.mk (blk_below HL2.out hb9)
                    have HR := Aside0.mk (HR.out.next hb9)
                    clear hR9 hb9
                    refine hK.out _ _ (HR.out.held HCS.out) (fun hHeld => ?_)
                    clear hK K
                    refine norm_ (a' := ?_) ?_ ?_
                    rotate_left
                    ·show Act.put _ (some 68) _ = _
                     simp only [Act.put, List.setIfInBounds_toArray, List.set_cons_zero, List.set_cons_succ, i64_w, i32_w]
                     rfl
                    refine one_ (i := 12) (N := some 71) #[true, true, true, true, true, true, true, true, true, true, true, true, true, false, false, false, false] rfl rfl (one_of HT_.out (by kernel_rfl)) (by decide) (fun K hK => ?_)
                    obtain ⟨vm, wm, hrm, hRm, hgm, hatm⟩ := append_run (P := Try.prog) (Kd.int .i64) N0 30 3 30 (.int .i64 0) 8 Try.underlying30 info3 rfl (by decide) (by decide) v68 wi x [.int .i64 x] (fun _ => True) (fun _ => False) ⟨b2, 0, none⟩ 1 HC.out rfl (fun _ h => h.elim) (fun _ _ => trivial) (lit_cells HL2.out) HR.out.n0 (by have := HCL.out; omega)
                    refine value_ (v := vm) (w1 := wm) (by rfl) rfl (run_append_op rfl (by rfl) (by rfl) hrm) ?_
                    clear hrm
                    have HR := Aside0.mk (HR.out.other hgm (Kd.R_base HC.out) (Kd.R_typed HC.out))
                    have HC := Aside0.mk hRm
                    clear hgm hRm hatm HL2
                    refine hK.out _ _ (HR.out.held HCS.out) (fun hHeld => ?_)
                    clear hK K
                    refine norm_ (a' := ?_) ?_ ?_
                    rotate_left
                    ·show Act.put _ (some 71) _ = _
                     simp only [Act.put, List.setIfInBounds_toArray, List.set_cons_zero, List.set_cons_succ, i64_w, i32_w]
                     rfl
                    refine one_ (i := 13) (N := some 72) #[true, true, true, true, true, true, true, true, true, true, true, true, true, true, false, false, false] rfl rfl (one_of HT_.out (by kernel_rfl)) (by decide) (fun K hK => ?_)
                    obtain ⟨Am, cm, em⟩ := Kd.R_slice HC.out
                    subst em
                    refine value_ (v := .slice (some ⟨wm.heap.size, 0, none⟩) 1 1) (w1 := wm.alloc (.cells #[.slice Am (wi ++ [x]).length cm] 30)) (by rfl) rfl (by first | (go_simp; done) | (go_simp; rfl)) ?_
                    have hb_ := below_alloc (Below.refl _ wm) (.cells #[.slice Am (wi ++ [x]).length cm] 30)
                    have HL3 := Aside0.mk (blk_new wm (.cells #[.slice Am (wi ++ [x]).length cm] 30))
                    have HC := Aside0.mk (Kd.R_below HC.out hb_)
                    have HR := Aside0.mk (HR.out.next hb_)
                    clear hb_
                    generalize wm.heap.size = b3 at HL3 ⊢
                    generalize wm.alloc (.cells #[.slice Am (wi ++ [x]).length cm] 30) = wp at HL3 HC HR ⊢
                    refine hK.out _ _ (HR.out.held HCS.out) (fun hHeld => ?_)
                    clear hK K
                    refine norm_ (a' := ?_) ?_ ?_
                    rotate_left
                    ·show Act.put _ (some 72) _ = _
                     simp only [Act.put, List.setIfInBounds_toArray, List.set_cons_zero, List.set_cons_succ, i64_w, i32_w]
                     rfl
                    refine last_ (i := 14) (N := some 73) #[true, true, true, true, true, true, true, true, true, true, true, true, true, true, true, false, false] rfl rfl (one_of HT_.out (by kernel_rfl)) (by decide) (fun K hK => ?_)
                    obtain ⟨vq, wq, hrq, hRq, hgq, hatq⟩ := append_run (P := Try.prog) (Kd.slice 3 (Kd.int .i64)) w.heap.size 86 30 86 (.slice none 0 0) 24 Try.underlying86 info_ints rfl (by decide) (by decide) (.slice (some ⟨gW, 0, none⟩) words2.length cw) words2 (wi ++ [x]) [.slice Am (wi ++ [x]).length cm] (fun _ => True) (fun k => some k ≠ (Value.slice (some ⟨gW, 0, none⟩) words2.length cw).ownBlock) ⟨b3, 0, none⟩ 1 HR.out.wdsT ⟨_, rfl, HR.out.apart HC.out⟩ (fun _ h => ⟨trivial, h⟩) (fun _ _ => trivial) (lit_cells HL3.out) HR.out.below.size (by have := D10.out; omega)
                    refine value_ (v := vq) (w1 := wq) (by rfl) rfl (run_append_op rfl (by rfl) (by rfl) hrq) ?_
                    clear hrq
                    have HY := Aside0.mk (HR.out.wordsTo hgq hRq)
                    clear hgq hRq hatq HL3 HC HR
                    refine hK.out _ _ ?_
                    clear hK K
                    refine norm_ (a' := ?_) ?_ ?_
                    rotate_left
                    ·show Act.put _ (some 73) _ = _
                     simp only [Act.put, List.setIfInBounds_toArray, List.set_cons_zero, List.set_cons_succ, i64_w, i32_w]
                     rfl
                    refine pure_ (i := 15) (N := some 3) (v := ?_) (a' := ?_) #[true, true, true, true, true, true, true, true, true, true, true, true, true, true, true, true, false] rfl rfl (any_of HT_.out (by kernel_rfl)) (fun _ _ _ h => h) (Or.inl ⟨by rfl, ?_⟩) ?_ ?_
                    rotate_left
                    ·intro w'
                     go_simp
                     (try with_reducible rfl)
                    rotate_left
                    ·simp only [Act.put, List.setIfInBounds_toArray, List.set_cons_zero, List.set_cons_succ, i64_w, i32_w]
                     rfl
                    refine pure_ (i := 16) (N := some 4) (v := ?_) (a' := ?_) #[true, true, true, true, true, true, true, true, true, true, true, true, true, true, true, true, true] rfl rfl (any_of HT_.out (by kernel_rfl)) (fun _ _ _ h => h) (Or.inl ⟨by rfl, ?_⟩) ?_ ?_
                    rotate_left
                    ·intro w'
                     go_simp
                     (try with_reducible rfl)
                    rotate_left
                    ·simp only [Act.put, List.setIfInBounds_toArray, List.set_cons_zero, List.set_cons_succ, i64_w, i32_w]
                     rfl
                    refine done_ (done_of HT_.out (by kernel_rfl)) ?_
                    clear HT_ HW_
                    have hg2 : wq.cell? ⟨w.heap.size, 2, none⟩ = some (.int .u16 met0) := (blk_cell HY.out.box 2).trans rfl
                    by_cases d13 : hasU met0 tt = true
                    ·have d13b : (Go.bits .and .u16 (met0 / 2 ^ min tt.toNat 16) 1 == 0) = true := d13
                     have H2 := H'.out
                     rw [if_pos d13] at H2
                     obtain rfl := Option.some.inj H2
                     obtain ⟨gq, cq, Al, cl, e6, hcl, hRl⟩ := HY.out.last
                     subst e6
                     rw [show (wi ++ [x]).length = wi.length + 1 by simp] at hRl hcl
                     have HRL := Aside0.mk hRl
                     have w1 : wrap64 (((words2.length + 1 : Nat) : Int) - 1) = ((words2.length : Nat) : Int) := by have := D10.out; unfold wrap64; omega
                     have w2 : wrap64 ((words2.length : Int) + 1 - 1) = ((words2.length : Nat) : Int) := by have := D10.out; unfold wrap64; omega
                     have w3 : wrap64 ((words2.length : Nat) : Int) = ((words2.length : Nat) : Int) := by have := D10.out; unfold wrap64; omega
                     have z1 : ((0 : Int) ≤ ((words2.length : Nat) : Int)) = True := eq_true (Int.natCast_nonneg _)
                     have z2 : (((words2.length : Nat) : Int) < ((words2.length + 1 : Nat) : Int)) = True := eq_true (by omega)
                     clear H2 H' d13 hRl
                     go_wp2_with fail
                     go_ret
                     exact ⟨_, rfl, HRL.out, HY.out.below⟩
                    ·have d13b : (Go.bits .and .u16 (met0 / 2 ^ min tt.toNat 16) 1 == 0) = false := by simpa [hasU] using d13
                     have H2 := H'.out
                     rw [if_neg d13] at H2
                     have H3 := Aside0.mk H2
                     clear H2 H' d13
                     go_wp2_with fail
                     go_roundg k2
                     case measure => omega
                     case rel => exact ⟨_, _, _, _, rfl, rfl, H3, ⟨by have := HK2.out; omega⟩, HY⟩
                  ·refine value_ (v := .slice (some ⟨wd.heap.size, 0, none⟩) 1 1) (w1 := wd.alloc (.cells #[.int .i64 x] 3)) (by rfl) rfl (by first | (go_simp; done) | (go_simp; rfl)) ?_
                   have hb_ := below_alloc (Below.refl _ wd) (.cells #[.int .i64 x] 3)
                   have HL2 := Aside0.mk (blk_new wd (.cells #[.int .i64 x] 3))
                   have HR := Aside0.mk (HR.out.next hb_)
                   clear hb_
                   generalize wd.heap.size = b2 at HL2 ⊢
                   generalize wd.alloc (.cells #[.int .i64 x] 3) = wdb at HL2 HR ⊢
                   refine hK.out _ _ (HR.out.held HCS.out) (fun hHeld => ?_)
                   clear hK K
                   refine norm_ (a' := ?_) ?_ ?_
                   rotate_left
                   ·show Act.put _ (some 70) _ = _
                    simp only [Act.put, List.setIfInBounds_toArray, List.set_cons_zero, List.set_cons_succ, i64_w, i32_w]
                    rfl
                   refine one_ (i := 2) (N := some 61) #[true, true, true, false, true, true, true, true, true, false, true, true, false, false, false, false, false] rfl rfl (one_of HT_.out (by kernel_rfl)) (by decide) (fun K hK => ?_)
                   refine value_ (v := .slice (some ⟨wdb.heap.size, 0, none⟩) 1 1) (w1 := wdb.alloc (.cells #[.int .u8 tt] 5)) (by rfl) rfl (by first | (go_simp; done) | (go_simp; rfl)) ?_
                   have hb_ := below_alloc (Below.refl _ wdb) (.cells #[.int .u8 tt] 5)
                   have HL1 := Aside0.mk (blk_new wdb (.cells #[.int .u8 tt] 5))
                   have HL2 := Aside0.mk (blk_below HL2.out hb_)
                   have HR := Aside0.mk (HR.out.next hb_)
                   clear hb_
                   generalize wdb.heap.size = b1 at HL1 ⊢
                   generalize wdb.alloc (.cells #[.int .u8 tt] 5) = wdba at HL2 HL1 HR ⊢
                   refine hK.out _ _ (HR.out.held HCS.out) (fun hHeld => ?_)
                   clear hK K
                   refine norm_ (a' := ?_) ?_ ?_
                   rotate_left
                   ·show Act.put _ (some 61) _ = _
                    simp only [Act.put, List.setIfInBounds_toArray, List.set_cons_zero, List.set_cons_succ, i64_w, i32_w]
                    rfl
                   refine one_ (i := 3) (N := some 62) #[true, true, true, true, true, true, true, true, true, false, true, true, false, false, false, false, false] rfl rfl (one_of HT_.out (by kernel_rfl)) (by decide) (fun K hK => ?_)
                   obtain ⟨vn, wn, hrn, hRn, hgn, hatn⟩ := append_run (P := Try.prog) (Kd.int .u8) w.heap.size 89 5 89 (.int .u8 0) 1 Try.underlying89 info_u8 rfl (by decide) (by decide) (.slice (some ad) list2.length c) list2 tt [.int .u8 tt] (fun _ => True) (fun _ => False) ⟨b1, 0, none⟩ 1 HR.out.lst rfl (fun _ h => h.elim) (fun _ _ => trivial) (lit_cells HL1.out) HR.out.below.size (by have := D9.out; omega)
                   refine value_ (v := vn) (w1 := wn) (by rfl) rfl (run_append_op rfl (by rfl) (by rfl) hrn) ?_
                   clear hrn
                   have HL2 := Aside0.mk (blk_grown HL2.out hgn (Kd.R_ne HR.out.lst HL2.out (by decide)))
                   have HR := Aside0.mk (HR.out.listTo hgn hRn)
                   clear hgn hRn hatn HL1
                   refine hK.out _ _ (HR.out.held HCS.out) (fun hHeld => ?_)
                   clear hK K
                   refine norm_ (a' := ?_) ?_ ?_
                   rotate_left
                   ·show Act.put _ (some 62) _ = _
                    simp only [Act.put, List.setIfInBounds_toArray, List.set_cons_zero, List.set_cons_succ, i64_w, i32_w]
                    rfl
                   refine one_ (i := 9) (N := some 68) #[true, true, true, true, true, true, true, true, true, true, true, true, false, false, false, false, false] rfl rfl (one_of HT_.out (by kernel_rfl)) (by decide) (fun K hK => ?_)
                   refine goes_ Try.func58 (by kernel_rfl) rfl #[.slice Ai wi.length ci] (by rfl) rfl rfl (by (try simp only [List.map_toArray, List.map_cons, List.map_nil]); first | done | rfl) ?_
                   refine (slices_Clone_int_int.calls Ai ci wi wi wn (Kd.R_reads' HR.out.inn).2.2 (Kd.R_reads' HR.out.inn).2.1 HCF.out).mono ?_
                   rintro e w9 ⟨v68, rfl, hR9, hb9⟩
                   refine ⟨_, rfl, ?_⟩
                   have HC := Aside0.mk (Kd.R_lower hR9 HR.out.n0)
                   have HL2 := Aside0.mk (blk_below HL2.out hb9)
                   have HR := Aside0.mk (HR.out.next hb9)
                   clear hR9 hb9
                   refine hK.out _ _ (HR.out.held HCS.out) (fun hHeld => ?_)
                   clear hK K
                   refine norm_ (a' := ?_) ?_ ?_
                   rotate_left
                   ·show Act.put _ (some 68) _ = _
                    simp only [Act.put, List.setIfInBounds_toArray, List.set_cons_zero, List.set_cons_succ, i64_w, i32_w]
                    rfl
                   refine one_ (i := 12) (N := some 71) #[true, true, true, true, true, true, true, true, true, true, true, true, true, false, false, false, false] rfl rfl (one_of HT_.out (by kernel_rfl)) (by decide) (fun K hK => ?_)
                   obtain ⟨vm, wm, hrm, hRm, hgm, hatm⟩ := append_run (P := Try.prog) (Kd.int .i64) N0 30 3 30 (.int .i64 0) 8 Try.underlying30 info3 rfl (by decide) (by decide) v68 wi x [.int .i64 x] (fun _ => True) (fun _ => False) ⟨b2, 0, none⟩ 1 HC.out rfl (fun _ h => h.elim) (fun _ _ => trivial) (lit_cells HL2.out) HR.out.n0 (by have := HCL.out; omega)
                   refine value_ (v := vm) (w1 := wm) (by rfl) rfl (run_append_op rfl (by rfl) (by rfl) hrm) ?_
                   clear hrm
                   have HR := Aside0.mk (HR.out.other hgm (Kd.R_base HC.out) (Kd.R_typed HC.out))
                   have HC := Aside0.mk hRm
                   clear hgm hRm hatm HL2
                   refine hK.out _ _ (HR.out.held HCS.out) (fun hHeld => ?_)
                   clear hK K
                   refine norm_ (a' := ?_) ?_ ?_
                   rotate_left
                   ·show Act.put _ (some 71) _ = _
                    simp only [Act.put, List.setIfInBounds_toArray, List.set_cons_zero, List.set_cons_succ, i64_w, i32_w]
                    rfl
                   refine one_ (i := 13) (N := some 72) #[true, true, true, true, true, true, true, true, true, true, true, true, true, true, false, false, false] rfl rfl (one_of HT_.out (by kernel_rfl)) (by decide) (fun K hK => ?_)
                   obtain ⟨Am, cm, em⟩ := Kd.R_slice HC.out
                   subst em
                   refine value_ (v := .slice (some ⟨wm.heap.size, 0, none⟩) 1 1) (w1 := wm.alloc (.cells #[.slice Am (wi ++ [x]).length cm] 30)) (by rfl) rfl (by first | (go_simp; done) | (go_simp; rfl)) ?_
                   have hb_ := below_alloc (Below.refl _ wm) (.cells #[.slice Am (wi ++ [x]).length cm] 30)
                   have HL3 := Aside0.mk (blk_new wm (.cells #[.slice Am (wi ++ [x]).length cm] 30))
                   have HC := Aside0.mk (Kd.R_below HC.out hb_)
                   have HR := Aside0.mk (HR.out.next hb_)
                   clear hb_
                   generalize wm.heap.size = b3 at HL3 ⊢
                   generalize wm.alloc (.cells #[.slice Am (wi ++ [x]).length cm] 30) = wp at HL3 HC HR ⊢
                   refine hK.out _ _ (HR.out.held HCS.out) (fun hHeld => ?_)
                   clear hK K
                   refine norm_ (a' := ?_) ?_ ?_
                   rotate_left
                   ·show Act.put _ (some 72) _ = _
                    simp only [Act.put, List.setIfInBounds_toArray, List.set_cons_zero, List.set_cons_succ, i64_w, i32_w]
                    rfl
                   refine last_ (i := 14) (N := some 73) #[true, true, true, true, true, true, true, true, true, true, true, true, true, true, true, false, false] rfl rfl (one_of HT_.out (by kernel_rfl)) (by decide) (fun K hK => ?_)
                   obtain ⟨vq, wq, hrq, hRq, hgq, hatq⟩ := append_run (P := Try.prog) (Kd.slice 3 (Kd.int .i64)) w.heap.size 86 30 86 (.slice none 0 0) 24 Try.underlying86 info_ints rfl (by decide) (by decide) (.slice (some ⟨gW, 0, none⟩) words2.length cw) words2 (wi ++ [x]) [.slice Am (wi ++ [x]).length cm] (fun _ => True) (fun k => some k ≠ (Value.slice (some ⟨gW, 0, none⟩) words2.length cw).ownBlock) ⟨b3, 0, none⟩ 1 HR.out.wdsT ⟨_, rfl, HR.out.apart HC.out⟩ (fun _ h => ⟨trivial, h⟩) (fun _ _ => trivial) (lit_cells HL3.out) HR.out.below.size (by have := D10.out; omega)
                   refine value_ (v := vq) (w1 := wq) (by rfl) rfl (run_append_op rfl (by rfl) (by rfl) hrq) ?_
                   clear hrq
                   have HY := Aside0.mk (HR.out.wordsTo hgq hRq)
                   clear hgq hRq hatq HL3 HC HR
                   refine hK.out _ _ ?_
                   clear hK K
                   refine norm_ (a' := ?_) ?_ ?_
                   rotate_left
                   ·show Act.put _ (some 73) _ = _
                    simp only [Act.put, List.setIfInBounds_toArray, List.set_cons_zero, List.set_cons_succ, i64_w, i32_w]
                    rfl
                   refine pure_ (i := 15) (N := some 3) (v := ?_) (a' := ?_) #[true, true, true, true, true, true, true, true, true, true, true, true, true, true, true, true, false] rfl rfl (any_of HT_.out (by kernel_rfl)) (fun _ _ _ h => h) (Or.inl ⟨by rfl, ?_⟩) ?_ ?_
                   rotate_left
                   ·intro w'
                    go_simp
                    (try with_reducible rfl)
                   rotate_left
                   ·simp only [Act.put, List.setIfInBounds_toArray, List.set_cons_zero, List.set_cons_succ, i64_w, i32_w]
                    rfl
                   refine pure_ (i := 16) (N := some 4) (v := ?_) (a' := ?_) #[true, true, true, true, true, true, true, true, true, true, true, true, true, true, true, true, true] rfl rfl (any_of HT_.out (by kernel_rfl)) (fun _ _ _ h => h) (Or.inl ⟨by rfl, ?_⟩) ?_ ?_
                   rotate_left
                   ·intro w'
                    go_simp
                    (try with_reducible rfl)
                   rotate_left
                   ·simp only [Act.put, List.setIfInBounds_toArray, List.set_cons_zero, List.set_cons_succ, i64_w, i32_w]
                    rfl
                   refine done_ (done_of HT_.out (by kernel_rfl)) ?_
                   clear HT_ HW_
                   have hg2 : wq.cell? ⟨w.heap.size, 2, none⟩ = some (.int .u16 met0) := (blk_cell HY.out.box 2).trans rfl
                   by_cases d13 : hasU met0 tt = true
                   ·have d13b : (Go.bits .and .u16 (met0 / 2 ^ min tt.toNat 16) 1 == 0) = true := d13
                    have H2 := H'.out
                    rw [if_pos d13] at H2
                    obtain rfl := Option.some.inj H2
                    obtain ⟨gq, cq, Al, cl, e6, hcl, hRl⟩ := HY.out.last
                    subst e6
                    rw [show (wi ++ [x]).length = wi.length + 1 by simp] at hRl hcl
                    have HRL := Aside0.mk hRl
                    have w1 : wrap64 (((words2.length + 1 : Nat) : Int) - 1) = ((words2.length : Nat) : Int) := by have := D10.out; unfold wrap64; omega
                    have w2 : wrap64 ((words2.length : Int) + 1 - 1) = ((words2.length : Nat) : Int) := by have := D10.out; unfold wrap64; omega
                    have w3 : wrap64 ((words2.length : Nat) : Int) = ((words2.length : Nat) : Int) := by have := D10.out; unfold wrap64; omega
                    have z1 : ((0 : Int) ≤ ((words2.length : Nat) : Int)) = True := eq_true (Int.natCast_nonneg _)
                    have z2 : (((words2.length : Nat) : Int) < ((words2.length + 1 : Nat) : Int)) = True := eq_true (by omega)
                    clear H2 H' d13 hRl
                    go_wp2_with fail
                    go_ret
                    exact ⟨_, rfl, HRL.out, HY.out.below⟩
                   ·have d13b : (Go.bits .and .u16 (met0 / 2 ^ min tt.toNat 16) 1 == 0) = false := by simpa [hasU] using d13
                    have H2 := H'.out
                    rw [if_neg d13] at H2
                    have H3 := Aside0.mk H2
                    clear H2 H' d13
                    go_wp2_with fail
                    go_roundg k2
                    case measure => omega
                    case rel => exact ⟨_, _, _, _, rfl, rfl, H3, ⟨by have := HK2.out; omega⟩, HY⟩
                 ·rw [if_neg d12] at H; exact absurd H (by simp)
                ·rw [if_neg d11] at H; exact absurd H (by simp)
               ·rw [if_neg d10] at H; exact absurd H (by simp)
              ·rw [if_neg d9] at H; exact absurd H (by simp)
            ·rw [if_neg d7] at H; exact absurd H (by simp)
           ·rw [if_neg d6] at H; exact absurd H (by simp)
          ·rw [if_neg d5] at H; exact absurd H (by simp)
         ·rw [if_neg d4] at H; exact absurd H (by simp)
        ·rw [if_neg d3] at H; exact absurd H (by simp)
       ·rw [if_neg d2] at H
        have H' := Aside0.mk H
        have d2b := decide_eq_false d2
        clear H d2
        go_wp2_with fail
        go_roundg k2
        case measure => have := HK2.out; omega
        case rel => exact ⟨_, _, _, _, rfl, rfl, H', ⟨by have := HK.out; have := HK2.out; omega⟩, HY⟩
    ·rw [if_neg d1] at H
     have d1b := decide_eq_false d1
     obtain rfl := Option.some.inj H
     clear H d1
     go_wp2_with fail
     go_ret
     exact ⟨_, rfl, Kd.R_nil _ _ _ _ _, HY.out.below⟩
 ·rw [if_neg d0] at h; cases h
end Go.Proofs.Ytgbjbgdnldklpaa.Q
end
