/- One word for all mazes: the word that is found for some numbers of rooms and doors visits all rooms of whatever connected maze with at most this number of rooms, also with doors before it and after it; it is proved for every input, without conditions. (text 20 of 31) -/
import Derived.Test.YtgbjbgdnldklpaaZTopMazep
import Derived.Test.YtgbjbgdnldklpaaZTopMazec
import Derived.Shelf.RegionOpen
import Derived.OwnWalkIn
import Derived.TacticsInMore
import Derived.StillTailTactics
import Derived.Deep.CutRange
/-! Part XAll -/
section
namespace Go.Proofs.Ytgbjbgdnldklpaa.Q
open Go.RowKit Go.Proofs.YtgbjbgdnldklpaaW.PrintWords Go.Proofs.YtgbjbgdnldklpaaW.PrintLast Go.Proofs.YtgbjbgdnldklpaaW.PrintMore
set_option linter.unusedVariables false
set_option linter.unusedSimpArgs false
/-! ### the iterator over mazes -/
def u8d (q d : Int) : Int := IntKind.u8.wrap (wrap64 (q.tdiv d))
mutual
def maze_from.l0 : Nat → Int → Int → List Bool → List Int → Int → List (List Int) → Option (List Bool × List Int × List (List Int))
 | 0, _, _, _, _, _, _ => none
 | k + 1, N, d, us, rs, p, acc => if p < N then (if 0 ≤ p then (if p < 12 then (if rdOf false us p = true then maze_from.l0 k N d us rs (wrap64 (p + 1)) acc else maze_from.l1 k N d (us.set p.toNat true) rs p p acc) else none) else none) else (if p = N then some (us, rs, acc ++ [rs]) else none)
def maze_from.l1 : Nat → Int → Int → List Bool → List Int → Int → Int → List (List Int) → Option (List Bool × List Int × List (List Int))
 | 0, _, _, _, _, _, _, _ => none
 | k + 1, N, d, us, rs, p, q, acc => if q < N then (if 0 ≤ q then (if q < 12 then (if p < q ∧ rdOf false us q = true then maze_from.l1 k N d us rs p (wrap64 (q + 1)) acc else (if 1 ≤ d then ((maze_from.l0 k N d (us.set q.toNat true) ((rs.set p.toNat (u8d q d)).set q.toNat (u8d p d)) (wrap64 (p + 1)) acc).bind fun r => maze_from.l1 k N d (r.1.set q.toNat (q == p)) r.2.1 p (wrap64 (q + 1)) r.2.2) else none)) else none) else none) else some (us.set p.toNat false, rs, acc)
end
theorem maze_from.mono_l : ∀ k, (∀ y0 y1 y2 y3 y4 y5, LeO (maze_from.l0 k y0 y1 y2 y3 y4 y5) (maze_from.l0 (k + 1) y0 y1 y2 y3 y4 y5)) ∧ (∀ y0 y1 y2 y3 y4 y5 y6, LeO (maze_from.l1 k y0 y1 y2 y3 y4 y5 y6) (maze_from.l1 (k + 1) y0 y1 y2 y3 y4 y5 y6))
 | 0 => ⟨fun _ _ _ _ _ _ r h => by simp [maze_from.l0] at h, fun _ _ _ _ _ _ _ r h => by simp [maze_from.l1] at h⟩
 | k + 1 => by
  obtain ⟨ih0, ih1⟩ := maze_from.mono_l k
  refine ⟨?_, ?_⟩
  ·intro y0 y1 y2 y3 y4 y5
   unfold maze_from.l0
   repeat' first
   | (with_reducible exact ih0 _ _ _ _ _ _)
   | (with_reducible exact ih1 _ _ _ _ _ _ _)
   | (with_reducible exact LeO.refl _)
   | (with_reducible exact LeO.none _)
   | (with_reducible refine LeO.ite ?_ ?_)
  ·intro y0 y1 y2 y3 y4 y5 y6
   unfold maze_from.l1
   repeat' first
   | (with_reducible exact ih0 _ _ _ _ _ _)
   | (with_reducible exact ih1 _ _ _ _ _ _ _)
   | (with_reducible exact LeO.refl _)
   | (with_reducible exact LeO.none _)
   | (with_reducible refine LeO.ite ?_ ?_)
   | (with_reducible refine LeO.bind ?_ (fun _ => ?_))
theorem maze_from.pre_l : ∀ k, (∀ N d us rs p acc R, maze_from.l0 k N d us rs p acc = some R → ∃ r, R.2.2 = acc ++ r) ∧ (∀ N d us rs p q acc R, maze_from.l1 k N d us rs p q acc = some R → ∃ r, R.2.2 = acc ++ r)
 | 0 => ⟨fun _ _ _ _ _ _ _ h => by simp [maze_from.l0] at h, fun _ _ _ _ _ _ _ _ h => by simp [maze_from.l1] at h⟩
 | k + 1 => by
  obtain ⟨ih0, ih1⟩ := maze_from.pre_l k
  refine ⟨?_, ?_⟩
  ·intro N d us rs p acc R h
   simp only [maze_from.l0] at h
   repeat' split at h
   all_goals first
    | exact ih0 _ _ _ _ _ _ _ h
    | exact ih1 _ _ _ _ _ _ _ _ h
    | (exfalso; revert h; simp; done)
    | exact ⟨[rs], by rw [← Option.some.inj h]⟩
  ·intro N d us rs p q acc R h
   simp only [maze_from.l1] at h
   repeat' split at h
   all_goals first
    | exact ih1 _ _ _ _ _ _ _ _ h
    | (exfalso; revert h; simp; done)
    | exact ⟨[], by rw [← Option.some.inj h]; simp⟩
    | skip
   obtain ⟨t, h1, h2⟩ := Option.bind_eq_some_iff.1 h
   obtain ⟨r1, e1⟩ := ih0 _ _ _ _ _ _ _ h1
   obtain ⟨r2, e2⟩ := ih1 _ _ _ _ _ _ _ _ h2
   exact ⟨r1 ++ r2, by rw [e2, e1, List.append_assoc]⟩
/-! #### the iterator's memory -/
def ownF (Rb Db Yb Zb Ub Fb : Nat) : Nat → Prop := fun b => b = Rb ∨ b = Db ∨ b = Yb ∨ b = Zb ∨ b = Ub ∨ b = Fb
def caF (Rb Db Yb Zb Ub Fb : Nat) : Array Value := #[.pointer (some ⟨Rb, 0, none⟩), .pointer (some ⟨Db, 0, none⟩), .pointer (some ⟨Ub, 0, none⟩), .pointer (some ⟨Yb, 0, none⟩), .pointer (some ⟨Zb, 0, none⟩), .pointer (some ⟨Fb, 0, none⟩)]
structure FS (l : Nat) (n d : Int) (Rb Db Yb Zb Ub Fb : Nat) (W : World) (us : List Bool) (rs : List Int) : Prop where
 bR : W.heap[Rb]? = some (.cells #[.int .i64 n] 3 (0, 0))
 bD : W.heap[Db]? = some (.cells #[.int .i64 d] 3 (0, 0))
 bY : W.heap[Yb]? = some (.cells #[.func (.yield l) #[] #[]] 87 (0, 0))
 bZ : SmB W Zb n d rs
 bU : W.heap[Ub]? = some (.cells (us.map Value.bool).toArray 88 (0, 0))
 lU : us.length = 12
 bF : W.heap[Fb]? = some (.cells #[.func (.func 52) #[] (caF Rb Db Yb Zb Ub Fb)] 83 (0, 0))
theorem grown_set (W : World) (b o : Nat) (v : Value) : W.grownBy (W.setCell ⟨b, o, none⟩ v) (some b) :=
 ⟨rfl, rfl, rfl, by simp [World.setCell], fun k _ hk => Below.heap_setCell _ _ _ k (fun e => hk (by rw [e]))⟩
section
variable {l : Nat} {n d : Int} {Rb Db Yb Zb Ub Fb : Nat} {W W1 : World} {us : List Bool} {rs : List Int}
theorem FS.lt (h : FS l n d Rb Db Yb Zb Ub Fb W us rs) : ∀ b, ownF Rb Db Yb Zb Ub Fb b → b < W.heap.size := by
 rintro b (rfl | rfl | rfl | rfl | rfl | rfl)
 ·exact blk_lt h.bR
 ·exact blk_lt h.bD
 ·exact blk_lt h.bY
 ·exact blk_lt h.bZ.1
 ·exact blk_lt h.bU
 ·exact blk_lt h.bF
theorem FS.keep (h : FS l n d Rb Db Yb Zb Ub Fb W us rs) (hk : ∀ b, b < W.heap.size → ownF Rb Db Yb Zb Ub Fb b → W1.heap[b]? = W.heap[b]?) : FS l n d Rb Db Yb Zb Ub Fb W1 us rs :=
 ⟨(hk _ (blk_lt h.bR) (Or.inl rfl)).trans h.bR, (hk _ (blk_lt h.bD) (Or.inr (Or.inl rfl))).trans h.bD, (hk _ (blk_lt h.bY) (Or.inr (Or.inr (Or.inl rfl)))).trans h.bY,
  ⟨(hk _ (blk_lt h.bZ.1) (Or.inr (Or.inr (Or.inr (Or.inl rfl))))).trans h.bZ.1, h.bZ.2⟩, (hk _ (blk_lt h.bU) (Or.inr (Or.inr (Or.inr (Or.inr (Or.inl rfl)))))).trans h.bU, h.lU, (hk _ (blk_lt h.bF) (Or.inr (Or.inr (Or.inr (Or.inr (Or.inr rfl)))))).trans h.bF⟩
theorem FS.round {base : Nat} (h : FS l n d Rb Db Yb Zb Ub Fb W us rs) (hk : RoundKept (fun b => b < base ∨ ownF Rb Db Yb Zb Ub Fb b) W W1) : FS l n d Rb Db Yb Zb Ub Fb W1 us rs :=
 h.keep fun b hb ho => hk.block b hb (Or.inr ho)
theorem FS.below (h : FS l n d Rb Db Yb Zb Ub Fb W us rs) (hb : Below W.heap.size W W1) : FS l n d Rb Db Yb Zb Ub Fb W1 us rs := h.keep fun b hl _ => hb.block b hl
theorem FS.drewN (h : FS l n d Rb Db Yb Zb Ub Fb W us rs) (k : Nat) : FS l n d Rb Db Yb Zb Ub Fb (W.drewN k) us rs := h.keep fun _ _ _ => rfl
theorem FS.drew (h : FS l n d Rb Db Yb Zb Ub Fb W us rs) : FS l n d Rb Db Yb Zb Ub Fb W.drew us rs := h.keep fun _ _ _ => rfl
theorem FS.cR (h : FS l n d Rb Db Yb Zb Ub Fb W us rs) : W.cell? ⟨Rb, 0, none⟩ = some (.int .i64 n) := (blk_cell h.bR 0).trans rfl
theorem FS.cD (h : FS l n d Rb Db Yb Zb Ub Fb W us rs) : W.cell? ⟨Db, 0, none⟩ = some (.int .i64 d) := (blk_cell h.bD 0).trans rfl
theorem FS.cY (h : FS l n d Rb Db Yb Zb Ub Fb W us rs) : W.cell? ⟨Yb, 0, none⟩ = some (.func (.yield l) #[] #[]) := (blk_cell h.bY 0).trans rfl
theorem FS.cF (h : FS l n d Rb Db Yb Zb Ub Fb W us rs) : W.cell? ⟨Fb, 0, none⟩ = some (.func (.func 52) #[] (caF Rb Db Yb Zb Ub Fb)) := (blk_cell h.bF 0).trans rfl
theorem FS.cU (h : FS l n d Rb Db Yb Zb Ub Fb W us rs) (i : Int) (h0 : 0 ≤ i) (h1 : i < 12) : W.cell? ⟨Ub, i.toNat, none⟩ = some (.bool (rdOf false us i)) := by
 refine (blk_cell h.bU i.toNat).trans ?_
 have hl := h.lU
 have : i.toNat < us.length := by omega
 rw [List.getElem?_toArray, List.getElem?_map, List.getElem?_eq_getElem this]
 unfold rdOf
 rw [List.getD_eq_getElem?_getD, List.getElem?_eq_getElem this]
 rfl
theorem FS.fU (h : FS l n d Rb Db Yb Zb Ub Fb W us rs) (i : Int) : W.frozen? ⟨Ub, i.toNat, none⟩ = false := blk_frozen h.bU _
theorem FS.cZ (h : FS l n d Rb Db Yb Zb Ub Fb W us rs) (i : Int) (h0 : 0 ≤ i) (h1 : i < 12) : W.cell? ⟨Zb, 2 + i.toNat, none⟩ = some (.int .u8 (rd rs i)) := h.bZ.at_ i h0 h1
theorem FS.fZ (h : FS l n d Rb Db Yb Zb Ub Fb W us rs) (i : Int) : W.frozen? ⟨Zb, 2 + i.toNat, none⟩ = false := blk_frozen h.bZ.1 _
theorem FS.setU (h : FS l n d Rb Db Yb Zb Ub Fb W us rs) (i : Int) (h0 : 0 ≤ i) (h1 : i < 12) (b : Bool) : FS l n d Rb Db Yb Zb Ub Fb (W.setCell ⟨Ub, i.toNat, none⟩ (.bool b)) (us.set i.toNat b) rs ∧ KeptBut (ownF Rb Db Yb Zb Ub Fb) W (W.setCell ⟨Ub, i.toNat, none⟩ (.bool b)) := by
 have hg := grown_set W Ub i.toNat (.bool b)
 have ne : ∀ {x : Nat} {cs : Array Value} {t : TypeId}, W.heap[x]? = some (.cells cs t (0, 0)) → t ≠ 88 → some x ≠ some Ub := fun hx ht e => ne_type hx h.bU ht (Option.some.inj e)
 refine ⟨⟨blk_grown h.bR hg (ne h.bR (by decide)), blk_grown h.bD hg (ne h.bD (by decide)), blk_grown h.bY hg (ne h.bY (by decide)), ⟨blk_grown h.bZ.1 hg (ne h.bZ.1 (by decide)), h.bZ.2⟩, ?_, by rw [List.length_set]; exact h.lU, blk_grown h.bF hg (ne h.bF (by decide))⟩, KeptBut.of_grown hg fun b e => by cases e; exact Or.inr (Or.inr (Or.inr (Or.inr (Or.inl rfl))))⟩
 refine blk_put h.bU i.toNat _ ?_
 rw [List.setIfInBounds_toArray, List.map_set]
theorem FS.setZ (h : FS l n d Rb Db Yb Zb Ub Fb W us rs) (i : Int) (h0 : 0 ≤ i) (h1 : i < 12) (v : Int) : FS l n d Rb Db Yb Zb Ub Fb (W.setCell ⟨Zb, 2 + i.toNat, none⟩ (.int .u8 v)) us (rs.set i.toNat v) ∧ KeptBut (ownF Rb Db Yb Zb Ub Fb) W (W.setCell ⟨Zb, 2 + i.toNat, none⟩ (.int .u8 v)) := by
 have hg := grown_set W Zb (2 + i.toNat) (.int .u8 v)
 have ne : ∀ {x : Nat} {cs : Array Value} {t : TypeId}, W.heap[x]? = some (.cells cs t (0, 0)) → t ≠ 66 → some x ≠ some Zb := fun hx ht e => ne_type hx h.bZ.1 ht (Option.some.inj e)
 refine ⟨⟨blk_grown h.bR hg (ne h.bR (by decide)), blk_grown h.bD hg (ne h.bD (by decide)), blk_grown h.bY hg (ne h.bY (by decide)), ⟨?_, by rw [List.length_set]; exact h.bZ.2⟩, blk_grown h.bU hg (ne h.bU (by decide)), h.lU, blk_grown h.bF hg (ne h.bF (by decide))⟩, KeptBut.of_grown hg fun b e => by cases e; exact Or.inr (Or.inr (Or.inr (Or.inl rfl)))⟩
 refine blk_put h.bZ.1 (2 + i.toNat) _ ?_
 unfold smC
 rw [List.setIfInBounds_toArray, show 2 + i.toNat = i.toNat + 1 + 1 by omega, List.set_cons_succ, List.set_cons_succ, List.map_set]
end
/-- What the iterator hands out. -/
def EncM (n d : Int) (own : Nat → Prop) (x : List Int) (W : World) (vs : Array Value) : Prop := vs = #[.agg (smC n d x)] ∧ x.length = 12 ∧ ∀ b, own b → b < W.heap.size
section
variable (l base : Nat) (n d N : Int) (Rb Db Yb Zb Ub Fb : Nat) (L : List (List Int)) (J Jx : (Nat → Prop) → List (List Int) → World → Prop)
def YieldsF : Prop := ∀ own pre x vs W1, J own pre W1 → (∃ rest, L = pre ++ x :: rest) → EncM n d own x W1 vs → (∀ b, (b = Rb ∨ b = Db) → own b) → YieldAt Fence.wide 0 Try.prog l vs W1 fun e W' =>
   (e = .returned (.bool true) ∧ J own (pre ++ [x]) W' ∧ RoundKept (fun b => b < base ∨ own b) W1 W') ∨ (e = .returned (.bool false) ∧ Jx own (pre ++ [x]) W')
/-- How a call of from ends. -/
def FromEnd (R : List Bool × List Int × List (List Int)) (e : Ending) (w' : World) : Prop :=
 ∃ b : Bool, e = .returned (.bool b) ∧ ((b = true ∧ FS l n d Rb Db Yb Zb Ub Fb w' R.1 R.2.1 ∧ J (ownF Rb Db Yb Zb Ub Fb) R.2.2 w') ∨ (b = false ∧ ∃ pre, Jx (ownF Rb Db Yb Zb Ub Fb) pre w'))
def FromOk (k : Nat) : Prop := ∀ (us : List Bool) (rs : List Int) (p : Int) (acc : List (List Int)) (R : List Bool × List Int × List (List Int)) (W : World),
 FS l n d Rb Db Yb Zb Ub Fb W us rs → J (ownF Rb Db Yb Zb Ub Fb) acc W → (∃ rest, L = R.2.2 ++ rest) → maze_from.l0 k N d us rs p acc = some R →
 Calls Try.prog 52 (#[.int .i64 p] ++ caF Rb Db Yb Zb Ub Fb) W (FromEnd l n d Rb Db Yb Zb Ub Fb J Jx R)
end
def maze_from.T11 : Bool × List (List Nat × List Nat) := (true, [([], []), ([], []), ([], []), ([], []), ([2, 3], [2, 3]), ([4], [4]), ([], []), ([], []), ([6, 7], [6, 7]), ([8], [8]), ([], []), ([10, 0, 0, 2, 3, 4, 5], [0, 10]), ([11, 5, 0, 2, 3, 4, 5], [5, 11]), ([], []), ([13, 1, 0, 1, 2, 3, 4, 5, 6, 7, 8, 9, 10, 11, 12], [1, 13]), ([14, 9, 12, 0, 1, 2, 3, 4, 5, 6, 7, 8, 9, 10, 11, 12], [9, 14])])
def maze_from.B11 : List Nat := [0, 0, 0, 0, 12, 28, 0, 0, 192, 448, 0, 1085, 3133, 0, 16383, 32767]
theorem maze_from.tab11 : rtab .any (opsOf Try.f52 11) = maze_from.T11 := by kernel_rfl
theorem maze_from.bits11 : waitsOk maze_from.T11.2 maze_from.B11 = true := by kernel_rfl
theorem len12 {rs : List Int} (h : rs.length = 12) : ∃ r0 r1 r2 r3 r4 r5 r6 r7 r8 r9 r10 r11, rs = [r0, r1, r2, r3, r4, r5, r6, r7, r8, r9, r10, r11] := by
 match rs, h with
 | [r0, r1, r2, r3, r4, r5, r6, r7, r8, r9, r10, r11], _ => exact ⟨r0, r1, r2, r3, r4, r5, r6, r7, r8, r9, r10, r11, rfl⟩
set_option maxHeartbeats 1000000 in
set_option maxRecDepth 100000 in
theorem from_step (l base : Nat) (n d N : Int) (Rb Db Yb Zb Ub Fb : Nat) (L : List (List Int)) (J Jx : (Nat → Prop) → List (List Int) → World → Prop)
  (hN : wrap64 (n * d) = N) (hsJ : StableJ base J) (hOwn : ∀ b, ownF Rb Db Yb Zb Ub Fb b → base ≤ b) (hY : YieldsF l base n d Rb Db L J Jx)
  (k : Nat) (ih : ∀ j, j ≤ k → FromOk l n d N Rb Db Yb Zb Ub Fb L J Jx j) : FromOk l n d N Rb Db Yb Zb Ub Fb L J Jx (k + 1) := by
 intro us rs p acc R W hS hJ hL h
 have HS := Aside0.mk hS
 have HJ := Aside0.mk hJ
 have HL := Aside0.mk hL
 have HsJ := Aside0.mk hsJ
 have HOwn := Aside0.mk hOwn
 have HY := Aside0.mk hY
 have IH := Aside0.mk ih
 have H' := Aside0.mk h
 have hN' : IntKind.i64.wrap (n * d) = N := by rw [i64_w]; exact hN
 clear hS hJ hL hsJ hOwn hY ih h hN
 have e1 : (#[Value.int .i64 p] ++ caF Rb Db Yb Zb Ub Fb : Array Value) = #[.int .i64 p, .pointer (some ⟨Rb, 0, none⟩), .pointer (some ⟨Db, 0, none⟩), .pointer (some ⟨Ub, 0, none⟩), .pointer (some ⟨Yb, 0, none⟩), .pointer (some ⟨Zb, 0, none⟩), .pointer (some ⟨Fb, 0, none⟩)] := rfl
 rw [e1]
 clear e1
 go_enter Try.func52, Try.ntmps52
 go_wp2_with fail
 go_loopg [0] (k + 1) (fun kq v0 w' => ∃ (p : Int), v0 = .int .i64 p ∧ Aside0 (maze_from.l0 kq N d us rs p acc = some R) ∧ Aside0 (kq ≤ k + 1) ∧ Aside0 (FS l n d Rb Db Yb Zb Ub Fb w' us rs) ∧ Aside0 (J (ownF Rb Db Yb Zb Ub Fb) acc w'))
 case atStart => exact ⟨p, rfl, H', ⟨Nat.le_refl _⟩, HS, HJ⟩
 case round =>
  clear H' HS HJ p
  obtain ⟨p, rfl, HA, HK, HS, HJ⟩ := hrel
  cases gk with
  | zero => exact absurd HA.out (by simp [maze_from.l0])
  | succ k1 =>
   have H := HA.out
   clear HA
   simp only [maze_from.l0] at H
   have hcR := HS.out.cR
   have hcD := HS.out.cD
   by_cases d1 : p < N
   ·rw [if_pos d1] at H
    by_cases d2 : 0 ≤ p
    ·rw [if_pos d2] at H
     by_cases d3 : p < 12
     ·rw [if_pos d3] at H
      have Q1 := Aside0.mk d2
      have Q2 := Aside0.mk d3
      have hU := HS.out.cU p d2 d3
      have q1 := eq_true d1
      have q2 := eq_true d2
      have q3 := eq_true d3
      have d1b := decide_eq_true d1
      have D1 := Aside0.mk d1
      clear d1 d2 d3
      cases hu : rdOf false us p with
      | true =>
       rw [if_pos hu] at H
       have H' := Aside0.mk H
       rw [hu] at hU
       clear H hu
       go_wp2_with fail
       go_roundg k1
       case measure => omega
       case rel => exact ⟨_, rfl, H', ⟨by have := HK.out; omega⟩, HS, HJ⟩
      | false =>
       rw [if_neg (by rw [hu]; simp)] at H
       have H' := Aside0.mk H
       rw [hu] at hU
       have hUf := HS.out.fU p
       have ePN : (p == N) = false := by have := D1.out; rw [beq_eq_false_iff_ne]; omega
       clear H hu
       go_wp2_with (((with_reducible refine gate_store (t := 4) (p := 31) rfl ?_); refine store_event (t := 4) (p := 31) (v := ?vo) (w1 := (wr.setCell ⟨Ub, p.toNat, none⟩ (.bool true))) ?hg ?ho ?hn ?hr ?_; (case ho => rfl); (case hg => rfl); (case hn => rfl); (case hr => first | (go_simp; done) | (go_simp; rfl)); intro w2 hw;  have hSU := HS.out.setU p Q1.out Q2.out true; rw [← hw] at hSU; have HS2 := Aside0.mk hSU.1; have HJ2 : Aside0 (J (ownF Rb Db Yb Zb Ub Fb) acc w2) := ⟨HsJ.out _ _ _ _ _ HJ.out hSU.2 HOwn.out fun b hb => Or.inl hb⟩; have hcR2 := hSU.1.cR; have hcD2 := hSU.1.cD; clear hSU hw))
       clear hU hUf hcR hcD hcR2 hcD2 HS HJ
       go_loopg [9] k1 (fun kq v9 w' => ∃ (q : Int) (us2 : List Bool) (rs2 : List Int) (acc2 : List (List Int)), v9 = .int .i64 q ∧ Aside0 (maze_from.l1 kq N d us2 rs2 p q acc2 = some R) ∧ Aside0 (kq ≤ k1) ∧ Aside0 (FS l n d Rb Db Yb Zb Ub Fb w' us2 rs2) ∧ Aside0 (J (ownF Rb Db Yb Zb Ub Fb) acc2 w'))
       case atStart => exact ⟨p, _, _, _, rfl, H', ⟨Nat.le_refl _⟩, HS2, HJ2⟩
       case round =>
        clear H' HS2 HJ2
        obtain ⟨q, us2, rs2, acc2, rfl, HA, HK2, HS, HJ⟩ := hrel
        cases gk with
        | zero => exact absurd HA.out (by simp [maze_from.l1])
        | succ k2 =>
         have H := HA.out
         clear HA
         simp only [maze_from.l1] at H
         have hcR := HS.out.cR
         have hcD := HS.out.cD
         by_cases f1 : q < N
         ·rw [if_pos f1] at H
          by_cases f2 : 0 ≤ q
          ·rw [if_pos f2] at H
           by_cases f3 : q < 12
           ·rw [if_pos f3] at H
            have Q3 := Aside0.mk f2
            have Q4 := Aside0.mk f3
            have hU := HS.out.cU q f2 f3
            have hUf := HS.out.fU q
            have r1 := eq_true f1
            have r2 := eq_true f2
            have r3 := eq_true f3
            have f1b := decide_eq_true f1
            clear f1 f2 f3
            by_cases f4 : p < q ∧ rdOf false us2 q = true
            ·rw [if_pos f4] at H
             have H' := Aside0.mk H
             rw [f4.2] at hU
             have f4b := decide_eq_true f4.1
             clear H f4
             go_wp2_with fail
             go_roundg k2
             case measure => omega
             case rel => exact ⟨_, _, _, _, rfl, H', ⟨by have := HK2.out; omega⟩, HS, HJ⟩
            ·rw [if_neg f4] at H
             by_cases f5 : 1 ≤ d
             ·rw [if_pos f5] at H
              obtain ⟨t, h1, h2⟩ := Option.bind_eq_some_iff.1 H
              have H1 := Aside0.mk h1
              have H2 := Aside0.mk h2
              have r5 := eq_true f5
              have F5 := Aside0.mk f5
              have htest : (decide (p < q) = false) ∨ (decide (p < q) = true ∧ rdOf false us2 q = false) := by
               by_cases z : p < q
               ·exact Or.inr ⟨decide_eq_true z, by cases hz : rdOf false us2 q with
                 | false => rfl
                 | true => exact absurd ⟨z, hz⟩ f4⟩
               ·exact Or.inl (decide_eq_false z)
              clear H h1 h2 f4 f5
              rcases htest with hp | ⟨hp, hu0⟩
              all_goals (
               (try rw [hu0] at hU)
               (try clear hu0)
               go_wp2_with (((with_reducible refine gate_store (t := 4) (p := 49) rfl ?_); refine store_event (t := 4) (p := 49) (v := ?vo) (w1 := (wr.setCell ⟨Ub, q.toNat, none⟩ (.bool true))) ?hg ?ho ?hn ?hr ?_; (case ho => rfl); (case hg => rfl); (case hn => rfl); (case hr => first | (go_simp; done) | (go_simp; rfl)); intro wr1 hw;  have hSU := HS.out.setU q Q3.out Q4.out true; rw [← hw] at hSU; have HS1 := Aside0.mk hSU.1; have HJ1 : Aside0 (J (ownF Rb Db Yb Zb Ub Fb) acc2 wr1) := ⟨HsJ.out _ _ _ _ _ HJ.out hSU.2 HOwn.out fun b hb => Or.inl hb⟩; have hcD1 := hSU.1.cD; clear hSU hw))
               clear hU hUf hcR hcD HS HJ
               have hcD := HS1.out.cD
               have hd0 : ¬ d = 0 := by have := F5.out; omega
               have hHeld0 := HS1.out.drew.cD
               refine start_ (n := 16) (S := fun w' => w'.cell? ⟨Db, 0, none⟩ = some (.int .i64 d)) (ds := [15]) #[false, false, false, false, false, false, false, false, false, false, false, false, false, false, false, false] (by kernel_rfl) rfl rfl hHeld0 (fun hHeld => ?_); refine with_tabW maze_from.tab11 maze_from.bits11 (fun HT_ HW_ => ?_)
               have HJ1 : Aside0 (J (ownF Rb Db Yb Zb Ub Fb) acc2 wr1.drew) := ⟨HsJ.out _ _ _ _ _ HJ1.out (KeptBut.of_below (below_drew (Below.refl _ wr1))) HOwn.out fun b hb => Or.inl hb⟩
               have HS1 := Aside0.mk HS1.out.drew
               clear hcD hHeld0
               generalize wr1.drew = wd at HS1 HJ1 hHeld ⊢
               refine pure_ (i := 0) (N := some 50) (v := ?_) (a' := ?_) #[true, false, false, false, false, false, false, false, false, false, false, false, false, false, false, false] rfl rfl (any_of HT_.out (by kernel_rfl)) (fun _ _ _ h => h) (Or.inl ⟨by rfl, ?_⟩) ?_ ?_
               rotate_left
               ·intro w'
                go_simp
                (try with_reducible rfl)
               rotate_left
               ·simp only [Act.put, List.setIfInBounds_toArray, List.set_cons_zero, List.set_cons_succ, i64_w, i32_w]
                rfl
               refine pure_ (i := 1) (N := some 51) (v := ?_) (a' := ?_) #[true, true, false, false, false, false, false, false, false, false, false, false, false, false, false, false] rfl rfl (any_of HT_.out (by kernel_rfl)) (fun _ _ _ h => h) (Or.inl ⟨by rfl, ?_⟩) ?_ ?_
               rotate_left
               ·intro w'
                go_simp
                (try with_reducible rfl)
               rotate_left
               ·simp only [Act.put, List.setIfInBounds_toArray, List.set_cons_zero, List.set_cons_succ, i64_w, i32_w]
                rfl
               refine pure_ (i := 2) (N := some 52) (v := ?_) (a' := ?_) #[true, true, true, false, false, false, false, false, false, false, false, false, false, false, false, false] rfl rfl (any_of HT_.out (by kernel_rfl)) (fun _ _ _ h => h) (Or.inl ⟨by rfl, ?_⟩) ?_ ?_
               rotate_left
               ·intro w'
                go_simp
                (try with_reducible rfl)
               rotate_left
               ·simp only [Act.put, List.setIfInBounds_toArray, List.set_cons_zero, List.set_cons_succ, i64_w, i32_w]
                rfl
               refine pure_ (i := 6) (N := some 56) (v := ?_) (a' := ?_) #[true, true, true, false, false, false, true, false, false, false, false, false, false, false, false, false] rfl rfl (any_of HT_.out (by kernel_rfl)) (fun _ _ _ h => h) (Or.inl ⟨by rfl, ?_⟩) ?_ ?_
               rotate_left
               ·intro w'
                go_simp
                (try with_reducible rfl)
               rotate_left
               ·simp only [Act.put, List.setIfInBounds_toArray, List.set_cons_zero, List.set_cons_succ, i64_w, i32_w]
                rfl
               refine pure_ (i := 10) (N := some 60) (v := ?_) (a' := ?_) #[true, true, true, false, false, false, true, false, false, false, true, false, false, false, false, false] rfl rfl (any_of HT_.out (by kernel_rfl)) (fun _ _ _ h => h) (Or.inl ⟨by rfl, ?_⟩) ?_ ?_
               rotate_left
               ·intro w'
                go_simp
                (try with_reducible rfl)
               rotate_left
               ·simp only [Act.put, List.setIfInBounds_toArray, List.set_cons_zero, List.set_cons_succ, i64_w, i32_w]
                rfl
               refine pure_ (i := 13) (N := some 62) (v := ?_) (a' := ?_) #[true, true, true, false, false, false, true, false, false, false, true, false, false, true, false, false] rfl rfl (any_of HT_.out (by kernel_rfl)) (fun _ _ _ h => h) (Or.inl ⟨by rfl, ?_⟩) ?_ ?_
               rotate_left
               ·intro w'
                go_simp
                (try with_reducible rfl)
               rotate_left
               ·simp only [Act.put, List.setIfInBounds_toArray, List.set_cons_zero, List.set_cons_succ, i64_w, i32_w]
                rfl
               refine take_ (i := 3) (N := some 53) (v := ?_) (a' := ?_) #[true, true, true, true, false, false, true, false, false, false, true, false, false, true, false, false] rfl rfl (take_ofW HT_.out HW_.out (by kernel_rfl)) (fun _ _ _ h => h) (Or.inl ⟨by rfl, ?_⟩) hHeld ?_ ?_
               rotate_left
               ·intro w' s0
                go_simp
                (try with_reducible rfl)
               rotate_left
               ·simp only [Act.put, List.setIfInBounds_toArray, List.set_cons_zero, List.set_cons_succ, i64_w, i32_w]
                rfl
               refine pure_ (i := 4) (N := some 54) (v := ?_) (a' := ?_) #[true, true, true, true, true, false, true, false, false, false, true, false, false, true, false, false] rfl rfl (any_of HT_.out (by kernel_rfl)) (fun _ _ _ h => h) (Or.inl ⟨by rfl, ?_⟩) ?_ ?_
               rotate_left
               ·intro w'
                go_simp
                (try with_reducible rfl)
               rotate_left
               ·simp only [Act.put, List.setIfInBounds_toArray, List.set_cons_zero, List.set_cons_succ, i64_w, i32_w]
                rfl
               refine pure_ (i := 5) (N := some 55) (v := ?_) (a' := ?_) #[true, true, true, true, true, true, true, false, false, false, true, false, false, true, false, false] rfl rfl (any_of HT_.out (by kernel_rfl)) (fun _ _ _ h => h) (Or.inl ⟨by rfl, ?_⟩) ?_ ?_
               rotate_left
               ·intro w'
                go_simp
                (try with_reducible rfl)
               rotate_left
               ·simp only [Act.put, List.setIfInBounds_toArray, List.set_cons_zero, List.set_cons_succ, i64_w, i32_w]
                rfl
               refine pure_ (i := 11) (N := some 61) (v := ?_) (a' := ?_) #[true, true, true, true, true, true, true, false, false, false, true, true, false, true, false, false] rfl rfl (any_of HT_.out (by kernel_rfl)) (fun _ _ _ h => h) (Or.inl ⟨by rfl, ?_⟩) ?_ ?_
               rotate_left
               ·intro w'
                go_simp
                (try with_reducible rfl)
               rotate_left
               ·simp only [Act.put, List.setIfInBounds_toArray, List.set_cons_zero, List.set_cons_succ, i64_w, i32_w]
                rfl
               refine take_ (i := 7) (N := some 57) (v := ?_) (a' := ?_) #[true, true, true, true, true, true, true, true, false, false, true, true, false, true, false, false] rfl rfl (take_ofW HT_.out HW_.out (by kernel_rfl)) (fun _ _ _ h => h) (Or.inl ⟨by rfl, ?_⟩) hHeld ?_ ?_
               rotate_left
               ·intro w' s0
                go_simp
                (try with_reducible rfl)
               rotate_left
               ·simp only [Act.put, List.setIfInBounds_toArray, List.set_cons_zero, List.set_cons_succ, i64_w, i32_w]
                rfl
               refine pure_ (i := 8) (N := some 58) (v := ?_) (a' := ?_) #[true, true, true, true, true, true, true, true, true, false, true, true, false, true, false, false] rfl rfl (any_of HT_.out (by kernel_rfl)) (fun _ _ _ h => h) (Or.inl ⟨by rfl, ?_⟩) ?_ ?_
               rotate_left
               ·intro w'
                go_simp
                (try with_reducible rfl)
               rotate_left
               ·simp only [Act.put, List.setIfInBounds_toArray, List.set_cons_zero, List.set_cons_succ, i64_w, i32_w]
                rfl
               refine pure_ (i := 9) (N := some 59) (v := ?_) (a' := ?_) #[true, true, true, true, true, true, true, true, true, true, true, true, false, true, false, false] rfl rfl (any_of HT_.out (by kernel_rfl)) (fun _ _ _ h => h) (Or.inl ⟨by rfl, ?_⟩) ?_ ?_
               rotate_left
               ·intro w'
                go_simp
                (try with_reducible rfl)
               rotate_left
               ·simp only [Act.put, List.setIfInBounds_toArray, List.set_cons_zero, List.set_cons_succ, i64_w, i32_w]
                rfl
               refine one_ (i := 12) (N := none) #[true, true, true, true, true, true, true, true, true, true, true, true, true, true, false, false] rfl rfl (one_of HT_.out (by kernel_rfl)) (by decide) (fun K hK => ?_)
               have hZc := HS1.out.cZ p Q1.out Q2.out
               have hZf := HS1.out.fZ p
               refine skip_ (w1 := wd.setCell ⟨Zb, 2 + p.toNat, none⟩ (.int .u8 (u8d q d))) (by rfl) rfl (by first | (go_simp; done) | (go_simp; rfl)) ?_
               have hZ1 := HS1.out.setZ p Q1.out Q2.out (u8d q d)
               have HS2 := Aside0.mk hZ1.1
               have HJ2 : Aside0 (J (ownF Rb Db Yb Zb Ub Fb) acc2 (wd.setCell ⟨Zb, 2 + p.toNat, none⟩ (.int .u8 (u8d q d)))) := ⟨HsJ.out _ _ _ _ _ HJ1.out hZ1.2 HOwn.out fun b hb => Or.inl hb⟩
               clear hZ1 HS1 HJ1 hZc hZf
               generalize wd.setCell ⟨Zb, 2 + p.toNat, none⟩ (.int .u8 (u8d q d)) = wr2 at HS2 HJ2 ⊢
               refine hK.out _ _ HS2.out.cD (fun hHeld => ?_)
               clear hK K
               refine pure_ (i := 14) (N := some 63) (v := ?_) (a' := ?_) #[true, true, true, true, true, true, true, true, true, true, true, true, true, true, true, false] rfl rfl (any_of HT_.out (by kernel_rfl)) (fun _ _ _ h => h) (Or.inl ⟨by rfl, ?_⟩) ?_ ?_
               rotate_left
               ·intro w'
                go_simp
                (try with_reducible rfl)
               rotate_left
               ·simp only [Act.put, List.setIfInBounds_toArray, List.set_cons_zero, List.set_cons_succ, i64_w, i32_w]
                rfl
               refine last_ (i := 15) (N := none) #[true, true, true, true, true, true, true, true, true, true, true, true, true, true, true, true] rfl rfl (one_of HT_.out (by kernel_rfl)) (by decide) (fun K hK => ?_)
               have hZc := HS2.out.cZ q Q3.out Q4.out
               have hZf := HS2.out.fZ q
               refine skip_ (w1 := wr2.setCell ⟨Zb, 2 + q.toNat, none⟩ (.int .u8 (u8d p d))) (by rfl) rfl (by first | (go_simp; done) | (go_simp; rfl)) ?_
               have hZ1 := HS2.out.setZ q Q3.out Q4.out (u8d p d)
               have HS3 := Aside0.mk hZ1.1
               have HJ3 : Aside0 (J (ownF Rb Db Yb Zb Ub Fb) acc2 (wr2.setCell ⟨Zb, 2 + q.toNat, none⟩ (.int .u8 (u8d p d)))) := ⟨HsJ.out _ _ _ _ _ HJ2.out hZ1.2 HOwn.out fun b hb => Or.inl hb⟩
               clear hZ1 HS2 HJ2 hZc hZf
               generalize wr2.setCell ⟨Zb, 2 + q.toNat, none⟩ (.int .u8 (u8d p d)) = wr3 at HS3 HJ3 ⊢
               refine hK.out _ _ ?_
               clear hK K
               refine done_ (done_of HT_.out (by kernel_rfl)) ?_
               have hcF := HS3.out.cF
               have hLt : ∃ rest, L = t.2.2 ++ rest := by
                obtain ⟨r1, e1⟩ := (maze_from.pre_l k2).2 _ _ _ _ _ _ _ _ H2.out
                obtain ⟨r2, e2⟩ := HL.out
                exact ⟨r1 ++ r2, by rw [e2, e1, List.append_assoc]⟩
               have HC := Aside0.mk (IH.out k2 (by have := HK.out; have := HK2.out; omega) _ _ _ _ t wr3 HS3.out HJ3.out hLt H1.out)
               have e1 : (#[Value.int .i64 (wrap64 (p + 1))] ++ caF Rb Db Yb Zb Ub Fb : Array Value) = #[.int .i64 (wrap64 (p + 1)), .pointer (some ⟨Rb, 0, none⟩), .pointer (some ⟨Db, 0, none⟩), .pointer (some ⟨Ub, 0, none⟩), .pointer (some ⟨Yb, 0, none⟩), .pointer (some ⟨Zb, 0, none⟩), .pointer (some ⟨Fb, 0, none⟩)] := rfl
               rw [e1] at HC
               unfold caF at hcF
               clear hLt e1
               go_wp2_with fail
               with_reducible refine HC.out.mono ?_
               rintro e w5 ⟨bq, rfl, hD⟩
               rcases hD with ⟨rfl, hS5, hJ5⟩ | ⟨rfl, pre, hx5⟩
               rotate_left
               ·have HX5 := Aside0.mk hx5
                clear hx5 HC
                go_wp2_with fail
                go_ret
                exact ⟨false, rfl, Or.inr ⟨rfl, pre, HX5.out⟩⟩
               have HS5 := Aside0.mk hS5
               have HJ5 := Aside0.mk hJ5
               clear HC HS3 HJ3 hS5 hJ5 hcF
               have hU5 := HS5.out.cU q Q3.out Q4.out
               have hUf5 := HS5.out.fU q
               have hcR5 := HS5.out.cR
               have hcD5 := HS5.out.cD
               go_wp2_with fail
               have hSU := HS5.out.setU q Q3.out Q4.out (q == p)
               have HS6 := Aside0.mk hSU.1
               have HJ6 : Aside0 (J (ownF Rb Db Yb Zb Ub Fb) t.2.2 (w5.setCell ⟨Ub, q.toNat, none⟩ (.bool (q == p)))) := ⟨HsJ.out _ _ _ _ _ HJ5.out hSU.2 HOwn.out fun b hb => Or.inl hb⟩
               clear hSU
               go_roundg k2
               case measure => omega
               case rel => exact ⟨_, _, _, _, rfl, H2, ⟨by have := HK2.out; omega⟩, HS6, HJ6⟩)
             ·rw [if_neg f5] at H; exact absurd H (by simp)
           ·rw [if_neg f3] at H; exact absurd H (by simp)
          ·rw [if_neg f2] at H; exact absurd H (by simp)
         ·rw [if_neg f1] at H
          obtain rfl := Option.some.inj H
          have f1b := decide_eq_false f1
          have hU := HS.out.cU p Q1.out Q2.out
          have hUf := HS.out.fU p
          have q5 := eq_true Q1.out
          have q6 := eq_true Q2.out
          clear H f1
          go_wp2_with fail
          go_ret
          have hSU := HS.out.setU p Q1.out Q2.out false
          exact ⟨true, rfl, Or.inl ⟨rfl, hSU.1, HsJ.out _ _ _ _ _ HJ.out hSU.2 HOwn.out fun b hb => Or.inl hb⟩⟩
     ·rw [if_neg d3] at H; exact absurd H (by simp)
    ·rw [if_neg d2] at H; exact absurd H (by simp)
   ·rw [if_neg d1] at H
    by_cases d2 : p = N
    ·rw [if_pos d2] at H
     obtain rfl := Option.some.inj H
     have d1b := decide_eq_false d1
     have d2b : (p == N) = true := by rw [d2]; exact beq_self_eq_true N
     have hcY := HS.out.cY
     obtain ⟨r0, r1, r2, r3, r4, r5, r6, r7, r8, r9, r10, r11, hrs⟩ := len12 HS.out.bZ.2
     subst hrs
     have hz0 : wr.cell? ⟨Zb, 0, none⟩ = some (.int .i64 n) := (blk_cell HS.out.bZ.1 0).trans rfl
     have hz1 : wr.cell? ⟨Zb, 1, none⟩ = some (.int .i64 d) := (blk_cell HS.out.bZ.1 1).trans rfl
     have hz2 : wr.cell? ⟨Zb, 2, none⟩ = some (.int .u8 r0) := (blk_cell HS.out.bZ.1 2).trans rfl
     have hz3 : wr.cell? ⟨Zb, 3, none⟩ = some (.int .u8 r1) := (blk_cell HS.out.bZ.1 3).trans rfl
     have hz4 : wr.cell? ⟨Zb, 4, none⟩ = some (.int .u8 r2) := (blk_cell HS.out.bZ.1 4).trans rfl
     have hz5 : wr.cell? ⟨Zb, 5, none⟩ = some (.int .u8 r3) := (blk_cell HS.out.bZ.1 5).trans rfl
     have hz6 : wr.cell? ⟨Zb, 6, none⟩ = some (.int .u8 r4) := (blk_cell HS.out.bZ.1 6).trans rfl
     have hz7 : wr.cell? ⟨Zb, 7, none⟩ = some (.int .u8 r5) := (blk_cell HS.out.bZ.1 7).trans rfl
     have hz8 : wr.cell? ⟨Zb, 8, none⟩ = some (.int .u8 r6) := (blk_cell HS.out.bZ.1 8).trans rfl
     have hz9 : wr.cell? ⟨Zb, 9, none⟩ = some (.int .u8 r7) := (blk_cell HS.out.bZ.1 9).trans rfl
     have hz10 : wr.cell? ⟨Zb, 10, none⟩ = some (.int .u8 r8) := (blk_cell HS.out.bZ.1 10).trans rfl
     have hz11 : wr.cell? ⟨Zb, 11, none⟩ = some (.int .u8 r9) := (blk_cell HS.out.bZ.1 11).trans rfl
     have hz12 : wr.cell? ⟨Zb, 12, none⟩ = some (.int .u8 r10) := (blk_cell HS.out.bZ.1 12).trans rfl
     have hz13 : wr.cell? ⟨Zb, 13, none⟩ = some (.int .u8 r11) := (blk_cell HS.out.bZ.1 13).trans rfl
     clear H d1 d2
     obtain ⟨fn, tmps, assign, body, hy, hrnd⟩ := HY.out (ownF Rb Db Yb Zb Ub Fb) acc _ #[.agg (smC n d [r0, r1, r2, r3, r4, r5, r6, r7, r8, r9, r10, r11])] wr HJ.out (by obtain ⟨r, hr⟩ := HL.out; exact ⟨r, by rw [hr]; simp⟩) ⟨rfl, HS.out.bZ.2, HS.out.lt⟩ (fun b hb => hb.elim (fun h => Or.inl h) fun h => Or.inr (Or.inl h))
     have HRN := Aside0.mk hrnd
     have hy' : (Instr.yield l #[.agg #[.int .i64 n, .int .i64 d, .int .u8 r0, .int .u8 r1, .int .u8 r2, .int .u8 r3, .int .u8 r4, .int .u8 r5, .int .u8 r6, .int .u8 r7, .int .u8 r8, .int .u8 r9, .int .u8 r10, .int .u8 r11]]).run Try.prog wr = .ok (.round l fn tmps assign body) wr := hy
     clear hrnd hy
     go_upto_region 4 with (fail)
     go_cut [8] from 27 to 29 (fun v8 wc => ∃ bq : Bool, v8 = Value.bool bq ∧ Aside0 ((bq = true ∧ FS l n d Rb Db Yb Zb Ub Fb wc us [r0, r1, r2, r3, r4, r5, r6, r7, r8, r9, r10, r11] ∧ J (ownF Rb Db Yb Zb Ub Fb) (acc ++ [[r0, r1, r2, r3, r4, r5, r6, r7, r8, r9, r10, r11]]) wc) ∨ (bq = false ∧ ∃ pre, Jx (ownF Rb Db Yb Zb Ub Fb) pre wc)))
     case first =>
      refine (wpIn_wide (n := 0)).1 ?_
      gi_wp2_with (refine ⟨rfl, HRN.out.mono ?_⟩; intro e w3 hE;  obtain ⟨bq, rfl, hD⟩ : ∃ bq : Bool, e = .returned (.bool bq) ∧ ((bq = true ∧ J (ownF Rb Db Yb Zb Ub Fb) (acc ++ [[r0, r1, r2, r3, r4, r5, r6, r7, r8, r9, r10, r11]]) w3 ∧ RoundKept (fun b => b < base ∨ ownF Rb Db Yb Zb Ub Fb b) wr w3) ∨ (bq = false ∧ Jx (ownF Rb Db Yb Zb Ub Fb) (acc ++ [[r0, r1, r2, r3, r4, r5, r6, r7, r8, r9, r10, r11]]) w3)) := (by rcases hE with ⟨h1, h2, h3⟩ | ⟨h1, h2⟩; exact ⟨true, h1, Or.inl ⟨rfl, h2, h3⟩⟩; exact ⟨false, h1, Or.inr ⟨rfl, h2⟩⟩); clear hE)
      have HD : Aside0 ((bq = true ∧ FS l n d Rb Db Yb Zb Ub Fb w3 us [r0, r1, r2, r3, r4, r5, r6, r7, r8, r9, r10, r11] ∧ J (ownF Rb Db Yb Zb Ub Fb) (acc ++ [[r0, r1, r2, r3, r4, r5, r6, r7, r8, r9, r10, r11]]) w3) ∨ (bq = false ∧ ∃ pre, Jx (ownF Rb Db Yb Zb Ub Fb) pre w3)) := ⟨hD.imp (fun h => ⟨h.1, HS.out.round h.2.2, h.2.1⟩) (fun h => ⟨h.1, _, h.2⟩)⟩
      clear hD
      go_meet
      case rel => exact ⟨bq, rfl, HD⟩
     case rest =>
      obtain ⟨bq, rfl, HD⟩ := hcut
      go_wp2_with fail
      go_ret
      exact ⟨bq, rfl, HD.out⟩
    ·rw [if_neg d2] at H; exact absurd H (by simp)
end Go.Proofs.Ytgbjbgdnldklpaa.Q
end
